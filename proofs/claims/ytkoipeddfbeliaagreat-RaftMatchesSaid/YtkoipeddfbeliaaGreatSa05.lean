import Derived.Test.YtkoipeddfbeliaaGreatSa03
import Derived.Test.YtkoipeddfbeliaaGreatSa04
/-
  PRINTED BY wip/gen.py: what the functions ask and do, one by one.
-/
namespace Go.Proofs.YtkoipeddfbeliaaGreat
namespace Rx
open Go.RowKit
set_option maxRecDepth 100000
set_option linter.unusedVariables false

/-- (*compline/entry.Log).Base -/
def F26 (x0 : Addr) (w : World) (R : Value → World → Prop) : Prop :=
 vdraw w fun w1 => ∃ (i2 : Int), w1.cell? (x0.add 0) = some (.int .u64 (i2)) ∧ ∃ (i3 : Int), w1.cell? (x0.add 1) = some (.int .u64 (i3)) ∧ R (.tuple #[.int .u64 (i2), .int .u64 (i3)]) w1

def A26 : Ann := .seq (.leaf) (.seq (.seq (.leaf) (.two (.seq (.leaf) (.leaf)) (.leaf))) (.seq (.ord (.op 0 (.op 1 (.op 2 (.op 4 (.op 5 (.op 6 (.op 3 (.op 8 (.op 7 (.op 9 .done))))))))))) (.leaf)))

theorem e26 (x0 : Addr) (w : World) (R : Value → World → Prop) : F26 x0 w R = vfun Tryz.prog Tryz.f26 A26 [.pointer (some x0)] w R := by kernel_rfl
theorem c26 (x0 : Addr) (w : World) {R : Value → World → Prop} (h : F26 x0 w R) : Calls Tryz.prog 26 #[.pointer (some x0)] w fun e w' => ∃ v, e = .returned v ∧ R v w' :=
  calls_of_vfun (an := A26) mixed Tryz.func26 (by kernel_rfl) (by kernel_rfl) ((e26 x0 w R).mp h)

/-- (*compline/entry.Log).From -/
def F27 (x0 : Addr) (x1 : Int) (x2 : Int) (w : World) (R : Value → World → Prop) : Prop :=
 Calls Tryz.prog 33 #[.pointer (some x0)] w fun e1 w2 => ∃ (i3 : Int), ∃ (i4 : Int), e1 = .returned (.tuple #[.int .u64 (i3), .int .u64 (i4)]) ∧ ∃ (i5 : Int), w2.cell? (x0.add 0) = some (.int .u64 (i5)) ∧ vif (decide ((x1 : Int) ≤ i5))
 (R (.tuple #[.slice Option.none 0 0, .int .i64 20]) w2)
 (vif (decide (((IntKind.u64.wrap (x1 - 1)) : Int) > i3))
 (R (.tuple #[.slice Option.none 0 0, .int .i64 7]) w2)
 (vdraw w2 fun w6 => ∃ (s7 : Option Addr) (s7n s7c : Nat), w6.cell? (x0.add 2) = some (.slice s7 s7n s7c) ∧ ∃ (i8 : Int), w6.cell? (x0.add 0) = some (.int .u64 (i8)) ∧ vslice 4 s7 s7n s7c (some (.int .u64 (IntKind.u64.wrap ((IntKind.u64.wrap (x1 - i8)) - 1)))) none none fun s9 s9n s9c => ∃ (I10 : List Value → World → Prop) (μ11 : List Value → World → Nat), (I10 [.slice Option.none 0 0, .int .i64 0] w6)
 ∧ (∀ (s12 : Option Addr) (s12n s12c : Nat), ∀ (i13 : Int), ∀ w14, I10 [.slice s12 s12n s12c, .int .i64 (i13)] w14 → vif (decide ((i13 : Int) < (s9n : Nat)))
 (vidx s9 s9n i13 fun a15 => vcells 4 w14 (a15.add ((i13 : Int).toNat * 4)) fun g16 => vnew w14 (.cells #[.int .u64 0, .int .u64 0, .bool false, .slice Option.none 0 0] 47) fun a17 w18 => vstoreN w18 a17 4 g16 fun w19 => vif (decide (((s12n : Nat) : Int) ≥ x2))
 (R (.tuple #[.slice s12 s12n s12c, .int .i64 0]) w19)
 (vcells 4 w19 a17 fun g20 => Calls Tryz.prog 55 #[.agg g20] w19 fun e21 w22 => ∃ (g23 : Array Value), g23.size = 4 ∧ e21 = .returned (.agg g23) ∧ g23.size = 4 ∧ (#[.int .u64 0, .int .u64 0, .bool false, .slice Option.none 0 0] : Array Value).size = 4 ∧ vnew w22 (.cells (g23.toList ++ []).toArray 47) fun a24 w25 => vappend Tryz.prog 47 w25 s12 s12n s12c (some a24) 1 fun s26 s26n s26c w27 => I10 [.slice s26 s26n s26c, .int .i64 (IntKind.i64.wrap (i13 + 1))] w27 ∧ μ11 [.slice s26 s26n s26c, .int .i64 (IntKind.i64.wrap (i13 + 1))] w27 < μ11 [.slice s12 s12n s12c, .int .i64 (i13)] w14))
 (R (.tuple #[.slice s12 s12n s12c, .int .i64 0]) w14))))

def A27 : Ann := .seq (.leaf) (.seq (.leaf) (.seq (.one (.seq (.leaf) (.two (.seq (.leaf) (.leaf)) (.seq (.leaf) (.two (.seq (.leaf) (.leaf)) (.seq (.leaf) (.two (.seq (.leaf) (.leaf)) (.leaf)))))))) (.seq (.leaf) (.seq (.seq (.ord (.op 0 (.op 1 (.op 2 (.op 4 (.op 5 (.op 6 (.op 7 (.op 13 (.op 3 (.op 8 (.op 9 (.op 10 (.op 11 (.op 12 .done))))))))))))))) (.one (.loop [(10, .slice), (46, .int .i64)] (.seq (.leaf) (.seq (.two (.leaf) (.leaf)) (.seq (.one (.seq (.leaf) (.seq (.seq (.leaf) (.two (.leaf) (.leaf))) (.leaf)))) (.leaf))))))) (.seq (.leaf) (.leaf))))))

theorem e27 (x0 : Addr) (x1 : Int) (x2 : Int) (w : World) (R : Value → World → Prop) : F27 x0 x1 x2 w R = vfun Tryz.prog Tryz.f27 A27 [.pointer (some x0), .int .u64 (x1), .int .i64 (x2)] w R := by kernel_rfl
theorem c27 (x0 : Addr) (x1 : Int) (x2 : Int) (w : World) {R : Value → World → Prop} (h : F27 x0 x1 x2 w R) : Calls Tryz.prog 27 #[.pointer (some x0), .int .u64 (x1), .int .i64 (x2)] w fun e w' => ∃ v, e = .returned v ∧ R v w' :=
  calls_of_vfun (an := A27) mixed Tryz.func27 (by kernel_rfl) (by kernel_rfl) ((e27 x0 x1 x2 w R).mp h)

/-- (*compline/entry.Log).Last -/
def F33 (x0 : Addr) (w : World) (R : Value → World → Prop) : Prop :=
 ∃ (s1 : Option Addr) (s1n s1c : Nat), w.cell? (x0.add 2) = some (.slice s1 s1n s1c) ∧ vif (((s1n : Nat) : Int) == 0)
 (Calls Tryz.prog 26 #[.pointer (some x0)] w fun e2 w3 => ∃ (i4 : Int), ∃ (i5 : Int), e2 = .returned (.tuple #[.int .u64 (i4), .int .u64 (i5)]) ∧ R (.tuple #[.int .u64 (i4), .int .u64 (i5)]) w3)
 (vdraw w fun w6 => ∃ (s7 : Option Addr) (s7n s7c : Nat), w6.cell? (x0.add 2) = some (.slice s7 s7n s7c) ∧ ∃ (s8 : Option Addr) (s8n s8c : Nat), w6.cell? (x0.add 2) = some (.slice s8 s8n s8c) ∧ vidx s7 s7n (IntKind.i64.wrap ((s8n : Nat) - 1)) fun a9 => vcells 4 w6 (a9.add ((IntKind.i64.wrap ((s8n : Nat) - 1) : Int).toNat * 4)) fun g10 => vnew w6 (.cells #[.int .u64 0, .int .u64 0, .bool false, .slice Option.none 0 0] 47) fun a11 w12 => vstoreN w12 a11 4 g10 fun w13 => vdraw w13 fun w14 => ∃ (i15 : Int), w14.cell? (a11.add 0) = some (.int .u64 (i15)) ∧ ∃ (i16 : Int), w14.cell? (a11.add 1) = some (.int .u64 (i16)) ∧ R (.tuple #[.int .u64 (i15), .int .u64 (i16)]) w14)

def A33 : Ann := .seq (.leaf) (.seq (.seq (.leaf) (.two (.seq (.leaf) (.leaf)) (.leaf))) (.seq (.ord (.op 0 (.op 1 (.op 2 (.op 4 (.op 5 (.op 6 (.op 3 (.op 7 (.op 8 (.op 9 (.op 10 (.op 11 (.op 12 (.op 13 .done))))))))))))))) (.seq (.ord (.op 0 (.op 2 (.op 1 (.op 4 (.op 3 (.op 5 .done))))))) (.leaf))))

theorem e33 (x0 : Addr) (w : World) (R : Value → World → Prop) : F33 x0 w R = vfun Tryz.prog Tryz.f33 A33 [.pointer (some x0)] w R := by kernel_rfl
theorem c33 (x0 : Addr) (w : World) {R : Value → World → Prop} (h : F33 x0 w R) : Calls Tryz.prog 33 #[.pointer (some x0)] w fun e w' => ∃ v, e = .returned v ∧ R v w' :=
  calls_of_vfun (an := A33) mixed Tryz.func33 (by kernel_rfl) (by kernel_rfl) ((e33 x0 w R).mp h)

/-- compline/entry.New -/
def F48 (x0 : Int) (x1 : Int) (w : World) (R : Value → World → Prop) : Prop :=
 vnew w (.cells #[.int .u64 (x0), .int .u64 (x1), .slice Option.none 0 0] 99) fun a1 w2 => R (.pointer (some a1)) w2

def A48 : Ann := .seq (.leaf) (.seq (.leaf) (.leaf))

theorem e48 (x0 : Int) (x1 : Int) (w : World) (R : Value → World → Prop) : F48 x0 x1 w R = vfun Tryz.prog Tryz.f48 A48 [.int .u64 (x0), .int .u64 (x1)] w R := by kernel_rfl
theorem c48 (x0 : Int) (x1 : Int) (w : World) {R : Value → World → Prop} (h : F48 x0 x1 w R) : Calls Tryz.prog 48 #[.int .u64 (x0), .int .u64 (x1)] w fun e w' => ∃ v, e = .returned v ∧ R v w' :=
  calls_of_vfun (an := A48) mixed Tryz.func48 (by kernel_rfl) (by kernel_rfl) ((e48 x0 x1 w R).mp h)

/-- (*compline/entry.Log).Put -/
def F49 (x0 : Addr) (x1 : Int) (x2 : Int) (x3 : Option Addr) (x3n x3c : Nat) (w : World) (R : Value → World → Prop) : Prop :=
 Calls Tryz.prog 77 #[.int .u64 (x1), .int .u64 (x2), .slice x3 x3n x3c] w fun e1 w2 => ∃ (i3 : Int), e1 = .returned (.int .i64 (i3)) ∧ vif ((i3 : Int) != 0)
 (R (.tuple #[.int .u64 0, .int .i64 (i3)]) w2)
 (Calls Tryz.prog 52 #[.pointer (some x0), .int .u64 (x1)] w2 fun e4 w5 => ∃ (i6 : Int), ∃ (i7 : Int), e4 = .returned (.tuple #[.int .u64 (i6), .int .i64 (i7)]) ∧ vif ((i7 : Int) != 0)
 (R (.tuple #[.int .u64 0, .int .i64 (i7)]) w5)
 (vif ((i6 : Int) != x2)
 (R (.tuple #[.int .u64 0, .int .i64 17]) w5)
 (Calls Tryz.prog 78 #[.pointer (some x0), .slice x3 x3n x3c] w5 fun e8 w9 => ∃ (i10 : Int), e8 = .returned (.int .i64 (i10)) ∧ vslice 4 x3 x3n x3c (some (.int .i64 (i10))) none none fun s11 s11n s11c => vif (((s11n : Nat) : Int) == 0)
 (R (.tuple #[.int .u64 0, .int .i64 0]) w9)
 (vdraw w9 fun w12 => vidx s11 s11n 0 fun a13 => ∃ (i14 : Int), w12.cell? ((a13.add ((0 : Int).toNat * 4)).add 0) = some (.int .u64 (i14)) ∧ ∃ (i15 : Int), w12.cell? (x0.add 0) = some (.int .u64 (i15)) ∧ vif (decide (((IntKind.i64.wrap ((IntKind.i64.wrap (IntKind.u64.wrap ((IntKind.u64.wrap (i14 - i15)) - 1))) + (s11n : Nat))) : Int) > 1024))
 (R (.tuple #[.int .u64 0, .int .i64 6]) w12)
 (∃ (s16 : Option Addr) (s16n s16c : Nat), w12.cell? (x0.add 2) = some (.slice s16 s16n s16c) ∧ vslice 4 s16 s16n s16c none (some (.int .i64 (IntKind.i64.wrap (IntKind.u64.wrap ((IntKind.u64.wrap (i14 - i15)) - 1))))) (some (.int .i64 (IntKind.i64.wrap (IntKind.u64.wrap ((IntKind.u64.wrap (i14 - i15)) - 1))))) fun s17 s17n s17c => vstore1 w12 (x0.add 2) (.slice s17 s17n s17c) fun w18 => ∃ (I19 : List Value → World → Prop) (μ20 : List Value → World → Nat), (I19 [.int .i64 0] w18)
 ∧ (∀ (i21 : Int), ∀ w22, I19 [.int .i64 (i21)] w22 → vif (decide ((i21 : Int) < (s11n : Nat)))
 (vidx s11 s11n i21 fun a23 => vcells 4 w22 (a23.add ((i21 : Int).toNat * 4)) fun g24 => vnew w22 (.cells #[.int .u64 0, .int .u64 0, .bool false, .slice Option.none 0 0] 47) fun a25 w26 => vstoreN w26 a25 4 g24 fun w27 => vdraw w27 fun w28 => ∃ J29 : World → Prop, J29 w28 ∧ vcells 4 w28 a25 fun g30 => ∃ (s31 : Option Addr) (s31n s31c : Nat), (∀ w, J29 w → w.cell? (x0.add 2) = some (.slice s31 s31n s31c)) ∧ Calls Tryz.prog 55 #[.agg g30] w28 fun e32 w33 => ∃ (g34 : Array Value), g34.size = 4 ∧ e32 = .returned (.agg g34) ∧ J29 w33 ∧ g34.size = 4 ∧ (#[.int .u64 0, .int .u64 0, .bool false, .slice Option.none 0 0] : Array Value).size = 4 ∧ vnew w33 (.cells (g34.toList ++ []).toArray 47) fun a35 w36 => J29 w36 ∧ vappend Tryz.prog 47 w36 s31 s31n s31c (some a35) 1 fun s37 s37n s37c w38 => vstore1 w38 (x0.add 2) (.slice s37 s37n s37c) fun w39 => I19 [.int .i64 (IntKind.i64.wrap (i21 + 1))] w39 ∧ μ20 [.int .i64 (IntKind.i64.wrap (i21 + 1))] w39 < μ20 [.int .i64 (i21)] w22)
 (vidx s11 s11n 0 fun a40 => ∃ (i41 : Int), w22.cell? ((a40.add ((0 : Int).toNat * 4)).add 0) = some (.int .u64 (i41)) ∧ R (.tuple #[.int .u64 (i41), .int .i64 0]) w22)))))))

def A49 : Ann := .seq (.leaf) (.seq (.seq (.leaf) (.two (.seq (.leaf) (.leaf)) (.leaf))) (.seq (.seq (.leaf) (.seq (.leaf) (.two (.seq (.leaf) (.leaf)) (.leaf)))) (.seq (.leaf) (.seq (.one (.seq (.leaf) (.two (.seq (.leaf) (.leaf)) (.seq (.leaf) (.two (.seq (.leaf) (.leaf)) (.leaf)))))) (.seq (.leaf) (.seq (.seq (.leaf) (.two (.seq (.leaf) (.leaf)) (.leaf))) (.seq (.ord (.op 0 (.op 1 (.op 2 (.op 4 (.op 5 (.op 6 (.op 3 (.op 7 (.op 8 (.op 9 (.op 10 (.op 11 .done))))))))))))) (.seq (.seq (.leaf) (.two (.seq (.leaf) (.leaf)) (.leaf))) (.seq (.leaf) (.seq (.seq (.leaf) (.one (.loop [(74, .int .i64)] (.seq (.leaf) (.seq (.two (.leaf) (.leaf)) (.seq (.one (.seq (.leaf) (.ordJ (.op 0 (.op 1 (.op 2 (.op 3 (.op 5 (.far 4 (.op 6 (.op 7 (.rest (.op 8 (.op 9 (.op 10 (.op 11 .done)))))))))))))))) (.leaf))))))) (.seq (.leaf) (.leaf))))))))))))

theorem e49 (x0 : Addr) (x1 : Int) (x2 : Int) (x3 : Option Addr) (x3n x3c : Nat) (w : World) (R : Value → World → Prop) : F49 x0 x1 x2 x3 x3n x3c w R = vfun Tryz.prog Tryz.f49 A49 [.pointer (some x0), .int .u64 (x1), .int .u64 (x2), .slice x3 x3n x3c] w R := by kernel_rfl
theorem c49 (x0 : Addr) (x1 : Int) (x2 : Int) (x3 : Option Addr) (x3n x3c : Nat) (w : World) {R : Value → World → Prop} (h : F49 x0 x1 x2 x3 x3n x3c w R) : Calls Tryz.prog 49 #[.pointer (some x0), .int .u64 (x1), .int .u64 (x2), .slice x3 x3n x3c] w fun e w' => ∃ v, e = .returned v ∧ R v w' :=
  calls_of_vfun (an := A49) mixed Tryz.func49 (by kernel_rfl) (by kernel_rfl) ((e49 x0 x1 x2 x3 x3n x3c w R).mp h)

/-- (*compline/entry.Log).Term -/
def F52 (x0 : Addr) (x1 : Int) (w : World) (R : Value → World → Prop) : Prop :=
 Calls Tryz.prog 33 #[.pointer (some x0)] w fun e1 w2 => ∃ (i3 : Int), ∃ (i4 : Int), e1 = .returned (.tuple #[.int .u64 (i3), .int .u64 (i4)]) ∧ ∃ (i5 : Int), w2.cell? (x0.add 0) = some (.int .u64 (i5)) ∧ vif (decide ((x1 : Int) < i5))
 (R (.tuple #[.int .u64 0, .int .i64 20]) w2)
 (vif (decide ((x1 : Int) > i3))
 (R (.tuple #[.int .u64 0, .int .i64 7]) w2)
 (∃ (i6 : Int), w2.cell? (x0.add 0) = some (.int .u64 (i6)) ∧ vif ((x1 : Int) == i6)
 (∃ (i7 : Int), w2.cell? (x0.add 1) = some (.int .u64 (i7)) ∧ R (.tuple #[.int .u64 (i7), .int .i64 0]) w2)
 (vdraw w2 fun w8 => ∃ (s9 : Option Addr) (s9n s9c : Nat), w8.cell? (x0.add 2) = some (.slice s9 s9n s9c) ∧ ∃ (i10 : Int), w8.cell? (x0.add 0) = some (.int .u64 (i10)) ∧ vidx s9 s9n (IntKind.u64.wrap ((IntKind.u64.wrap (x1 - i10)) - 1)) fun a11 => ∃ (i12 : Int), w8.cell? ((a11.add ((IntKind.u64.wrap ((IntKind.u64.wrap (x1 - i10)) - 1) : Int).toNat * 4)).add 1) = some (.int .u64 (i12)) ∧ R (.tuple #[.int .u64 (i12), .int .i64 0]) w8)))

def A52 : Ann := .seq (.leaf) (.seq (.leaf) (.seq (.one (.seq (.leaf) (.two (.seq (.leaf) (.leaf)) (.seq (.leaf) (.two (.seq (.leaf) (.leaf)) (.seq (.leaf) (.two (.seq (.leaf) (.leaf)) (.seq (.leaf) (.two (.seq (.leaf) (.leaf)) (.leaf)))))))))) (.seq (.ord (.op 0 (.op 1 (.op 2 (.op 4 (.op 5 (.op 6 (.op 7 (.op 3 (.op 8 (.op 9 (.op 10 (.op 11 (.op 12 (.op 13 (.op 14 (.op 15 .done))))))))))))))))) (.leaf))))

theorem e52 (x0 : Addr) (x1 : Int) (w : World) (R : Value → World → Prop) : F52 x0 x1 w R = vfun Tryz.prog Tryz.f52 A52 [.pointer (some x0), .int .u64 (x1)] w R := by kernel_rfl
theorem c52 (x0 : Addr) (x1 : Int) (w : World) {R : Value → World → Prop} (h : F52 x0 x1 w R) : Calls Tryz.prog 52 #[.pointer (some x0), .int .u64 (x1)] w fun e w' => ∃ v, e = .returned v ∧ R v w' :=
  calls_of_vfun (an := A52) mixed Tryz.func52 (by kernel_rfl) (by kernel_rfl) ((e52 x0 x1 w R).mp h)

/-- (*compline/entry.Log).Cut -/
def F54 (x0 : Addr) (x1 : Int) (w : World) (R : Value → World → Prop) : Prop :=
 Calls Tryz.prog 52 #[.pointer (some x0), .int .u64 (x1)] w fun e1 w2 => ∃ (i3 : Int), ∃ (i4 : Int), e1 = .returned (.tuple #[.int .u64 (i3), .int .i64 (i4)]) ∧ vif ((i4 : Int) != 0)
 (R (.int .i64 (i4)) w2)
 (vdraw w2 fun w5 => ∃ (s6 : Option Addr) (s6n s6c : Nat), w5.cell? (x0.add 2) = some (.slice s6 s6n s6c) ∧ ∃ (i7 : Int), w5.cell? (x0.add 0) = some (.int .u64 (i7)) ∧ vslice 4 s6 s6n s6c (some (.int .u64 (IntKind.u64.wrap (x1 - i7)))) none none fun s8 s8n s8c => Calls Tryz.prog 86 #[.slice s8 s8n s8c] w5 fun e9 w10 => ∃ (s11 : Option Addr) (s11n s11c : Nat), e9 = .returned (.slice s11 s11n s11c) ∧ vstore1 w10 (x0.add 2) (.slice s11 s11n s11c) fun w12 => vstore1 w12 (x0.add 0) (.int .u64 (x1)) fun w13 => vstore1 w13 (x0.add 1) (.int .u64 (i3)) fun w14 => R (.int .i64 0) w14)

def A54 : Ann := .seq (.leaf) (.seq (.leaf) (.seq (.seq (.leaf) (.two (.seq (.leaf) (.leaf)) (.leaf))) (.seq (.ord (.op 0 (.op 1 (.op 2 (.op 3 (.op 5 (.op 6 (.op 7 (.op 8 (.op 4 (.op 9 (.op 10 (.op 11 (.op 12 (.op 13 (.op 14 (.op 15 .done))))))))))))))))) (.seq (.leaf) (.seq (.leaf) (.leaf))))))

theorem e54 (x0 : Addr) (x1 : Int) (w : World) (R : Value → World → Prop) : F54 x0 x1 w R = vfun Tryz.prog Tryz.f54 A54 [.pointer (some x0), .int .u64 (x1)] w R := by kernel_rfl
theorem c54 (x0 : Addr) (x1 : Int) (w : World) {R : Value → World → Prop} (h : F54 x0 x1 w R) : Calls Tryz.prog 54 #[.pointer (some x0), .int .u64 (x1)] w fun e w' => ∃ v, e = .returned v ∧ R v w' :=
  calls_of_vfun (an := A54) mixed Tryz.func54 (by kernel_rfl) (by kernel_rfl) ((e54 x0 x1 w R).mp h)

/-- compline/entry.clone -/
def F55 (x0 : Array Value) (w : World) (R : Value → World → Prop) : Prop :=
 vnew w (.cells x0 47) fun a1 w2 => vnew w2 (.cells #[.int .u64 0, .int .u64 0, .bool false, .slice Option.none 0 0] 47) fun a3 w4 => ∃ (s5 : Option Addr) (s5n s5c : Nat), w4.cell? (a1.add 3) = some (.slice s5 s5n s5c) ∧ Calls Tryz.prog 56 #[.slice s5 s5n s5c] w4 fun e6 w7 => ∃ (s8 : Option Addr) (s8n s8c : Nat), e6 = .returned (.slice s8 s8n s8c) ∧ vstore1 w7 (a1.add 3) (.slice s8 s8n s8c) fun w9 => vcells 4 w9 a1 fun g10 => vstoreN w9 a3 4 g10 fun w11 => vcells 4 w11 a3 fun g12 => R (.agg g12) w11

def A55 : Ann := .seq (.leaf) (.seq (.leaf) (.seq (.leaf) (.leaf)))

theorem e55 (x0 : Array Value) (w : World) (R : Value → World → Prop) : F55 x0 w R = vfun Tryz.prog Tryz.f55 A55 [.agg x0] w R := by kernel_rfl
theorem c55 (x0 : Array Value) (w : World) {R : Value → World → Prop} (h : F55 x0 w R) : Calls Tryz.prog 55 #[.agg x0] w fun e w' => ∃ v, e = .returned v ∧ R v w' :=
  calls_of_vfun (an := A55) mixed Tryz.func55 (by kernel_rfl) (by kernel_rfl) ((e55 x0 w R).mp h)

/-- (*compline/entry.Log).Add -/
def F75 (x0 : Addr) (x1 : Int) (x2 : Bool) (x3 : Option Addr) (x3n x3c : Nat) (w : World) (R : Value → World → Prop) : Prop :=
 Calls Tryz.prog 33 #[.pointer (some x0)] w fun e1 w2 => ∃ (i3 : Int), ∃ (i4 : Int), e1 = .returned (.tuple #[.int .u64 (i3), .int .u64 (i4)]) ∧ vif (decide ((x1 : Int) < i4))
 (R (.tuple #[.int .u64 0, .int .i64 17]) w2)
 (∃ (s5 : Option Addr) (s5n s5c : Nat), w2.cell? (x0.add 2) = some (.slice s5 s5n s5c) ∧ vif (decide (((s5n : Nat) : Int) ≥ 1024))
 (R (.tuple #[.int .u64 0, .int .i64 6]) w2)
 (vif (decide (((x3n : Nat) : Int) > 900))
 (R (.tuple #[.int .u64 0, .int .i64 15]) w2)
 (vdraw w2 fun w6 => ∃ J7 : World → Prop, J7 w6 ∧ ∃ (s8 : Option Addr) (s8n s8c : Nat), (∀ w, J7 w → w.cell? (x0.add 2) = some (.slice s8 s8n s8c)) ∧ Calls Tryz.prog 56 #[.slice x3 x3n x3c] w6 fun e9 w10 => ∃ (s11 : Option Addr) (s11n s11c : Nat), e9 = .returned (.slice s11 s11n s11c) ∧ J7 w10 ∧ (#[.int .u64 (IntKind.u64.wrap (i3 + 1)), .int .u64 (x1), .bool (x2), .slice s11 s11n s11c] : Array Value).size = 4 ∧ (#[.int .u64 0, .int .u64 0, .bool false, .slice Option.none 0 0] : Array Value).size = 4 ∧ vnew w10 (.cells (([.int .u64 (IntKind.u64.wrap (i3 + 1)), .int .u64 (x1), .bool (x2), .slice s11 s11n s11c] : List Value) ++ []).toArray 47) fun a12 w13 => J7 w13 ∧ vappend Tryz.prog 47 w13 s8 s8n s8c (some a12) 1 fun s14 s14n s14c w15 => vstore1 w15 (x0.add 2) (.slice s14 s14n s14c) fun w16 => R (.tuple #[.int .u64 (IntKind.u64.wrap (i3 + 1)), .int .i64 0]) w16)))

def A75 : Ann := .seq (.leaf) (.seq (.leaf) (.seq (.one (.seq (.leaf) (.two (.seq (.leaf) (.leaf)) (.seq (.leaf) (.two (.seq (.leaf) (.leaf)) (.seq (.leaf) (.two (.seq (.leaf) (.leaf)) (.seq (.leaf) (.two (.seq (.leaf) (.leaf)) (.leaf)))))))))) (.seq (.ordJ (.op 0 (.op 1 (.op 2 (.op 3 (.op 5 (.op 6 (.op 7 (.op 8 (.op 9 (.far 4 (.op 10 (.op 11 (.op 12 (.rest (.op 13 (.op 14 (.op 15 (.op 16 .done))))))))))))))))))) (.seq (.leaf) (.leaf)))))

theorem e75 (x0 : Addr) (x1 : Int) (x2 : Bool) (x3 : Option Addr) (x3n x3c : Nat) (w : World) (R : Value → World → Prop) : F75 x0 x1 x2 x3 x3n x3c w R = vfun Tryz.prog Tryz.f75 A75 [.pointer (some x0), .int .u64 (x1), .bool (x2), .slice x3 x3n x3c] w R := by kernel_rfl
theorem c75 (x0 : Addr) (x1 : Int) (x2 : Bool) (x3 : Option Addr) (x3n x3c : Nat) (w : World) {R : Value → World → Prop} (h : F75 x0 x1 x2 x3 x3n x3c w R) : Calls Tryz.prog 75 #[.pointer (some x0), .int .u64 (x1), .bool (x2), .slice x3 x3n x3c] w fun e w' => ∃ v, e = .returned v ∧ R v w' :=
  calls_of_vfun (an := A75) mixed Tryz.func75 (by kernel_rfl) (by kernel_rfl) ((e75 x0 x1 x2 x3 x3n x3c w R).mp h)

/-- compline/entry.follow -/
def F77 (x0 : Int) (x1 : Int) (x2 : Option Addr) (x2n x2c : Nat) (w : World) (R : Value → World → Prop) : Prop :=
 ∃ (I1 : List Value → World → Prop) (μ2 : List Value → World → Nat), (I1 [.int .u64 (x0), .int .u64 (x1), .bool false, .int .i64 0] w)
 ∧ (∀ (i3 : Int), ∀ (i4 : Int), ∀ (b5 : Bool), ∀ (i6 : Int), ∀ w7, I1 [.int .u64 (i3), .int .u64 (i4), .bool (b5), .int .i64 (i6)] w7 → vif (decide ((i6 : Int) < (x2n : Nat)))
 (vidx x2 x2n i6 fun a8 => vcells 4 w7 (a8.add ((i6 : Int).toNat * 4)) fun g9 => vnew w7 (.cells #[.int .u64 0, .int .u64 0, .bool false, .slice Option.none 0 0] 47) fun a10 w11 => vstoreN w11 a10 4 g9 fun w12 => ∃ (i13 : Int), w12.cell? (a10.add 0) = some (.int .u64 (i13)) ∧ vif ((i13 : Int) != (IntKind.u64.wrap (i3 + 1)))
 (R (.int .i64 2) w12)
 (∃ (i14 : Int), w12.cell? (a10.add 1) = some (.int .u64 (i14)) ∧ vif (decide ((i14 : Int) < i4))
 (R (.int .i64 2) w12)
 (vdraw w12 fun w15 => ∃ (i16 : Int), w15.cell? (a10.add 0) = some (.int .u64 (i16)) ∧ ∃ (i17 : Int), w15.cell? (a10.add 1) = some (.int .u64 (i17)) ∧ vif (b5)
 (I1 [.int .u64 (i16), .int .u64 (i17), .bool true, .int .i64 (IntKind.i64.wrap (i6 + 1))] w15 ∧ μ2 [.int .u64 (i16), .int .u64 (i17), .bool true, .int .i64 (IntKind.i64.wrap (i6 + 1))] w15 < μ2 [.int .u64 (i3), .int .u64 (i4), .bool (b5), .int .i64 (i6)] w7)
 (∃ (s18 : Option Addr) (s18n s18c : Nat), w15.cell? (a10.add 3) = some (.slice s18 s18n s18c) ∧ I1 [.int .u64 (i16), .int .u64 (i17), .bool (decide (((s18n : Nat) : Int) > 900)), .int .i64 (IntKind.i64.wrap (i6 + 1))] w15 ∧ μ2 [.int .u64 (i16), .int .u64 (i17), .bool (decide (((s18n : Nat) : Int) > 900)), .int .i64 (IntKind.i64.wrap (i6 + 1))] w15 < μ2 [.int .u64 (i3), .int .u64 (i4), .bool (b5), .int .i64 (i6)] w7))))
 (vif (b5)
 (R (.int .i64 15) w7)
 (R (.int .i64 0) w7)))

def A77 : Ann := .seq (.leaf) (.seq (.leaf) (.seq (.seq (.leaf) (.one (.loop [(0, .int .u64), (1, .int .u64), (7, .bool), (12, .int .i64)] (.seq (.leaf) (.seq (.two (.leaf) (.leaf)) (.seq (.one (.seq (.leaf) (.seq (.seq (.leaf) (.two (.seq (.leaf) (.leaf)) (.leaf))) (.seq (.ord (.op 0 (.op 2 (.op 1 (.op 4 (.op 3 (.op 5 .done))))))) (.leaf))))) (.leaf))))))) (.seq (.seq (.leaf) (.two (.seq (.leaf) (.leaf)) (.leaf))) (.seq (.leaf) (.leaf)))))

theorem e77 (x0 : Int) (x1 : Int) (x2 : Option Addr) (x2n x2c : Nat) (w : World) (R : Value → World → Prop) : F77 x0 x1 x2 x2n x2c w R = vfun Tryz.prog Tryz.f77 A77 [.int .u64 (x0), .int .u64 (x1), .slice x2 x2n x2c] w R := by kernel_rfl
theorem c77 (x0 : Int) (x1 : Int) (x2 : Option Addr) (x2n x2c : Nat) (w : World) {R : Value → World → Prop} (h : F77 x0 x1 x2 x2n x2c w R) : Calls Tryz.prog 77 #[.int .u64 (x0), .int .u64 (x1), .slice x2 x2n x2c] w fun e w' => ∃ v, e = .returned v ∧ R v w' :=
  calls_of_vfun (an := A77) mixed Tryz.func77 (by kernel_rfl) (by kernel_rfl) ((e77 x0 x1 x2 x2n x2c w R).mp h)

/-- (*compline/entry.Log).known -/
def F78 (x0 : Addr) (x1 : Option Addr) (x1n x1c : Nat) (w : World) (R : Value → World → Prop) : Prop :=
 ∃ (I1 : List Value → World → Prop) (μ2 : List Value → World → Nat), (I1 [.int .i64 0, .int .i64 0] w)
 ∧ (∀ (i3 : Int), ∀ (i4 : Int), ∀ w5, I1 [.int .i64 (i3), .int .i64 (i4)] w5 → vif (decide ((i4 : Int) < (x1n : Nat)))
 (vidx x1 x1n i4 fun a6 => vcells 4 w5 (a6.add ((i4 : Int).toNat * 4)) fun g7 => vnew w5 (.cells #[.int .u64 0, .int .u64 0, .bool false, .slice Option.none 0 0] 47) fun a8 w9 => vstoreN w9 a8 4 g7 fun w10 => ∃ (i11 : Int), w10.cell? (a8.add 0) = some (.int .u64 (i11)) ∧ Calls Tryz.prog 52 #[.pointer (some x0), .int .u64 (i11)] w10 fun e12 w13 => ∃ (i14 : Int), ∃ (i15 : Int), e12 = .returned (.tuple #[.int .u64 (i14), .int .i64 (i15)]) ∧ vif ((i15 : Int) != 0)
 (R (.int .i64 (i3)) w13)
 (∃ (i16 : Int), w13.cell? (a8.add 1) = some (.int .u64 (i16)) ∧ vif ((i14 : Int) != i16)
 (R (.int .i64 (i3)) w13)
 (I1 [.int .i64 (IntKind.i64.wrap (i3 + 1)), .int .i64 (IntKind.i64.wrap (i4 + 1))] w13 ∧ μ2 [.int .i64 (IntKind.i64.wrap (i3 + 1)), .int .i64 (IntKind.i64.wrap (i4 + 1))] w13 < μ2 [.int .i64 (i3), .int .i64 (i4)] w5)))
 (R (.int .i64 (i3)) w5))

def A78 : Ann := .seq (.leaf) (.seq (.leaf) (.seq (.seq (.leaf) (.one (.loop [(5, .int .i64), (12, .int .i64)] (.seq (.leaf) (.seq (.two (.leaf) (.leaf)) (.seq (.one (.seq (.leaf) (.seq (.seq (.leaf) (.seq (.leaf) (.two (.leaf) (.leaf)))) (.leaf)))) (.leaf))))))) (.seq (.leaf) (.leaf))))

theorem e78 (x0 : Addr) (x1 : Option Addr) (x1n x1c : Nat) (w : World) (R : Value → World → Prop) : F78 x0 x1 x1n x1c w R = vfun Tryz.prog Tryz.f78 A78 [.pointer (some x0), .slice x1 x1n x1c] w R := by kernel_rfl
theorem c78 (x0 : Addr) (x1 : Option Addr) (x1n x1c : Nat) (w : World) {R : Value → World → Prop} (h : F78 x0 x1 x1n x1c w R) : Calls Tryz.prog 78 #[.pointer (some x0), .slice x1 x1n x1c] w fun e w' => ∃ v, e = .returned v ∧ R v w' :=
  calls_of_vfun (an := A78) mixed Tryz.func78 (by kernel_rfl) (by kernel_rfl) ((e78 x0 x1 x1n x1c w R).mp h)

/-- (*compline/entry.Log).At -/
def F79 (x0 : Addr) (x1 : Int) (w : World) (R : Value → World → Prop) : Prop :=
 vnew w (.cells #[.int .u64 0, .int .u64 0, .bool false, .slice Option.none 0 0] 47) fun a1 w2 => Calls Tryz.prog 52 #[.pointer (some x0), .int .u64 (x1)] w2 fun e3 w4 => ∃ (i5 : Int), ∃ (i6 : Int), e3 = .returned (.tuple #[.int .u64 (i5), .int .i64 (i6)]) ∧ vif ((i6 : Int) != 0)
 (vstoreN w4 a1 4 #[.int .u64 0, .int .u64 0, .bool false, .slice Option.none 0 0] fun w7 => vcells 4 w7 a1 fun g8 => R (.tuple #[.agg g8, .int .i64 (i6)]) w7)
 (∃ (i9 : Int), w4.cell? (x0.add 0) = some (.int .u64 (i9)) ∧ vif ((x1 : Int) == i9)
 (vstoreN w4 a1 4 #[.int .u64 0, .int .u64 0, .bool false, .slice Option.none 0 0] fun w10 => vcells 4 w10 a1 fun g11 => R (.tuple #[.agg g11, .int .i64 20]) w10)
 (vdraw w4 fun w12 => ∃ (s13 : Option Addr) (s13n s13c : Nat), w12.cell? (x0.add 2) = some (.slice s13 s13n s13c) ∧ ∃ (i14 : Int), w12.cell? (x0.add 0) = some (.int .u64 (i14)) ∧ vidx s13 s13n (IntKind.u64.wrap ((IntKind.u64.wrap (x1 - i14)) - 1)) fun a15 => vcells 4 w12 (a15.add ((IntKind.u64.wrap ((IntKind.u64.wrap (x1 - i14)) - 1) : Int).toNat * 4)) fun g16 => Calls Tryz.prog 55 #[.agg g16] w12 fun e17 w18 => ∃ (g19 : Array Value), g19.size = 4 ∧ e17 = .returned (.agg g19) ∧ vstoreN w18 a1 4 g19 fun w20 => vcells 4 w20 a1 fun g21 => R (.tuple #[.agg g21, .int .i64 0]) w20))

def A79 : Ann := .seq (.leaf) (.seq (.seq (.leaf) (.seq (.leaf) (.two (.seq (.leaf) (.leaf)) (.leaf)))) (.seq (.seq (.leaf) (.two (.seq (.leaf) (.leaf)) (.leaf))) (.seq (.ord (.op 0 (.op 1 (.op 2 (.op 4 (.op 5 (.op 6 (.op 7 (.op 3 (.op 8 (.op 9 (.op 10 (.op 11 (.op 12 (.op 13 (.op 14 (.op 15 .done))))))))))))))))) (.leaf))))

theorem e79 (x0 : Addr) (x1 : Int) (w : World) (R : Value → World → Prop) : F79 x0 x1 w R = vfun Tryz.prog Tryz.f79 A79 [.pointer (some x0), .int .u64 (x1)] w R := by kernel_rfl
theorem c79 (x0 : Addr) (x1 : Int) (w : World) {R : Value → World → Prop} (h : F79 x0 x1 w R) : Calls Tryz.prog 79 #[.pointer (some x0), .int .u64 (x1)] w fun e w' => ∃ v, e = .returned v ∧ R v w' :=
  calls_of_vfun (an := A79) mixed Tryz.func79 (by kernel_rfl) (by kernel_rfl) ((e79 x0 x1 w R).mp h)

/-- compline/conf.Has -/
def F30 (x0 : Option Addr) (x0n x0c : Nat) (x1 : Int) (w : World) (R : Value → World → Prop) : Prop :=
 Calls Tryz.prog 59 #[.slice x0 x0n x0c, .int .i64 (x1)] w fun e1 w2 => ∃ (b3 : Bool), e1 = .returned (.bool (b3)) ∧ R (.bool (b3)) w2

def A30 : Ann := .seq (.leaf) (.seq (.leaf) (.leaf))

theorem e30 (x0 : Option Addr) (x0n x0c : Nat) (x1 : Int) (w : World) (R : Value → World → Prop) : F30 x0 x0n x0c x1 w R = vfun Tryz.prog Tryz.f30 A30 [.slice x0 x0n x0c, .int .i64 (x1)] w R := by kernel_rfl
theorem c30 (x0 : Option Addr) (x0n x0c : Nat) (x1 : Int) (w : World) {R : Value → World → Prop} (h : F30 x0 x0n x0c x1 w R) : Calls Tryz.prog 30 #[.slice x0 x0n x0c, .int .i64 (x1)] w fun e w' => ∃ v, e = .returned v ∧ R v w' :=
  calls_of_vfun (an := A30) mixed Tryz.func30 (by kernel_rfl) (by kernel_rfl) ((e30 x0 x0n x0c x1 w R).mp h)

/-- compline/conf.Right -/
def F46 (x0 : Option Addr) (x0n x0c : Nat) (w : World) (R : Value → World → Prop) : Prop :=
 Calls Tryz.prog 53 #[.slice x0 x0n x0c] w fun e1 w2 => ∃ (s3 : Option Addr) (s3n s3c : Nat), ∃ (i4 : Int), e1 = .returned (.tuple #[.slice s3 s3n s3c, .int .i64 (i4)]) ∧ R (.bool ((i4 : Int) == 0)) w2

def A46 : Ann := .seq (.leaf) (.seq (.leaf) (.seq (.leaf) (.leaf)))

theorem e46 (x0 : Option Addr) (x0n x0c : Nat) (w : World) (R : Value → World → Prop) : F46 x0 x0n x0c w R = vfun Tryz.prog Tryz.f46 A46 [.slice x0 x0n x0c] w R := by kernel_rfl
theorem c46 (x0 : Option Addr) (x0n x0c : Nat) (w : World) {R : Value → World → Prop} (h : F46 x0 x0n x0c w R) : Calls Tryz.prog 46 #[.slice x0 x0n x0c] w fun e w' => ∃ v, e = .returned v ∧ R v w' :=
  calls_of_vfun (an := A46) mixed Tryz.func46 (by kernel_rfl) (by kernel_rfl) ((e46 x0 x0n x0c w R).mp h)

/-- compline/conf.Step -/
def F50 (x0 : Option Addr) (x0n x0c : Nat) (x1 : Option Addr) (x1n x1c : Nat) (w : World) (R : Value → World → Prop) : Prop :=
 ∃ J1 : List Value → World → Prop, (Calls Tryz.prog 46 #[.slice x0 x0n x0c] w fun e2 w3 => ∃ (b4 : Bool), e2 = .returned (.bool (b4)) ∧ vif (!b4)
 (R (.bool false) w3)
 (Calls Tryz.prog 46 #[.slice x1 x1n x1c] w3 fun e5 w6 => ∃ (b7 : Bool), e5 = .returned (.bool (b7)) ∧ vif (!b7)
 (R (.bool false) w6)
 (J1 [] w6)))
 ∧ (∀ w8, J1 [] w8 → ∃ (I9 : List Value → World → Prop) (μ10 : List Value → World → Nat), (I9 [.int .i64 0, .int .i64 0] w8)
 ∧ (∀ (i11 : Int), ∀ (i12 : Int), ∀ w13, I9 [.int .i64 (i11), .int .i64 (i12)] w13 → vif (decide ((i12 : Int) < 8))
 (Calls Tryz.prog 30 #[.slice x0 x0n x0c, .int .i64 (i12)] w13 fun e14 w15 => ∃ (b16 : Bool), e14 = .returned (.bool (b16)) ∧ Calls Tryz.prog 30 #[.slice x1 x1n x1c, .int .i64 (i12)] w15 fun e17 w18 => ∃ (b19 : Bool), e17 = .returned (.bool (b19)) ∧ vif (!(b16 == b19))
 (I9 [.int .i64 (IntKind.i64.wrap (i11 + 1)), .int .i64 (IntKind.i64.wrap (i12 + 1))] w18 ∧ μ10 [.int .i64 (IntKind.i64.wrap (i11 + 1)), .int .i64 (IntKind.i64.wrap (i12 + 1))] w18 < μ10 [.int .i64 (i11), .int .i64 (i12)] w13)
 (I9 [.int .i64 (i11), .int .i64 (IntKind.i64.wrap (i12 + 1))] w18 ∧ μ10 [.int .i64 (i11), .int .i64 (IntKind.i64.wrap (i12 + 1))] w18 < μ10 [.int .i64 (i11), .int .i64 (i12)] w13))
 (R (.bool ((i11 : Int) == 1)) w13)))

def A50 : Ann := .seq (.leaf) (.cut [] (.seq (.leaf) (.two (.seq (.leaf) (.leaf)) (.leaf))) (.seq (.leaf) (.seq (.seq (.leaf) (.one (.loop [(5, .int .i64), (15, .int .i64)] (.seq (.leaf) (.seq (.two (.leaf) (.leaf)) (.seq (.one (.seq (.leaf) (.seq (.leaf) (.two (.leaf) (.leaf))))) (.leaf))))))) (.seq (.leaf) (.leaf)))))

theorem e50 (x0 : Option Addr) (x0n x0c : Nat) (x1 : Option Addr) (x1n x1c : Nat) (w : World) (R : Value → World → Prop) : F50 x0 x0n x0c x1 x1n x1c w R = vfun Tryz.prog Tryz.f50 A50 [.slice x0 x0n x0c, .slice x1 x1n x1c] w R := by kernel_rfl
theorem c50 (x0 : Option Addr) (x0n x0c : Nat) (x1 : Option Addr) (x1n x1c : Nat) (w : World) {R : Value → World → Prop} (h : F50 x0 x0n x0c x1 x1n x1c w R) : Calls Tryz.prog 50 #[.slice x0 x0n x0c, .slice x1 x1n x1c] w fun e w' => ∃ v, e = .returned v ∧ R v w' :=
  calls_of_vfun (an := A50) mixed Tryz.func50 (by kernel_rfl) (by kernel_rfl) ((e50 x0 x0n x0c x1 x1n x1c w R).mp h)

/-- compline/conf.Of -/
def F51 (x0 : Addr) (x1 : Option Addr) (x1n x1c : Nat) (x2 : Int) (w : World) (R : Value → World → Prop) : Prop :=
 Calls Tryz.prog 26 #[.pointer (some x0)] w fun e1 w2 => ∃ (i3 : Int), ∃ (i4 : Int), e1 = .returned (.tuple #[.int .u64 (i3), .int .u64 (i4)]) ∧ Calls Tryz.prog 33 #[.pointer (some x0)] w2 fun e5 w6 => ∃ (i7 : Int), ∃ (i8 : Int), e5 = .returned (.tuple #[.int .u64 (i7), .int .u64 (i8)]) ∧ ∃ (I9 : List Value → World → Prop) (μ10 : List Value → World → Nat), (I9 [.int .u64 (if i7 < x2 then i7 else x2)] w6)
 ∧ (∀ (i11 : Int), ∀ w12, I9 [.int .u64 (i11)] w12 → vif (decide ((i11 : Int) > i3))
 (Calls Tryz.prog 79 #[.pointer (some x0), .int .u64 (i11)] w12 fun e13 w14 => ∃ (g15 : Array Value), g15.size = 4 ∧ ∃ (i16 : Int), e13 = .returned (.tuple #[.agg g15, .int .i64 (i16)]) ∧ vnew w14 (.cells #[.int .u64 0, .int .u64 0, .bool false, .slice Option.none 0 0] 47) fun a17 w18 => vstoreN w18 a17 4 g15 fun w19 => ∃ (b20 : Bool), w19.cell? (a17.add 2) = some (.bool (b20)) ∧ vif (!b20)
 (I9 [.int .u64 (IntKind.u64.wrap (i11 - 1))] w19 ∧ μ10 [.int .u64 (IntKind.u64.wrap (i11 - 1))] w19 < μ10 [.int .u64 (i11)] w12)
 (∃ (s21 : Option Addr) (s21n s21c : Nat), w19.cell? (a17.add 3) = some (.slice s21 s21n s21c) ∧ Calls Tryz.prog 80 #[.slice s21 s21n s21c] w19 fun e22 w23 => ∃ (s24 : Option Addr) (s24n s24c : Nat), ∃ (i25 : Int), e22 = .returned (.tuple #[.slice s24 s24n s24c, .int .i64 (i25)]) ∧ vif ((i25 : Int) == 0)
 (R (.tuple #[.slice s24 s24n s24c, .int .u64 (i11)]) w23)
 (I9 [.int .u64 (IntKind.u64.wrap (i11 - 1))] w23 ∧ μ10 [.int .u64 (IntKind.u64.wrap (i11 - 1))] w23 < μ10 [.int .u64 (i11)] w12)))
 (Calls Tryz.prog 47 #[.slice x1 x1n x1c] w12 fun e26 w27 => ∃ (s28 : Option Addr) (s28n s28c : Nat), e26 = .returned (.slice s28 s28n s28c) ∧ R (.tuple #[.slice s28 s28n s28c, .int .u64 0]) w27))

def A51 : Ann := .seq (.leaf) (.seq (.leaf) (.seq (.leaf) (.seq (.seq (.leaf) (.one (.loop [(12, .int .u64)] (.seq (.seq (.leaf) (.two (.leaf) (.leaf))) (.seq (.one (.seq (.leaf) (.seq (.seq (.leaf) (.two (.leaf) (.leaf))) (.seq (.leaf) (.seq (.leaf) (.two (.seq (.leaf) (.leaf)) (.leaf))))))) (.leaf)))))) (.seq (.leaf) (.leaf)))))

theorem e51 (x0 : Addr) (x1 : Option Addr) (x1n x1c : Nat) (x2 : Int) (w : World) (R : Value → World → Prop) : F51 x0 x1 x1n x1c x2 w R = vfun Tryz.prog Tryz.f51 A51 [.pointer (some x0), .slice x1 x1n x1c, .int .u64 (x2)] w R := by kernel_rfl
theorem c51 (x0 : Addr) (x1 : Option Addr) (x1n x1c : Nat) (x2 : Int) (w : World) {R : Value → World → Prop} (h : F51 x0 x1 x1n x1c x2 w R) : Calls Tryz.prog 51 #[.pointer (some x0), .slice x1 x1n x1c, .int .u64 (x2)] w fun e w' => ∃ v, e = .returned v ∧ R v w' :=
  calls_of_vfun (an := A51) mixed Tryz.func51 (by kernel_rfl) (by kernel_rfl) ((e51 x0 x1 x1n x1c x2 w R).mp h)

/-- compline/conf.Majority -/
def F94 (x0 : Option Addr) (x0n x0c : Nat) (w : World) (R : Value → World → Prop) : Prop :=
 vnz 2 (R (.int .i64 (IntKind.i64.wrap ((IntKind.i64.wrap (((x0n : Nat) : Int).tdiv 2)) + 1))) w)

def A94 : Ann := .seq (.leaf) (.seq (.leaf) (.leaf))

theorem e94 (x0 : Option Addr) (x0n x0c : Nat) (w : World) (R : Value → World → Prop) : F94 x0 x0n x0c w R = vfun Tryz.prog Tryz.f94 A94 [.slice x0 x0n x0c] w R := by kernel_rfl
theorem c94 (x0 : Option Addr) (x0n x0c : Nat) (w : World) {R : Value → World → Prop} (h : F94 x0 x0n x0c w R) : Calls Tryz.prog 94 #[.slice x0 x0n x0c] w fun e w' => ∃ v, e = .returned v ∧ R v w' :=
  calls_of_vfun (an := A94) mixed Tryz.func94 (by kernel_rfl) (by kernel_rfl) ((e94 x0 x0n x0c w R).mp h)

/-- compline/conf.Agreed -/
def F98 (x0 : Option Addr) (x0n x0c : Nat) (x1 : Value) (w : World) (R : Value → World → Prop) : Prop :=
 Calls Tryz.prog 46 #[.slice x0 x0n x0c] w fun e1 w2 => ∃ (b3 : Bool), e1 = .returned (.bool (b3)) ∧ vif (!b3)
 (R (.int .u64 0) w2)
 (∃ (I4 : List Value → World → Prop) (μ5 : List Value → World → Nat), (I4 [.slice Option.none 0 0, .int .i64 0] w2)
 ∧ (∀ (s6 : Option Addr) (s6n s6c : Nat), ∀ (i7 : Int), ∀ w8, I4 [.slice s6 s6n s6c, .int .i64 (i7)] w8 → vif (decide ((i7 : Int) < (x0n : Nat)))
 (vidx x0 x0n i7 fun a9 => ∃ (i10 : Int), w8.cell? (a9.add ((i7 : Int).toNat * 1)) = some (.int .i64 (i10)) ∧ vcallv Tryz.prog x1 [.int .i64 (i10)] w8 fun e11 w12 => ∃ (i13 : Int), e11 = .returned (.int .u64 (i13)) ∧ (#[.int .u64 0] : Array Value).size = 1 ∧ vnew w12 (.cells #[.int .u64 (i13)] 26) fun a14 w15 => vappend Tryz.prog 26 w15 s6 s6n s6c (some a14) 1 fun s16 s16n s16c w17 => I4 [.slice s16 s16n s16c, .int .i64 (IntKind.i64.wrap (i7 + 1))] w17 ∧ μ5 [.slice s16 s16n s16c, .int .i64 (IntKind.i64.wrap (i7 + 1))] w17 < μ5 [.slice s6 s6n s6c, .int .i64 (i7)] w8)
 (Calls Tryz.prog 109 #[.slice s6 s6n s6c] w8 fun e18 w19 => e18 = .returned (.tuple #[]) ∧ Calls Tryz.prog 94 #[.slice x0 x0n x0c] w19 fun e20 w21 => ∃ (i22 : Int), e20 = .returned (.int .i64 (i22)) ∧ vidx s6 s6n (IntKind.i64.wrap ((s6n : Nat) - i22)) fun a23 => ∃ (i24 : Int), w21.cell? (a23.add ((IntKind.i64.wrap ((s6n : Nat) - i22) : Int).toNat * 1)) = some (.int .u64 (i24)) ∧ R (.int .u64 (i24)) w21)))

def A98 : Ann := .seq (.leaf) (.seq (.seq (.leaf) (.two (.seq (.leaf) (.leaf)) (.leaf))) (.seq (.leaf) (.seq (.seq (.leaf) (.one (.loop [(5, .slice), (13, .int .i64)] (.seq (.leaf) (.seq (.two (.leaf) (.leaf)) (.seq (.one (.seq (.leaf) (.leaf))) (.leaf))))))) (.seq (.leaf) (.seq (.leaf) (.leaf))))))

theorem e98 (x0 : Option Addr) (x0n x0c : Nat) (x1 : Value) (w : World) (R : Value → World → Prop) : F98 x0 x0n x0c x1 w R = vfun Tryz.prog Tryz.f98 A98 [.slice x0 x0n x0c, x1] w R := by kernel_rfl
theorem c98 (x0 : Option Addr) (x0n x0c : Nat) (x1 : Value) (w : World) {R : Value → World → Prop} (h : F98 x0 x0n x0c x1 w R) : Calls Tryz.prog 98 #[.slice x0 x0n x0c, x1] w fun e w' => ∃ v, e = .returned v ∧ R v w' :=
  calls_of_vfun (an := A98) mixed Tryz.func98 (by kernel_rfl) (by kernel_rfl) ((e98 x0 x0n x0c x1 w R).mp h)

/-- (*compline/ballot.Ballot).Vote -/
def F67 (x0 : Addr) (x1 : Int) (x2 : Bool) (w : World) (R : Value → World → Prop) : Prop :=
 Calls Tryz.prog 92 #[.pointer (some x0)] w fun e1 w2 => ∃ (b3 : Bool), e1 = .returned (.bool (b3)) ∧ vif (!b3)
 (R (.bool false) w2)
 (∃ (s4 : Option Addr) (s4n s4c : Nat), w2.cell? (x0.add 0) = some (.slice s4 s4n s4c) ∧ Calls Tryz.prog 30 #[.slice s4 s4n s4c, .int .i64 (x1)] w2 fun e5 w6 => ∃ (b7 : Bool), e5 = .returned (.bool (b7)) ∧ vif (!b7)
 (R (.bool false) w6)
 (∃ (m8 : Option Nat), w6.cell? (x0.add 1) = some (.map m8) ∧ vmap w6 m8 fun m9 e10 c11 => ∃ r12, Instr.findNow (.int .i64) (.int .i64 (x1)) e10.toList 0 = some r12 ∧ ∃ (b13 : Bool), ∃ (b14 : Bool), lookRes r12 (.bool false) = (.bool (b13), b14) ∧ vif (b14)
 (R (.bool false) w6)
 (∃ (m15 : Option Nat), w6.cell? (x0.add 1) = some (.map m15) ∧ vmap w6 m15 fun m16 e17 c18 => ∃ r19, Instr.findNow (.int .i64) (.int .i64 (x1)) e17.toList 0 = some r19 ∧ vput w6 m16 (mapPut e17 c18 r19 (.int .i64 (x1)) (.bool (x2))) fun w20 => R (.bool true) w20)))

def A67 : Ann := .seq (.leaf) (.seq (.seq (.leaf) (.two (.seq (.leaf) (.leaf)) (.leaf))) (.seq (.seq (.leaf) (.seq (.leaf) (.two (.seq (.leaf) (.leaf)) (.leaf)))) (.seq (.leaf) (.seq (.leaf) (.leaf)))))

theorem e67 (x0 : Addr) (x1 : Int) (x2 : Bool) (w : World) (R : Value → World → Prop) : F67 x0 x1 x2 w R = vfun Tryz.prog Tryz.f67 A67 [.pointer (some x0), .int .i64 (x1), .bool (x2)] w R := by kernel_rfl
theorem c67 (x0 : Addr) (x1 : Int) (x2 : Bool) (w : World) {R : Value → World → Prop} (h : F67 x0 x1 x2 w R) : Calls Tryz.prog 67 #[.pointer (some x0), .int .i64 (x1), .bool (x2)] w fun e w' => ∃ v, e = .returned v ∧ R v w' :=
  calls_of_vfun (an := A67) mixed Tryz.func67 (by kernel_rfl) (by kernel_rfl) ((e67 x0 x1 x2 w R).mp h)

/-- (*compline/ballot.Ballot).State -/
def F68 (x0 : Addr) (w : World) (R : Value → World → Prop) : Prop :=
 Calls Tryz.prog 92 #[.pointer (some x0)] w fun e1 w2 => ∃ (b3 : Bool), e1 = .returned (.bool (b3)) ∧ vif (!b3)
 (R (.int .i64 2) w2)
 (Calls Tryz.prog 93 #[.pointer (some x0)] w2 fun e4 w5 => ∃ (i6 : Int), ∃ (i7 : Int), e4 = .returned (.tuple #[.int .i64 (i6), .int .i64 (i7)]) ∧ ∃ (s8 : Option Addr) (s8n s8c : Nat), w5.cell? (x0.add 0) = some (.slice s8 s8n s8c) ∧ Calls Tryz.prog 94 #[.slice s8 s8n s8c] w5 fun e9 w10 => ∃ (i11 : Int), e9 = .returned (.int .i64 (i11)) ∧ vif (decide ((i6 : Int) ≥ i11))
 (R (.int .i64 1) w10)
 (∃ (s12 : Option Addr) (s12n s12c : Nat), w10.cell? (x0.add 0) = some (.slice s12 s12n s12c) ∧ vif (decide (((IntKind.i64.wrap ((s12n : Nat) - i7)) : Int) < i11))
 (R (.int .i64 2) w10)
 (R (.int .i64 0) w10)))

def A68 : Ann := .seq (.leaf) (.seq (.seq (.leaf) (.two (.seq (.leaf) (.leaf)) (.leaf))) (.seq (.leaf) (.seq (.leaf) (.seq (.one (.seq (.leaf) (.two (.seq (.leaf) (.leaf)) (.seq (.leaf) (.two (.seq (.leaf) (.leaf)) (.leaf)))))) (.seq (.leaf) (.leaf))))))

theorem e68 (x0 : Addr) (w : World) (R : Value → World → Prop) : F68 x0 w R = vfun Tryz.prog Tryz.f68 A68 [.pointer (some x0)] w R := by kernel_rfl
theorem c68 (x0 : Addr) (w : World) {R : Value → World → Prop} (h : F68 x0 w R) : Calls Tryz.prog 68 #[.pointer (some x0)] w fun e w' => ∃ v, e = .returned v ∧ R v w' :=
  calls_of_vfun (an := A68) mixed Tryz.func68 (by kernel_rfl) (by kernel_rfl) ((e68 x0 w R).mp h)

/-- compline/ballot.New -/
def F90 (x0 : Option Addr) (x0n x0c : Nat) (w : World) (R : Value → World → Prop) : Prop :=
 Calls Tryz.prog 47 #[.slice x0 x0n x0c] w fun e1 w2 => ∃ (s3 : Option Addr) (s3n s3c : Nat), e1 = .returned (.slice s3 s3n s3c) ∧ vnew w2 (.map #[] 0) fun a4 w5 => vnew w5 (.cells #[.slice s3 s3n s3c, .map (some a4.block)] 130) fun a6 w7 => R (.pointer (some a6)) w7

def A90 : Ann := .seq (.leaf) (.seq (.leaf) (.leaf))

theorem e90 (x0 : Option Addr) (x0n x0c : Nat) (w : World) (R : Value → World → Prop) : F90 x0 x0n x0c w R = vfun Tryz.prog Tryz.f90 A90 [.slice x0 x0n x0c] w R := by kernel_rfl
theorem c90 (x0 : Option Addr) (x0n x0c : Nat) (w : World) {R : Value → World → Prop} (h : F90 x0 x0n x0c w R) : Calls Tryz.prog 90 #[.slice x0 x0n x0c] w fun e w' => ∃ v, e = .returned v ∧ R v w' :=
  calls_of_vfun (an := A90) mixed Tryz.func90 (by kernel_rfl) (by kernel_rfl) ((e90 x0 x0n x0c w R).mp h)

/-- (*compline/ballot.Ballot).right -/
def F92 (x0 : Addr) (w : World) (R : Value → World → Prop) : Prop :=
 ∃ (s1 : Option Addr) (s1n s1c : Nat), w.cell? (x0.add 0) = some (.slice s1 s1n s1c) ∧ Calls Tryz.prog 46 #[.slice s1 s1n s1c] w fun e2 w3 => ∃ (b4 : Bool), e2 = .returned (.bool (b4)) ∧ R (.bool (b4)) w3

def A92 : Ann := .seq (.leaf) (.seq (.leaf) (.leaf))

theorem e92 (x0 : Addr) (w : World) (R : Value → World → Prop) : F92 x0 w R = vfun Tryz.prog Tryz.f92 A92 [.pointer (some x0)] w R := by kernel_rfl
theorem c92 (x0 : Addr) (w : World) {R : Value → World → Prop} (h : F92 x0 w R) : Calls Tryz.prog 92 #[.pointer (some x0)] w fun e w' => ∃ v, e = .returned v ∧ R v w' :=
  calls_of_vfun (an := A92) mixed Tryz.func92 (by kernel_rfl) (by kernel_rfl) ((e92 x0 w R).mp h)

/-- (*compline/ballot.Ballot).Count -/
def F93 (x0 : Addr) (w : World) (R : Value → World → Prop) : Prop :=
 ∃ (m1 : Option Nat), w.cell? (x0.add 1) = some (.map m1) ∧ vmap w m1 fun m2 e3 c4 => vnew w (.mapIter (some m2) c4 #[] c4) fun a5 w6 => ∃ (I7 : List Value → World → Prop) (μ8 : List Value → World → Nat), (I7 [.int .i64 0, .int .i64 0] w6)
 ∧ (∀ (i9 : Int), ∀ (i10 : Int), ∀ w11, I7 [.int .i64 (i9), .int .i64 (i10)] w11 → vnext w11 (.pointer (some a5)) fun b12 l13 w14 => vif (b12)
 (ventry w14 (.pointer (some a5)) fun v15 v16 => asBool v16 fun b17 => vif (b17)
 (I7 [.int .i64 (IntKind.i64.wrap (i9 + 1)), .int .i64 (i10)] w14 ∧ μ8 [.int .i64 (IntKind.i64.wrap (i9 + 1)), .int .i64 (i10)] w14 < μ8 [.int .i64 (i9), .int .i64 (i10)] w11)
 (I7 [.int .i64 (i9), .int .i64 (IntKind.i64.wrap (i10 + 1))] w14 ∧ μ8 [.int .i64 (i9), .int .i64 (IntKind.i64.wrap (i10 + 1))] w14 < μ8 [.int .i64 (i9), .int .i64 (i10)] w11))
 (R (.tuple #[.int .i64 (i9), .int .i64 (i10)]) w14))

def A93 : Ann := .seq (.leaf) (.seq (.seq (.leaf) (.two (.seq (.leaf) (.leaf)) (.leaf))) (.seq (.seq (.leaf) (.one (.loop [(2, .int .i64), (3, .int .i64)] (.seq (.leaf) (.seq (.two (.leaf) (.leaf)) (.one (.seq (.leaf) (.seq (.leaf) (.two (.leaf) (.leaf)))))))))) (.seq (.leaf) (.leaf))))

theorem e93 (x0 : Addr) (w : World) (R : Value → World → Prop) : F93 x0 w R = vfun Tryz.prog Tryz.f93 A93 [.pointer (some x0)] w R := by kernel_rfl
theorem c93 (x0 : Addr) (w : World) {R : Value → World → Prop} (h : F93 x0 w R) : Calls Tryz.prog 93 #[.pointer (some x0)] w fun e w' => ∃ v, e = .returned v ∧ R v w' :=
  calls_of_vfun (an := A93) mixed Tryz.func93 (by kernel_rfl) (by kernel_rfl) ((e93 x0 w R).mp h)


end Rx
end Go.Proofs.YtkoipeddfbeliaaGreat

/-
  PRINTED BY wip/gen.py: what the functions ask and do, one by one.
-/
namespace Go.Proofs.YtkoipeddfbeliaaGreat
namespace Rx
open Go.RowKit
set_option maxRecDepth 100000
set_option linter.unusedVariables false

/-- (*compline/progress.Track).No -/
def F70 (x0 : Addr) (x1 : Int) (x2 : Int) (w : World) (R : Value → World → Prop) : Prop :=
 Calls Tryz.prog 71 #[.pointer (some x0), .int .i64 (x1)] w fun e1 w2 => ∃ (b3 : Bool), e1 = .returned (.bool (b3)) ∧ vif (!b3)
 (R (.bool false) w2)
 (∃ (m4 : Option Nat), w2.cell? (x0.add 0) = some (.map m4) ∧ vmap w2 m4 fun m5 e6 c7 => ∃ r8, Instr.findNow (.int .i64) (.int .i64 (x1)) e6.toList 0 = some r8 ∧ ∃ (g9 : Array Value), g9.size = 2 ∧ ∃ (b10 : Bool), lookRes r8 (.agg #[.int .u64 0, .int .u64 0]) = (.agg g9, b10) ∧ vnew w2 (.cells #[.int .u64 0, .int .u64 0] 137) fun a11 w12 => vstoreN w12 a11 2 g9 fun w13 => vdraw w13 fun w14 => ∃ J15 : World → Prop, J15 w14 ∧ ∃ (i16 : Int), (∀ w, J15 w → w.cell? (a11.add 1) = some (.int .u64 (i16))) ∧ ∃ (i17 : Int), (∀ w, J15 w → w.cell? (a11.add 0) = some (.int .u64 (i17))) ∧ Calls Tryz.prog 97 #[.int .u64 (x2)] w14 fun e18 w19 => ∃ (i20 : Int), e18 = .returned (.int .u64 (i20)) ∧ J15 w19 ∧ Calls Tryz.prog 97 #[.int .u64 (i17)] w19 fun e21 w22 => ∃ (i23 : Int), e21 = .returned (.int .u64 (i23)) ∧ J15 w22 ∧ ∃ (i24 : Int), w22.cell? (a11.add 1) = some (.int .u64 (i24)) ∧ vif (decide (((if (if i20 < i16 then i20 else i16) < i23 then i23 else (if i20 < i16 then i20 else i16)) : Int) ≥ i24))
 (R (.bool false) w22)
 (vdraw w22 fun w25 => ∃ (m26 : Option Nat), w25.cell? (x0.add 0) = some (.map m26) ∧ ∃ (i27 : Int), w25.cell? (a11.add 0) = some (.int .u64 (i27)) ∧ vmap w25 m26 fun m28 e29 c30 => ∃ r31, Instr.findNow (.int .i64) (.int .i64 (x1)) e29.toList 0 = some r31 ∧ vput w25 m28 (mapPut e29 c30 r31 (.int .i64 (x1)) (.agg #[.int .u64 (i27), .int .u64 (if (if i20 < i16 then i20 else i16) < i23 then i23 else (if i20 < i16 then i20 else i16))])) fun w32 => R (.bool true) w32))

def A70 : Ann := .seq (.leaf) (.seq (.seq (.leaf) (.two (.seq (.leaf) (.leaf)) (.leaf))) (.seq (.leaf) (.seq (.ordJ (.op 0 (.op 2 (.op 5 (.far 1 (.far 6 (.op 3 (.op 4 (.op 7 (.rest (.op 8 (.op 9 .done)))))))))))) (.seq (.seq (.leaf) (.two (.seq (.leaf) (.leaf)) (.leaf))) (.seq (.ord (.op 0 (.op 1 (.op 2 (.op 4 (.op 5 (.op 7 (.op 3 (.op 6 (.op 8 (.op 9 .done))))))))))) (.seq (.leaf) (.leaf)))))))

theorem e70 (x0 : Addr) (x1 : Int) (x2 : Int) (w : World) (R : Value → World → Prop) : F70 x0 x1 x2 w R = vfun Tryz.prog Tryz.f70 A70 [.pointer (some x0), .int .i64 (x1), .int .u64 (x2)] w R := by kernel_rfl
theorem c70 (x0 : Addr) (x1 : Int) (x2 : Int) (w : World) {R : Value → World → Prop} (h : F70 x0 x1 x2 w R) : Calls Tryz.prog 70 #[.pointer (some x0), .int .i64 (x1), .int .u64 (x2)] w fun e w' => ∃ v, e = .returned v ∧ R v w' :=
  calls_of_vfun (an := A70) mixed Tryz.func70 (by kernel_rfl) (by kernel_rfl) ((e70 x0 x1 x2 w R).mp h)

/-- (*compline/progress.Track).Has -/
def F71 (x0 : Addr) (x1 : Int) (w : World) (R : Value → World → Prop) : Prop :=
 ∃ (m1 : Option Nat), w.cell? (x0.add 0) = some (.map m1) ∧ vmap w m1 fun m2 e3 c4 => ∃ r5, Instr.findNow (.int .i64) (.int .i64 (x1)) e3.toList 0 = some r5 ∧ ∃ (g6 : Array Value), g6.size = 2 ∧ ∃ (b7 : Bool), lookRes r5 (.agg #[.int .u64 0, .int .u64 0]) = (.agg g6, b7) ∧ vnew w (.cells #[.int .u64 0, .int .u64 0] 137) fun a8 w9 => vstoreN w9 a8 2 g6 fun w10 => R (.bool (b7)) w10

def A71 : Ann := .seq (.leaf) (.seq (.seq (.leaf) (.two (.seq (.leaf) (.leaf)) (.leaf))) (.seq (.leaf) (.seq (.leaf) (.leaf))))

theorem e71 (x0 : Addr) (x1 : Int) (w : World) (R : Value → World → Prop) : F71 x0 x1 w R = vfun Tryz.prog Tryz.f71 A71 [.pointer (some x0), .int .i64 (x1)] w R := by kernel_rfl
theorem c71 (x0 : Addr) (x1 : Int) (w : World) {R : Value → World → Prop} (h : F71 x0 x1 w R) : Calls Tryz.prog 71 #[.pointer (some x0), .int .i64 (x1)] w fun e w' => ∃ v, e = .returned v ∧ R v w' :=
  calls_of_vfun (an := A71) mixed Tryz.func71 (by kernel_rfl) (by kernel_rfl) ((e71 x0 x1 w R).mp h)

/-- (*compline/progress.Track).Yes -/
def F72 (x0 : Addr) (x1 : Int) (x2 : Int) (w : World) (R : Value → World → Prop) : Prop :=
 Calls Tryz.prog 71 #[.pointer (some x0), .int .i64 (x1)] w fun e1 w2 => ∃ (b3 : Bool), e1 = .returned (.bool (b3)) ∧ vif (!b3)
 (R (.bool false) w2)
 (∃ (m4 : Option Nat), w2.cell? (x0.add 0) = some (.map m4) ∧ vmap w2 m4 fun m5 e6 c7 => ∃ r8, Instr.findNow (.int .i64) (.int .i64 (x1)) e6.toList 0 = some r8 ∧ ∃ (g9 : Array Value), g9.size = 2 ∧ ∃ (b10 : Bool), lookRes r8 (.agg #[.int .u64 0, .int .u64 0]) = (.agg g9, b10) ∧ ∃ (i11 : Int), g9[0]? = some (.int .u64 (i11)) ∧ vif (decide ((x2 : Int) ≤ i11))
 (R (.bool false) w2)
 (vdraw w2 fun w12 => ∃ J13 : World → Prop, J13 w12 ∧ ∃ (m14 : Option Nat), (∀ w, J13 w → w.cell? (x0.add 0) = some (.map m14)) ∧ ∃ (m15 : Option Nat), (∀ w, J13 w → w.cell? (x0.add 0) = some (.map m15)) ∧ (vmap w12 m15 fun m16 e17 c18 => ∃ r19, Instr.findNow (.int .i64) (.int .i64 (x1)) e17.toList 0 = some r19 ∧ ∃ (g20 : Array Value), g20.size = 2 ∧ ∃ (b21 : Bool), lookRes r19 (.agg #[.int .u64 0, .int .u64 0]) = (.agg g20, b21) ∧ ∃ (i22 : Int), g20[1]? = some (.int .u64 (i22)) ∧ Calls Tryz.prog 97 #[.int .u64 (x2)] w12 fun e23 w24 => ∃ (i25 : Int), e23 = .returned (.int .u64 (i25)) ∧ J13 w24 ∧ vmap w24 m14 fun m26 e27 c28 => ∃ r29, Instr.findNow (.int .i64) (.int .i64 (x1)) e27.toList 0 = some r29 ∧ vput w24 m26 (mapPut e27 c28 r29 (.int .i64 (x1)) (.agg #[.int .u64 (x2), .int .u64 (if i22 < i25 then i25 else i22)])) fun w30 => R (.bool true) w30)
 ∧ (Calls Tryz.prog 97 #[.int .u64 (x2)] w12 fun e31 w32 => ∃ (i33 : Int), e31 = .returned (.int .u64 (i33)) ∧ J13 w32 ∧ vmap w32 m15 fun m34 e35 c36 => ∃ r37, Instr.findNow (.int .i64) (.int .i64 (x1)) e35.toList 0 = some r37 ∧ ∃ (g38 : Array Value), g38.size = 2 ∧ ∃ (b39 : Bool), lookRes r37 (.agg #[.int .u64 0, .int .u64 0]) = (.agg g38, b39) ∧ ∃ (i40 : Int), g38[1]? = some (.int .u64 (i40)) ∧ vmap w32 m14 fun m41 e42 c43 => ∃ r44, Instr.findNow (.int .i64) (.int .i64 (x1)) e42.toList 0 = some r44 ∧ vput w32 m41 (mapPut e42 c43 r44 (.int .i64 (x1)) (.agg #[.int .u64 (x2), .int .u64 (if i40 < i33 then i33 else i40)])) fun w45 => R (.bool true) w45)))

def A72 : Ann := .seq (.leaf) (.seq (.seq (.leaf) (.two (.seq (.leaf) (.leaf)) (.leaf))) (.seq (.ordJ (.op 0 (.op 1 (.op 2 (.op 4 (.op 5 (.op 6 (.op 7 (.op 8 (.op 10 (.op 13 (.far 3 (.far 9 (.or (.op 11 (.op 12 (.op 14 (.rest (.op 15 (.op 16 (.op 17 .done))))))) (.op 14 (.rest (.op 11 (.op 12 (.op 15 (.op 16 (.op 17 .done))))))))))))))))))))) (.seq (.leaf) (.leaf))))

theorem e72 (x0 : Addr) (x1 : Int) (x2 : Int) (w : World) (R : Value → World → Prop) : F72 x0 x1 x2 w R = vfun Tryz.prog Tryz.f72 A72 [.pointer (some x0), .int .i64 (x1), .int .u64 (x2)] w R := by kernel_rfl
theorem c72 (x0 : Addr) (x1 : Int) (x2 : Int) (w : World) {R : Value → World → Prop} (h : F72 x0 x1 x2 w R) : Calls Tryz.prog 72 #[.pointer (some x0), .int .i64 (x1), .int .u64 (x2)] w fun e w' => ∃ v, e = .returned v ∧ R v w' :=
  calls_of_vfun (an := A72) mixed Tryz.func72 (by kernel_rfl) (by kernel_rfl) ((e72 x0 x1 x2 w R).mp h)

/-- (*compline/progress.Track).Next -/
def F73 (x0 : Addr) (x1 : Int) (w : World) (R : Value → World → Prop) : Prop :=
 ∃ (m1 : Option Nat), w.cell? (x0.add 0) = some (.map m1) ∧ vmap w m1 fun m2 e3 c4 => ∃ r5, Instr.findNow (.int .i64) (.int .i64 (x1)) e3.toList 0 = some r5 ∧ ∃ (g6 : Array Value), g6.size = 2 ∧ ∃ (b7 : Bool), lookRes r5 (.agg #[.int .u64 0, .int .u64 0]) = (.agg g6, b7) ∧ ∃ (i8 : Int), g6[1]? = some (.int .u64 (i8)) ∧ R (.int .u64 (i8)) w

def A73 : Ann := .seq (.leaf) (.seq (.seq (.leaf) (.two (.seq (.leaf) (.leaf)) (.leaf))) (.seq (.leaf) (.leaf)))

theorem e73 (x0 : Addr) (x1 : Int) (w : World) (R : Value → World → Prop) : F73 x0 x1 w R = vfun Tryz.prog Tryz.f73 A73 [.pointer (some x0), .int .i64 (x1)] w R := by kernel_rfl
theorem c73 (x0 : Addr) (x1 : Int) (w : World) {R : Value → World → Prop} (h : F73 x0 x1 w R) : Calls Tryz.prog 73 #[.pointer (some x0), .int .i64 (x1)] w fun e w' => ∃ v, e = .returned v ∧ R v w' :=
  calls_of_vfun (an := A73) mixed Tryz.func73 (by kernel_rfl) (by kernel_rfl) ((e73 x0 x1 w R).mp h)

/-- (*compline/progress.Track).Follow -/
def F76 (x0 : Addr) (x1 : Option Addr) (x1n x1c : Nat) (x2 : Int) (w : World) (R : Value → World → Prop) : Prop :=
 ∃ (m1 : Option Nat), w.cell? (x0.add 0) = some (.map m1) ∧ vmap w m1 fun m2 e3 c4 => vnew w (.mapIter (some m2) c4 #[] c4) fun a5 w6 => ∃ (I7 : List Value → World → Prop) (μ8 : List Value → World → Nat), (I7 [] w6)
 ∧ (∀ w9, I7 [] w9 → vnext w9 (.pointer (some a5)) fun b10 l11 w12 => vif (b10)
 (ventry w12 (.pointer (some a5)) fun v13 v14 => Calls Tryz.prog 59 #[.slice x1 x1n x1c, v13] w12 fun e15 w16 => ∃ (b17 : Bool), e15 = .returned (.bool (b17)) ∧ vif (!b17)
 (∃ (m18 : Option Nat), w16.cell? (x0.add 0) = some (.map m18) ∧ vmap w16 m18 fun m19 e20 c21 => ∃ r22, Instr.findNow (.int .i64) v13 e20.toList 0 = some r22 ∧ vput w16 m19 (mapCut e20 c21 r22) fun w23 => I7 [] w23 ∧ μ8 [] w23 < μ8 [] w9)
 (I7 [] w16 ∧ μ8 [] w16 < μ8 [] w9))
 (∃ (I24 : List Value → World → Prop) (μ25 : List Value → World → Nat), (I24 [.int .i64 0] w12)
 ∧ (∀ (i26 : Int), ∀ w27, I24 [.int .i64 (i26)] w27 → vif (decide ((i26 : Int) < (x1n : Nat)))
 (vidx x1 x1n i26 fun a28 => ∃ (i29 : Int), w27.cell? (a28.add ((i26 : Int).toNat * 1)) = some (.int .i64 (i29)) ∧ Calls Tryz.prog 71 #[.pointer (some x0), .int .i64 (i29)] w27 fun e30 w31 => ∃ (b32 : Bool), e30 = .returned (.bool (b32)) ∧ vif (!b32)
 (vdraw w31 fun w33 => ∃ J34 : World → Prop, J34 w33 ∧ ∃ (m35 : Option Nat), (∀ w, J34 w → w.cell? (x0.add 0) = some (.map m35)) ∧ Calls Tryz.prog 97 #[.int .u64 (x2)] w33 fun e36 w37 => ∃ (i38 : Int), e36 = .returned (.int .u64 (i38)) ∧ J34 w37 ∧ vmap w37 m35 fun m39 e40 c41 => ∃ r42, Instr.findNow (.int .i64) (.int .i64 (i29)) e40.toList 0 = some r42 ∧ vput w37 m39 (mapPut e40 c41 r42 (.int .i64 (i29)) (.agg #[.int .u64 0, .int .u64 (i38)])) fun w43 => I24 [.int .i64 (IntKind.i64.wrap (i26 + 1))] w43 ∧ μ25 [.int .i64 (IntKind.i64.wrap (i26 + 1))] w43 < μ25 [.int .i64 (i26)] w27)
 (I24 [.int .i64 (IntKind.i64.wrap (i26 + 1))] w31 ∧ μ25 [.int .i64 (IntKind.i64.wrap (i26 + 1))] w31 < μ25 [.int .i64 (i26)] w27))
 (R (.tuple #[]) w27))))

def A76 : Ann := .seq (.seq (.leaf) (.two (.leaf) (.leaf))) (.seq (.seq (.leaf) (.one (.loop [] (.seq (.leaf) (.seq (.two (.leaf) (.leaf)) (.one (.seq (.leaf) (.seq (.leaf) (.two (.leaf) (.leaf)))))))))) (.seq (.leaf) (.one (.loop [(31, .int .i64)] (.seq (.leaf) (.seq (.two (.leaf) (.leaf)) (.seq (.one (.seq (.leaf) (.seq (.leaf) (.two (.ordJ (.op 0 (.op 1 (.op 2 (.op 4 (.op 5 (.far 3 (.op 6 (.rest (.op 7 (.op 8 .done))))))))))) (.leaf))))) (.leaf))))))))

theorem e76 (x0 : Addr) (x1 : Option Addr) (x1n x1c : Nat) (x2 : Int) (w : World) (R : Value → World → Prop) : F76 x0 x1 x1n x1c x2 w R = vfun Tryz.prog Tryz.f76 A76 [.pointer (some x0), .slice x1 x1n x1c, .int .u64 (x2)] w R := by kernel_rfl
theorem c76 (x0 : Addr) (x1 : Option Addr) (x1n x1c : Nat) (x2 : Int) (w : World) {R : Value → World → Prop} (h : F76 x0 x1 x1n x1c x2 w R) : Calls Tryz.prog 76 #[.pointer (some x0), .slice x1 x1n x1c, .int .u64 (x2)] w fun e w' => ∃ v, e = .returned v ∧ R v w' :=
  calls_of_vfun (an := A76) mixed Tryz.func76 (by kernel_rfl) (by kernel_rfl) ((e76 x0 x1 x1n x1c x2 w R).mp h)

/-- compline/progress.New -/
def F95 (x0 : Option Addr) (x0n x0c : Nat) (x1 : Int) (w : World) (R : Value → World → Prop) : Prop :=
 vnew w (.map #[] 0) fun a1 w2 => vnew w2 (.cells #[.map (some a1.block)] 140) fun a3 w4 => Calls Tryz.prog 76 #[.pointer (some a3), .slice x0 x0n x0c, .int .u64 (x1)] w4 fun e5 w6 => e5 = .returned (.tuple #[]) ∧ R (.pointer (some a3)) w6

def A95 : Ann := .seq (.leaf) (.seq (.leaf) (.seq (.leaf) (.seq (.leaf) (.leaf))))

theorem e95 (x0 : Option Addr) (x0n x0c : Nat) (x1 : Int) (w : World) (R : Value → World → Prop) : F95 x0 x0n x0c x1 w R = vfun Tryz.prog Tryz.f95 A95 [.slice x0 x0n x0c, .int .u64 (x1)] w R := by kernel_rfl
theorem c95 (x0 : Option Addr) (x0n x0c : Nat) (x1 : Int) (w : World) {R : Value → World → Prop} (h : F95 x0 x0n x0c x1 w R) : Calls Tryz.prog 95 #[.slice x0 x0n x0c, .int .u64 (x1)] w fun e w' => ∃ v, e = .returned v ∧ R v w' :=
  calls_of_vfun (an := A95) mixed Tryz.func95 (by kernel_rfl) (by kernel_rfl) ((e95 x0 x0n x0c x1 w R).mp h)

/-- compline/progress.above -/
def F97 (x0 : Int) (w : World) (R : Value → World → Prop) : Prop :=
 R (.int .u64 (if x0 < (IntKind.u64.wrap (x0 + 1)) then (IntKind.u64.wrap (x0 + 1)) else x0)) w

def A97 : Ann := .seq (.leaf) (.seq (.leaf) (.leaf))

theorem e97 (x0 : Int) (w : World) (R : Value → World → Prop) : F97 x0 w R = vfun Tryz.prog Tryz.f97 A97 [.int .u64 (x0)] w R := by kernel_rfl
theorem c97 (x0 : Int) (w : World) {R : Value → World → Prop} (h : F97 x0 w R) : Calls Tryz.prog 97 #[.int .u64 (x0)] w fun e w' => ∃ v, e = .returned v ∧ R v w' :=
  calls_of_vfun (an := A97) mixed Tryz.func97 (by kernel_rfl) (by kernel_rfl) ((e97 x0 w R).mp h)

/-- (*compline/progress.Track).Match -/
def F100 (x0 : Addr) (x1 : Int) (w : World) (R : Value → World → Prop) : Prop :=
 ∃ (m1 : Option Nat), w.cell? (x0.add 0) = some (.map m1) ∧ vmap w m1 fun m2 e3 c4 => ∃ r5, Instr.findNow (.int .i64) (.int .i64 (x1)) e3.toList 0 = some r5 ∧ ∃ (g6 : Array Value), g6.size = 2 ∧ ∃ (b7 : Bool), lookRes r5 (.agg #[.int .u64 0, .int .u64 0]) = (.agg g6, b7) ∧ ∃ (i8 : Int), g6[0]? = some (.int .u64 (i8)) ∧ R (.int .u64 (i8)) w

def A100 : Ann := .seq (.leaf) (.seq (.seq (.leaf) (.two (.seq (.leaf) (.leaf)) (.leaf))) (.seq (.leaf) (.leaf)))

theorem e100 (x0 : Addr) (x1 : Int) (w : World) (R : Value → World → Prop) : F100 x0 x1 w R = vfun Tryz.prog Tryz.f100 A100 [.pointer (some x0), .int .i64 (x1)] w R := by kernel_rfl
theorem c100 (x0 : Addr) (x1 : Int) (w : World) {R : Value → World → Prop} (h : F100 x0 x1 w R) : Calls Tryz.prog 100 #[.pointer (some x0), .int .i64 (x1)] w fun e w' => ∃ v, e = .returned v ∧ R v w' :=
  calls_of_vfun (an := A100) mixed Tryz.func100 (by kernel_rfl) (by kernel_rfl) ((e100 x0 x1 w R).mp h)

/-- compline/command.Members -/
def F53 (x0 : Option Addr) (x0n x0c : Nat) (w : World) (R : Value → World → Prop) : Prop :=
 Calls Tryz.prog 81 #[.slice x0 x0n x0c] w fun e1 w2 => ∃ (b3 : Bool), e1 = .returned (.bool (b3)) ∧ vif (!b3)
 (R (.tuple #[.slice Option.none 0 0, .int .i64 1]) w2)
 (vnew w2 (.cells #[.slice Option.none 0 0] 119) fun a4 w5 => Calls Tryz.prog 82 #[.pointer (some a4), .slice x0 x0n x0c, .func (.func 83) #[] #[]] w5 fun e6 w7 => e6 = .returned (.tuple #[]) ∧ Calls Tryz.prog 85 #[.pointer (some a4)] w7 fun e8 w9 => ∃ (s10 : Option Addr) (s10n s10c : Nat), e8 = .returned (.slice s10 s10n s10c) ∧ R (.tuple #[.slice s10 s10n s10c, .int .i64 0]) w9)

def A53 : Ann := .seq (.leaf) (.seq (.seq (.leaf) (.two (.seq (.leaf) (.leaf)) (.leaf))) (.seq (.leaf) (.seq (.leaf) (.seq (.leaf) (.leaf)))))

theorem e53 (x0 : Option Addr) (x0n x0c : Nat) (w : World) (R : Value → World → Prop) : F53 x0 x0n x0c w R = vfun Tryz.prog Tryz.f53 A53 [.slice x0 x0n x0c] w R := by kernel_rfl
theorem c53 (x0 : Option Addr) (x0n x0c : Nat) (w : World) {R : Value → World → Prop} (h : F53 x0 x0n x0c w R) : Calls Tryz.prog 53 #[.slice x0 x0n x0c] w fun e w' => ∃ v, e = .returned v ∧ R v w' :=
  calls_of_vfun (an := A53) mixed Tryz.func53 (by kernel_rfl) (by kernel_rfl) ((e53 x0 x0n x0c w R).mp h)

/-- compline/command.MembersOf -/
def F80 (x0 : Option Addr) (x0n x0c : Nat) (w : World) (R : Value → World → Prop) : Prop :=
 Calls Tryz.prog 101 #[.slice x0 x0n x0c] w fun e1 w2 => ∃ (p3 : Option Addr), e1 = .returned (.pointer p3) ∧ Calls Tryz.prog 102 #[.pointer p3, .int .i64 7, .func (.func 103) #[] #[]] w2 fun e4 w5 => ∃ (s6 : Option Addr) (s6n s6c : Nat), e4 = .returned (.slice s6 s6n s6c) ∧ Calls Tryz.prog 105 #[.pointer p3] w5 fun e7 w8 => ∃ (i9 : Int), e7 = .returned (.int .i64 (i9)) ∧ vif ((i9 : Int) != 0)
 (R (.tuple #[.slice Option.none 0 0, .int .i64 (i9)]) w8)
 (Calls Tryz.prog 81 #[.slice s6 s6n s6c] w8 fun e10 w11 => ∃ (b12 : Bool), e10 = .returned (.bool (b12)) ∧ vif (!b12)
 (R (.tuple #[.slice Option.none 0 0, .int .i64 2]) w11)
 (Calls Tryz.prog 106 #[.slice s6 s6n s6c] w11 fun e13 w14 => ∃ (s15 : Option Addr) (s15n s15c : Nat), e13 = .returned (.slice s15 s15n s15c) ∧ R (.tuple #[.slice s15 s15n s15c, .int .i64 0]) w14))

def A80 : Ann := .seq (.leaf) (.seq (.leaf) (.seq (.leaf) (.seq (.seq (.leaf) (.seq (.leaf) (.two (.seq (.leaf) (.leaf)) (.leaf)))) (.seq (.seq (.leaf) (.two (.seq (.leaf) (.leaf)) (.leaf))) (.seq (.leaf) (.leaf))))))

theorem e80 (x0 : Option Addr) (x0n x0c : Nat) (w : World) (R : Value → World → Prop) : F80 x0 x0n x0c w R = vfun Tryz.prog Tryz.f80 A80 [.slice x0 x0n x0c] w R := by kernel_rfl
theorem c80 (x0 : Option Addr) (x0n x0c : Nat) (w : World) {R : Value → World → Prop} (h : F80 x0 x0n x0c w R) : Calls Tryz.prog 80 #[.slice x0 x0n x0c] w fun e w' => ∃ v, e = .returned v ∧ R v w' :=
  calls_of_vfun (an := A80) mixed Tryz.func80 (by kernel_rfl) (by kernel_rfl) ((e80 x0 x0n x0c w R).mp h)

/-- compline/command.members -/
def F81 (x0 : Option Addr) (x0n x0c : Nat) (w : World) (R : Value → World → Prop) : Prop :=
 ∃ (I1 : List Value → World → Prop) (μ2 : List Value → World → Nat), (I1 [.int .i64 0] w)
 ∧ (∀ (i3 : Int), ∀ w4, I1 [.int .i64 (i3)] w4 → vif (decide ((i3 : Int) < (x0n : Nat)))
 (vidx x0 x0n i3 fun a5 => ∃ (i6 : Int), w4.cell? (a5.add ((i3 : Int).toNat * 1)) = some (.int .i64 (i6)) ∧ vif (decide ((i6 : Int) < 1))
 (R (.bool false) w4)
 (vif (decide ((i6 : Int) > 7))
 (R (.bool false) w4)
 (vif (decide ((i3 : Int) > 0))
 (vidx x0 x0n (IntKind.i64.wrap (i3 - 1)) fun a7 => ∃ (i8 : Int), w4.cell? (a7.add ((IntKind.i64.wrap (i3 - 1) : Int).toNat * 1)) = some (.int .i64 (i8)) ∧ vif (decide ((i8 : Int) ≥ i6))
 (R (.bool false) w4)
 (I1 [.int .i64 (IntKind.i64.wrap (i3 + 1))] w4 ∧ μ2 [.int .i64 (IntKind.i64.wrap (i3 + 1))] w4 < μ2 [.int .i64 (i3)] w4))
 (I1 [.int .i64 (IntKind.i64.wrap (i3 + 1))] w4 ∧ μ2 [.int .i64 (IntKind.i64.wrap (i3 + 1))] w4 < μ2 [.int .i64 (i3)] w4))))
 (R (.bool (decide (((x0n : Nat) : Int) > 0))) w4))

def A81 : Ann := .seq (.leaf) (.seq (.seq (.leaf) (.one (.loop [(7, .int .i64)] (.seq (.leaf) (.seq (.two (.leaf) (.leaf)) (.seq (.one (.seq (.leaf) (.seq (.leaf) (.two (.seq (.leaf) (.leaf)) (.leaf))))) (.leaf))))))) (.seq (.leaf) (.leaf)))

theorem e81 (x0 : Option Addr) (x0n x0c : Nat) (w : World) (R : Value → World → Prop) : F81 x0 x0n x0c w R = vfun Tryz.prog Tryz.f81 A81 [.slice x0 x0n x0c] w R := by kernel_rfl
theorem c81 (x0 : Option Addr) (x0n x0c : Nat) (w : World) {R : Value → World → Prop} (h : F81 x0 x0n x0c w R) : Calls Tryz.prog 81 #[.slice x0 x0n x0c] w fun e w' => ∃ v, e = .returned v ∧ R v w' :=
  calls_of_vfun (an := A81) mixed Tryz.func81 (by kernel_rfl) (by kernel_rfl) ((e81 x0 x0n x0c w R).mp h)

/-- compline/octet.Put[int] -/
def F82 (x0 : Addr) (x1 : Option Addr) (x1n x1c : Nat) (x2 : Value) (w : World) (R : Value → World → Prop) : Prop :=
 Calls Tryz.prog 84 #[.pointer (some x0), .int .u64 (IntKind.u64.wrap (x1n : Nat))] w fun e1 w2 => e1 = .returned (.tuple #[]) ∧ ∃ (I3 : List Value → World → Prop) (μ4 : List Value → World → Nat), (I3 [.int .i64 0] w2)
 ∧ (∀ (i5 : Int), ∀ w6, I3 [.int .i64 (i5)] w6 → vif (decide ((i5 : Int) < (x1n : Nat)))
 (vidx x1 x1n i5 fun a7 => ∃ (i8 : Int), w6.cell? (a7.add ((i5 : Int).toNat * 1)) = some (.int .i64 (i8)) ∧ vcallv Tryz.prog x2 [.pointer (some x0), .int .i64 (i8)] w6 fun e9 w10 => e9 = .returned (.tuple #[]) ∧ I3 [.int .i64 (IntKind.i64.wrap (i5 + 1))] w10 ∧ μ4 [.int .i64 (IntKind.i64.wrap (i5 + 1))] w10 < μ4 [.int .i64 (i5)] w6)
 (R (.tuple #[]) w6))

def A82 : Ann := .seq (.leaf) (.seq (.leaf) (.one (.loop [(15, .int .i64)] (.seq (.leaf) (.seq (.two (.leaf) (.leaf)) (.seq (.one (.seq (.leaf) (.leaf))) (.leaf)))))))

theorem e82 (x0 : Addr) (x1 : Option Addr) (x1n x1c : Nat) (x2 : Value) (w : World) (R : Value → World → Prop) : F82 x0 x1 x1n x1c x2 w R = vfun Tryz.prog Tryz.f82 A82 [.pointer (some x0), .slice x1 x1n x1c, x2] w R := by kernel_rfl
theorem c82 (x0 : Addr) (x1 : Option Addr) (x1n x1c : Nat) (x2 : Value) (w : World) {R : Value → World → Prop} (h : F82 x0 x1 x1n x1c x2 w R) : Calls Tryz.prog 82 #[.pointer (some x0), .slice x1 x1n x1c, x2] w fun e w' => ∃ v, e = .returned v ∧ R v w' :=
  calls_of_vfun (an := A82) mixed Tryz.func82 (by kernel_rfl) (by kernel_rfl) ((e82 x0 x1 x1n x1c x2 w R).mp h)

/-- compline/command.Members$1 -/
def F83 (x0 : Addr) (x1 : Int) (w : World) (R : Value → World → Prop) : Prop :=
 Calls Tryz.prog 84 #[.pointer (some x0), .int .u64 (IntKind.u64.wrap x1)] w fun e1 w2 => e1 = .returned (.tuple #[]) ∧ R (.tuple #[]) w2

def A83 : Ann := .leaf

theorem e83 (x0 : Addr) (x1 : Int) (w : World) (R : Value → World → Prop) : F83 x0 x1 w R = vfun Tryz.prog Tryz.f83 A83 [.pointer (some x0), .int .i64 (x1)] w R := by kernel_rfl
theorem c83 (x0 : Addr) (x1 : Int) (w : World) {R : Value → World → Prop} (h : F83 x0 x1 w R) : Calls Tryz.prog 83 #[.pointer (some x0), .int .i64 (x1)] w fun e w' => ∃ v, e = .returned v ∧ R v w' :=
  calls_of_vfun (an := A83) mixed Tryz.func83 (by kernel_rfl) (by kernel_rfl) ((e83 x0 x1 w R).mp h)

/-- (*compline/octet.Writer).Num -/
def F84 (x0 : Addr) (x1 : Int) (w : World) (R : Value → World → Prop) : Prop :=
 ∃ (I1 : List Value → World → Prop) (μ2 : List Value → World → Nat), (I1 [.int .u64 (x1)] w)
 ∧ (∀ (i3 : Int), ∀ w4, I1 [.int .u64 (i3)] w4 → vif (decide ((i3 : Int) ≥ 128))
 (∃ (s5 : Option Addr) (s5n s5c : Nat), w4.cell? (x0.add 0) = some (.slice s5 s5n s5c) ∧ (#[.int .u8 0] : Array Value).size = 1 ∧ vnew w4 (.cells #[.int .u8 (ibits .or .u8 (IntKind.u8.wrap i3) 128)] 5) fun a6 w7 => vappend Tryz.prog 5 w7 s5 s5n s5c (some a6) 1 fun s8 s8n s8c w9 => vstore1 w9 (x0.add 0) (.slice s8 s8n s8c) fun w10 => 0 ≤ (7 : Int) ∧ I1 [.int .u64 ((i3 : Int).fdiv (2 ^ (min (7 : Int).toNat 64)))] w10 ∧ μ2 [.int .u64 ((i3 : Int).fdiv (2 ^ (min (7 : Int).toNat 64)))] w10 < μ2 [.int .u64 (i3)] w4)
 (∃ (s11 : Option Addr) (s11n s11c : Nat), w4.cell? (x0.add 0) = some (.slice s11 s11n s11c) ∧ (#[.int .u8 0] : Array Value).size = 1 ∧ vnew w4 (.cells #[.int .u8 (IntKind.u8.wrap i3)] 5) fun a12 w13 => vappend Tryz.prog 5 w13 s11 s11n s11c (some a12) 1 fun s14 s14n s14c w15 => vstore1 w15 (x0.add 0) (.slice s14 s14n s14c) fun w16 => R (.tuple #[]) w16))

def A84 : Ann := .seq (.seq (.leaf) (.two (.leaf) (.leaf))) (.seq (.one (.loop [(1, .int .u64)] (.seq (.seq (.leaf) (.two (.leaf) (.leaf))) (.seq (.one (.leaf)) (.leaf))))) (.leaf))

theorem e84 (x0 : Addr) (x1 : Int) (w : World) (R : Value → World → Prop) : F84 x0 x1 w R = vfun Tryz.prog Tryz.f84 A84 [.pointer (some x0), .int .u64 (x1)] w R := by kernel_rfl
theorem c84 (x0 : Addr) (x1 : Int) (w : World) {R : Value → World → Prop} (h : F84 x0 x1 w R) : Calls Tryz.prog 84 #[.pointer (some x0), .int .u64 (x1)] w fun e w' => ∃ v, e = .returned v ∧ R v w' :=
  calls_of_vfun (an := A84) mixed Tryz.func84 (by kernel_rfl) (by kernel_rfl) ((e84 x0 x1 w R).mp h)

/-- (*compline/octet.Writer).Bytes -/
def F85 (x0 : Addr) (w : World) (R : Value → World → Prop) : Prop :=
 ∃ (s1 : Option Addr) (s1n s1c : Nat), w.cell? (x0.add 0) = some (.slice s1 s1n s1c) ∧ Calls Tryz.prog 56 #[.slice s1 s1n s1c] w fun e2 w3 => ∃ (s4 : Option Addr) (s4n s4c : Nat), e2 = .returned (.slice s4 s4n s4c) ∧ R (.slice s4 s4n s4c) w3

def A85 : Ann := .seq (.leaf) (.seq (.seq (.leaf) (.two (.seq (.leaf) (.leaf)) (.leaf))) (.seq (.leaf) (.leaf)))

theorem e85 (x0 : Addr) (w : World) (R : Value → World → Prop) : F85 x0 w R = vfun Tryz.prog Tryz.f85 A85 [.pointer (some x0)] w R := by kernel_rfl
theorem c85 (x0 : Addr) (w : World) {R : Value → World → Prop} (h : F85 x0 w R) : Calls Tryz.prog 85 #[.pointer (some x0)] w fun e w' => ∃ v, e = .returned v ∧ R v w' :=
  calls_of_vfun (an := A85) mixed Tryz.func85 (by kernel_rfl) (by kernel_rfl) ((e85 x0 w R).mp h)

/-- compline/octet.Read -/
def F101 (x0 : Option Addr) (x0n x0c : Nat) (w : World) (R : Value → World → Prop) : Prop :=
 Calls Tryz.prog 56 #[.slice x0 x0n x0c] w fun e1 w2 => ∃ (s3 : Option Addr) (s3n s3c : Nat), e1 = .returned (.slice s3 s3n s3c) ∧ vnew w2 (.cells #[.slice s3 s3n s3c, .int .i64 0] 161) fun a4 w5 => R (.pointer (some a4)) w5

def A101 : Ann := .seq (.leaf) (.seq (.leaf) (.leaf))

theorem e101 (x0 : Option Addr) (x0n x0c : Nat) (w : World) (R : Value → World → Prop) : F101 x0 x0n x0c w R = vfun Tryz.prog Tryz.f101 A101 [.slice x0 x0n x0c] w R := by kernel_rfl
theorem c101 (x0 : Option Addr) (x0n x0c : Nat) (w : World) {R : Value → World → Prop} (h : F101 x0 x0n x0c w R) : Calls Tryz.prog 101 #[.slice x0 x0n x0c] w fun e w' => ∃ v, e = .returned v ∧ R v w' :=
  calls_of_vfun (an := A101) mixed Tryz.func101 (by kernel_rfl) (by kernel_rfl) ((e101 x0 x0n x0c w R).mp h)

/-- compline/octet.Get[int] -/
def F102 (x0 : Addr) (x1 : Int) (x2 : Value) (w : World) (R : Value → World → Prop) : Prop :=
 Calls Tryz.prog 110 #[.pointer (some x0), .int .i64 (x1)] w fun e1 w2 => ∃ (i3 : Int), e1 = .returned (.int .i64 (i3)) ∧ ∃ (I4 : List Value → World → Prop) (μ5 : List Value → World → Nat), (I4 [.slice Option.none 0 0, .int .i64 0] w2)
 ∧ (∀ (s6 : Option Addr) (s6n s6c : Nat), ∀ (i7 : Int), ∀ w8, I4 [.slice s6 s6n s6c, .int .i64 (i7)] w8 → vif (decide ((i7 : Int) < i3))
 (vcallv Tryz.prog x2 [.pointer (some x0)] w8 fun e9 w10 => ∃ (i11 : Int), e9 = .returned (.int .i64 (i11)) ∧ Calls Tryz.prog 111 #[.pointer (some x0)] w10 fun e12 w13 => ∃ (i14 : Int), e12 = .returned (.int .i64 (i14)) ∧ vif ((i14 : Int) != 0)
 (R (.slice Option.none 0 0) w13)
 ((#[.int .i64 0] : Array Value).size = 1 ∧ vnew w13 (.cells #[.int .i64 (i11)] 3) fun a15 w16 => vappend Tryz.prog 3 w16 s6 s6n s6c (some a15) 1 fun s17 s17n s17c w18 => I4 [.slice s17 s17n s17c, .int .i64 (IntKind.i64.wrap (i7 + 1))] w18 ∧ μ5 [.slice s17 s17n s17c, .int .i64 (IntKind.i64.wrap (i7 + 1))] w18 < μ5 [.slice s6 s6n s6c, .int .i64 (i7)] w8))
 (R (.slice s6 s6n s6c) w8))

def A102 : Ann := .seq (.leaf) (.seq (.leaf) (.seq (.seq (.leaf) (.one (.loop [(7, .slice), (12, .int .i64)] (.seq (.leaf) (.seq (.two (.leaf) (.leaf)) (.seq (.one (.seq (.leaf) (.seq (.seq (.leaf) (.two (.seq (.leaf) (.leaf)) (.leaf))) (.leaf)))) (.leaf))))))) (.seq (.leaf) (.leaf))))

theorem e102 (x0 : Addr) (x1 : Int) (x2 : Value) (w : World) (R : Value → World → Prop) : F102 x0 x1 x2 w R = vfun Tryz.prog Tryz.f102 A102 [.pointer (some x0), .int .i64 (x1), x2] w R := by kernel_rfl
theorem c102 (x0 : Addr) (x1 : Int) (x2 : Value) (w : World) {R : Value → World → Prop} (h : F102 x0 x1 x2 w R) : Calls Tryz.prog 102 #[.pointer (some x0), .int .i64 (x1), x2] w fun e w' => ∃ v, e = .returned v ∧ R v w' :=
  calls_of_vfun (an := A102) mixed Tryz.func102 (by kernel_rfl) (by kernel_rfl) ((e102 x0 x1 x2 w R).mp h)

/-- compline/command.MembersOf$1 -/
def F103 (x0 : Addr) (w : World) (R : Value → World → Prop) : Prop :=
 Calls Tryz.prog 104 #[.pointer (some x0)] w fun e1 w2 => ∃ (i3 : Int), e1 = .returned (.int .u64 (i3)) ∧ R (.int .i64 (IntKind.i64.wrap (if 8 < i3 then 8 else i3))) w2

def A103 : Ann := .seq (.leaf) (.seq (.leaf) (.leaf))

theorem e103 (x0 : Addr) (w : World) (R : Value → World → Prop) : F103 x0 w R = vfun Tryz.prog Tryz.f103 A103 [.pointer (some x0)] w R := by kernel_rfl
theorem c103 (x0 : Addr) (w : World) {R : Value → World → Prop} (h : F103 x0 w R) : Calls Tryz.prog 103 #[.pointer (some x0)] w fun e w' => ∃ v, e = .returned v ∧ R v w' :=
  calls_of_vfun (an := A103) mixed Tryz.func103 (by kernel_rfl) (by kernel_rfl) ((e103 x0 w R).mp h)

/-- (*compline/octet.Reader).Num -/
def F104 (x0 : Addr) (w : World) (R : Value → World → Prop) : Prop :=
 ∃ (I1 : List Value → World → Prop) (μ2 : List Value → World → Nat), (I1 [.int .u64 0, .int .i64 0] w)
 ∧ (∀ (i3 : Int), ∀ (i4 : Int), ∀ w5, I1 [.int .u64 (i3), .int .i64 (i4)] w5 → Calls Tryz.prog 111 #[.pointer (some x0)] w5 fun e6 w7 => ∃ (i8 : Int), e6 = .returned (.int .i64 (i8)) ∧ vif ((i8 : Int) == 0)
 (Calls Tryz.prog 112 #[.pointer (some x0)] w7 fun e9 w10 => ∃ (i11 : Int), e9 = .returned (.int .u8 (i11)) ∧ Calls Tryz.prog 111 #[.pointer (some x0)] w10 fun e12 w13 => ∃ (i14 : Int), e12 = .returned (.int .i64 (i14)) ∧ vif ((i14 : Int) != 0)
 (R (.int .u64 0) w13)
 (∃ J15 : List Value → World → Prop, (vif (decide ((i4 : Int) > 63))
 (Calls Tryz.prog 113 #[.pointer (some x0), .int .i64 2] w13 fun e16 w17 => e16 = .returned (.tuple #[]) ∧ R (.int .u64 0) w17)
 (vif ((i4 : Int) == 63)
 (vif (decide ((i11 : Int) > 1))
 (Calls Tryz.prog 113 #[.pointer (some x0), .int .i64 2] w13 fun e18 w19 => e18 = .returned (.tuple #[]) ∧ R (.int .u64 0) w19)
 (vif ((i11 : Int) == 0)
 (vif (decide ((i4 : Int) > 0))
 (Calls Tryz.prog 113 #[.pointer (some x0), .int .i64 2] w13 fun e20 w21 => e20 = .returned (.tuple #[]) ∧ R (.int .u64 0) w21)
 (J15 [] w13))
 (J15 [] w13)))
 (vif ((i11 : Int) == 0)
 (vif (decide ((i4 : Int) > 0))
 (Calls Tryz.prog 113 #[.pointer (some x0), .int .i64 2] w13 fun e22 w23 => e22 = .returned (.tuple #[]) ∧ R (.int .u64 0) w23)
 (J15 [] w13))
 (J15 [] w13))))
 ∧ (∀ w24, J15 [] w24 → 0 ≤ ((IntKind.u64.wrap i4) : Int) ∧ vif (decide ((i11 : Int) < 128))
 (R (.int .u64 (ibits .or .u64 i3 (IntKind.u64.wrap ((IntKind.u64.wrap (ibits .and .u8 i11 127)) * 2 ^ (min ((IntKind.u64.wrap i4) : Int).toNat 64))))) w24)
 (I1 [.int .u64 (ibits .or .u64 i3 (IntKind.u64.wrap ((IntKind.u64.wrap (ibits .and .u8 i11 127)) * 2 ^ (min ((IntKind.u64.wrap i4) : Int).toNat 64)))), .int .i64 (IntKind.i64.wrap (i4 + 7))] w24 ∧ μ2 [.int .u64 (ibits .or .u64 i3 (IntKind.u64.wrap ((IntKind.u64.wrap (ibits .and .u8 i11 127)) * 2 ^ (min ((IntKind.u64.wrap i4) : Int).toNat 64)))), .int .i64 (IntKind.i64.wrap (i4 + 7))] w24 < μ2 [.int .u64 (i3), .int .i64 (i4)] w5))))
 (R (.int .u64 0) w7))

def A104 : Ann := .seq (.leaf) (.seq (.leaf) (.seq (.seq (.leaf) (.one (.loop [(3, .int .u64), (4, .int .i64)] (.seq (.seq (.leaf) (.two (.leaf) (.leaf))) (.seq (.one (.seq (.leaf) (.seq (.seq (.leaf) (.two (.leaf) (.leaf))) (.cut [] (.seq (.leaf) (.two (.seq (.leaf) (.leaf)) (.leaf))) (.seq (.leaf) (.seq (.leaf) (.two (.seq (.leaf) (.leaf)) (.leaf)))))))) (.leaf)))))) (.seq (.leaf) (.leaf))))

theorem e104 (x0 : Addr) (w : World) (R : Value → World → Prop) : F104 x0 w R = vfun Tryz.prog Tryz.f104 A104 [.pointer (some x0)] w R := by kernel_rfl
theorem c104 (x0 : Addr) (w : World) {R : Value → World → Prop} (h : F104 x0 w R) : Calls Tryz.prog 104 #[.pointer (some x0)] w fun e w' => ∃ v, e = .returned v ∧ R v w' :=
  calls_of_vfun (an := A104) mixed Tryz.func104 (by kernel_rfl) (by kernel_rfl) ((e104 x0 w R).mp h)

/-- (*compline/octet.Reader).End -/
def F105 (x0 : Addr) (w : World) (R : Value → World → Prop) : Prop :=
 Calls Tryz.prog 114 #[.pointer (some x0)] w fun e1 w2 => ∃ (i3 : Int), e1 = .returned (.int .i64 (i3)) ∧ vif (decide ((i3 : Int) > 0))
 (R (.int .i64 15) w2)
 (Calls Tryz.prog 111 #[.pointer (some x0)] w2 fun e4 w5 => ∃ (i6 : Int), e4 = .returned (.int .i64 (i6)) ∧ R (.int .i64 (i6)) w5)

def A105 : Ann := .seq (.leaf) (.seq (.seq (.leaf) (.two (.seq (.leaf) (.leaf)) (.leaf))) (.seq (.leaf) (.leaf)))

theorem e105 (x0 : Addr) (w : World) (R : Value → World → Prop) : F105 x0 w R = vfun Tryz.prog Tryz.f105 A105 [.pointer (some x0)] w R := by kernel_rfl
theorem c105 (x0 : Addr) (w : World) {R : Value → World → Prop} (h : F105 x0 w R) : Calls Tryz.prog 105 #[.pointer (some x0)] w fun e w' => ∃ v, e = .returned v ∧ R v w' :=
  calls_of_vfun (an := A105) mixed Tryz.func105 (by kernel_rfl) (by kernel_rfl) ((e105 x0 w R).mp h)

/-- compline/command.Bytes -/
def F108 (x0 : Array Value) (w : World) (R : Value → World → Prop) : Prop :=
 vnew w (.cells x0 157) fun a1 w2 => ∃ (i3 : Int), w2.cell? ((a1.add 2).add 0) = some (.int .i64 (i3)) ∧ Calls Tryz.prog 115 #[.int .i64 (i3)] w2 fun e4 w5 => ∃ (b6 : Bool), e4 = .returned (.bool (b6)) ∧ vif (!b6)
 (R (.tuple #[.slice Option.none 0 0, .int .i64 1]) w5)
 (vnew w5 (.cells #[.slice Option.none 0 0] 119) fun a7 w8 => ∃ (i9 : Int), w8.cell? (a1.add 0) = some (.int .u64 (i9)) ∧ Calls Tryz.prog 84 #[.pointer (some a7), .int .u64 (i9)] w8 fun e10 w11 => e10 = .returned (.tuple #[]) ∧ ∃ (i12 : Int), w11.cell? (a1.add 1) = some (.int .u64 (i12)) ∧ Calls Tryz.prog 84 #[.pointer (some a7), .int .u64 (i12)] w11 fun e13 w14 => e13 = .returned (.tuple #[]) ∧ ∃ (i15 : Int), w14.cell? ((a1.add 2).add 0) = some (.int .i64 (i15)) ∧ Calls Tryz.prog 84 #[.pointer (some a7), .int .u64 (IntKind.u64.wrap i15)] w14 fun e16 w17 => e16 = .returned (.tuple #[]) ∧ Calls Tryz.prog 116 #[.agg #[.pointer (some a7), .pointer Option.none], .pointer (some (a1.add 2))] w17 fun e18 w19 => e18 = .returned (.tuple #[]) ∧ Calls Tryz.prog 85 #[.pointer (some a7)] w19 fun e20 w21 => ∃ (s22 : Option Addr) (s22n s22c : Nat), e20 = .returned (.slice s22 s22n s22c) ∧ vif (decide (((s22n : Nat) : Int) > 900))
 (R (.tuple #[.slice Option.none 0 0, .int .i64 15]) w21)
 (R (.tuple #[.slice s22 s22n s22c, .int .i64 0]) w21))

def A108 : Ann := .seq (.leaf) (.seq (.seq (.leaf) (.two (.seq (.leaf) (.leaf)) (.leaf))) (.seq (.leaf) (.seq (.leaf) (.seq (.leaf) (.seq (.leaf) (.seq (.leaf) (.seq (.leaf) (.seq (.seq (.leaf) (.two (.seq (.leaf) (.leaf)) (.leaf))) (.seq (.leaf) (.leaf))))))))))

theorem e108 (x0 : Array Value) (w : World) (R : Value → World → Prop) : F108 x0 w R = vfun Tryz.prog Tryz.f108 A108 [.agg x0] w R := by kernel_rfl
theorem c108 (x0 : Array Value) (w : World) {R : Value → World → Prop} (h : F108 x0 w R) : Calls Tryz.prog 108 #[.agg x0] w fun e w' => ∃ v, e = .returned v ∧ R v w' :=
  calls_of_vfun (an := A108) mixed Tryz.func108 (by kernel_rfl) (by kernel_rfl) ((e108 x0 w R).mp h)

/-- (*compline/octet.Reader).Count -/
def F110 (x0 : Addr) (x1 : Int) (w : World) (R : Value → World → Prop) : Prop :=
 Calls Tryz.prog 104 #[.pointer (some x0)] w fun e1 w2 => ∃ (i3 : Int), e1 = .returned (.int .u64 (i3)) ∧ vif (decide ((i3 : Int) > (IntKind.u64.wrap (if x1 < 0 then 0 else x1))))
 (Calls Tryz.prog 113 #[.pointer (some x0), .int .i64 15] w2 fun e4 w5 => e4 = .returned (.tuple #[]) ∧ R (.int .i64 0) w5)
 (R (.int .i64 (IntKind.i64.wrap i3)) w2)

def A110 : Ann := .seq (.leaf) (.seq (.leaf) (.seq (.seq (.leaf) (.two (.seq (.leaf) (.seq (.leaf) (.leaf))) (.leaf))) (.seq (.leaf) (.leaf))))

theorem e110 (x0 : Addr) (x1 : Int) (w : World) (R : Value → World → Prop) : F110 x0 x1 w R = vfun Tryz.prog Tryz.f110 A110 [.pointer (some x0), .int .i64 (x1)] w R := by kernel_rfl
theorem c110 (x0 : Addr) (x1 : Int) (w : World) {R : Value → World → Prop} (h : F110 x0 x1 w R) : Calls Tryz.prog 110 #[.pointer (some x0), .int .i64 (x1)] w fun e w' => ∃ v, e = .returned v ∧ R v w' :=
  calls_of_vfun (an := A110) mixed Tryz.func110 (by kernel_rfl) (by kernel_rfl) ((e110 x0 x1 w R).mp h)

/-- (*compline/octet.Reader).Err -/
def F111 (x0 : Addr) (w : World) (R : Value → World → Prop) : Prop :=
 ∃ (i1 : Int), w.cell? (x0.add 1) = some (.int .i64 (i1)) ∧ R (.int .i64 (i1)) w

def A111 : Ann := .seq (.leaf) (.seq (.seq (.leaf) (.two (.seq (.leaf) (.leaf)) (.leaf))) (.seq (.leaf) (.leaf)))

theorem e111 (x0 : Addr) (w : World) (R : Value → World → Prop) : F111 x0 w R = vfun Tryz.prog Tryz.f111 A111 [.pointer (some x0)] w R := by kernel_rfl
theorem c111 (x0 : Addr) (w : World) {R : Value → World → Prop} (h : F111 x0 w R) : Calls Tryz.prog 111 #[.pointer (some x0)] w fun e w' => ∃ v, e = .returned v ∧ R v w' :=
  calls_of_vfun (an := A111) mixed Tryz.func111 (by kernel_rfl) (by kernel_rfl) ((e111 x0 w R).mp h)

/-- (*compline/octet.Reader).one -/
def F112 (x0 : Addr) (w : World) (R : Value → World → Prop) : Prop :=
 ∃ J1 : List Value → World → Prop, (Calls Tryz.prog 111 #[.pointer (some x0)] w fun e2 w3 => ∃ (i4 : Int), e2 = .returned (.int .i64 (i4)) ∧ vif ((i4 : Int) == 0)
 (∃ (s5 : Option Addr) (s5n s5c : Nat), w3.cell? (x0.add 0) = some (.slice s5 s5n s5c) ∧ vif (((s5n : Nat) : Int) == 0)
 (Calls Tryz.prog 113 #[.pointer (some x0), .int .i64 4] w3 fun e6 w7 => e6 = .returned (.tuple #[]) ∧ J1 [] w7)
 (J1 [] w3))
 (J1 [] w3))
 ∧ (∀ w8, J1 [] w8 → Calls Tryz.prog 111 #[.pointer (some x0)] w8 fun e9 w10 => ∃ (i11 : Int), e9 = .returned (.int .i64 (i11)) ∧ vif ((i11 : Int) != 0)
 (R (.int .u8 0) w10)
 (∃ (s12 : Option Addr) (s12n s12c : Nat), w10.cell? (x0.add 0) = some (.slice s12 s12n s12c) ∧ vidx s12 s12n 0 fun a13 => ∃ (i14 : Int), w10.cell? (a13.add ((0 : Int).toNat * 1)) = some (.int .u8 (i14)) ∧ ∃ (s15 : Option Addr) (s15n s15c : Nat), w10.cell? (x0.add 0) = some (.slice s15 s15n s15c) ∧ vslice 1 s15 s15n s15c (some (.int .i64 1)) none none fun s16 s16n s16c => vstore1 w10 (x0.add 0) (.slice s16 s16n s16c) fun w17 => R (.int .u8 (i14)) w17))

def A112 : Ann := .seq (.leaf) (.cut [] (.seq (.leaf) (.two (.leaf) (.leaf))) (.seq (.seq (.leaf) (.two (.seq (.leaf) (.leaf)) (.leaf))) (.seq (.leaf) (.seq (.leaf) (.seq (.leaf) (.leaf))))))

theorem e112 (x0 : Addr) (w : World) (R : Value → World → Prop) : F112 x0 w R = vfun Tryz.prog Tryz.f112 A112 [.pointer (some x0)] w R := by kernel_rfl
theorem c112 (x0 : Addr) (w : World) {R : Value → World → Prop} (h : F112 x0 w R) : Calls Tryz.prog 112 #[.pointer (some x0)] w fun e w' => ∃ v, e = .returned v ∧ R v w' :=
  calls_of_vfun (an := A112) mixed Tryz.func112 (by kernel_rfl) (by kernel_rfl) ((e112 x0 w R).mp h)

/-- (*compline/octet.Reader).fail -/
def F113 (x0 : Addr) (x1 : Int) (w : World) (R : Value → World → Prop) : Prop :=
 Calls Tryz.prog 111 #[.pointer (some x0)] w fun e1 w2 => ∃ (i3 : Int), e1 = .returned (.int .i64 (i3)) ∧ vif ((i3 : Int) == 0)
 (vstore1 w2 (x0.add 1) (.int .i64 (x1)) fun w4 => vstore1 w4 (x0.add 0) (.slice Option.none 0 0) fun w5 => R (.tuple #[]) w5)
 (R (.tuple #[]) w2)

def A113 : Ann := .seq (.leaf) (.two (.leaf) (.leaf))

theorem e113 (x0 : Addr) (x1 : Int) (w : World) (R : Value → World → Prop) : F113 x0 x1 w R = vfun Tryz.prog Tryz.f113 A113 [.pointer (some x0), .int .i64 (x1)] w R := by kernel_rfl
theorem c113 (x0 : Addr) (x1 : Int) (w : World) {R : Value → World → Prop} (h : F113 x0 x1 w R) : Calls Tryz.prog 113 #[.pointer (some x0), .int .i64 (x1)] w fun e w' => ∃ v, e = .returned v ∧ R v w' :=
  calls_of_vfun (an := A113) mixed Tryz.func113 (by kernel_rfl) (by kernel_rfl) ((e113 x0 x1 w R).mp h)

/-- (*compline/octet.Reader).Left -/
def F114 (x0 : Addr) (w : World) (R : Value → World → Prop) : Prop :=
 Calls Tryz.prog 111 #[.pointer (some x0)] w fun e1 w2 => ∃ (i3 : Int), e1 = .returned (.int .i64 (i3)) ∧ vif ((i3 : Int) != 0)
 (R (.int .i64 0) w2)
 (∃ (s4 : Option Addr) (s4n s4c : Nat), w2.cell? (x0.add 0) = some (.slice s4 s4n s4c) ∧ R (.int .i64 ((s4n : Nat))) w2)

def A114 : Ann := .seq (.leaf) (.seq (.seq (.leaf) (.two (.seq (.leaf) (.leaf)) (.leaf))) (.seq (.leaf) (.leaf)))

theorem e114 (x0 : Addr) (w : World) (R : Value → World → Prop) : F114 x0 w R = vfun Tryz.prog Tryz.f114 A114 [.pointer (some x0)] w R := by kernel_rfl
theorem c114 (x0 : Addr) (w : World) {R : Value → World → Prop} (h : F114 x0 w R) : Calls Tryz.prog 114 #[.pointer (some x0)] w fun e w' => ∃ v, e = .returned v ∧ R v w' :=
  calls_of_vfun (an := A114) mixed Tryz.func114 (by kernel_rfl) (by kernel_rfl) ((e114 x0 w R).mp h)

/-- compline/command.known -/
def F115 (x0 : Int) (w : World) (R : Value → World → Prop) : Prop :=
 vif (decide ((x0 : Int) ≥ 0))
 (R (.bool (decide ((x0 : Int) < 10))) w)
 (R (.bool false) w)

def A115 : Ann := .seq (.leaf) (.seq (.leaf) (.leaf))

theorem e115 (x0 : Int) (w : World) (R : Value → World → Prop) : F115 x0 w R = vfun Tryz.prog Tryz.f115 A115 [.int .i64 (x0)] w R := by kernel_rfl
theorem c115 (x0 : Int) (w : World) {R : Value → World → Prop} (h : F115 x0 w R) : Calls Tryz.prog 115 #[.int .i64 (x0)] w fun e w' => ∃ v, e = .returned v ∧ R v w' :=
  calls_of_vfun (an := A115) mixed Tryz.func115 (by kernel_rfl) (by kernel_rfl) ((e115 x0 w R).mp h)

/-- (compline/command.coder).fields -/
def F116 (x0 : Array Value) (x1 : Addr) (w : World) (R : Value → World → Prop) : Prop :=
 vnew w (.cells x0 166) fun a1 w2 => ∃ (i3 : Int), w2.cell? (x1.add 0) = some (.int .i64 (i3)) ∧ vif ((i3 : Int) == 1)
 (∃ (p4 : Option Addr), w2.cell? (a1.add 1) = some (.pointer p4) ∧ vif (!p4.isNone)
 (∃ (p5 : Option Addr), w2.cell? (a1.add 1) = some (.pointer p5) ∧ Calls Tryz.prog 119 #[.pointer p5] w2 fun e6 w7 => ∃ (g8 : Array Value), g8.size = 11 ∧ e6 = .returned (.agg g8) ∧ vstoreN w7 (x1.add 5) 11 g8 fun w9 => R (.tuple #[]) w9)
 (vdraw w2 fun w10 => ∃ (p11 : Option Addr), w10.cell? (a1.add 0) = some (.pointer p11) ∧ vcells 11 w10 (x1.add 5) fun g12 => Calls Tryz.prog 120 #[.pointer p11, .agg g12] w10 fun e13 w14 => e13 = .returned (.tuple #[]) ∧ R (.tuple #[]) w14))
 (vif ((i3 : Int) == 2)
 (vdraw w2 fun w15 => vcells 2 w15 a1 fun g16 => Calls Tryz.prog 121 #[.agg g16, .pointer (some (x1.add 2))] w15 fun e17 w18 => e17 = .returned (.tuple #[]) ∧ R (.tuple #[]) w18)
 (∃ J19 : List Value → World → Prop, (vif ((i3 : Int) == 3)
 (J19 [.bool ((i3 : Int) == 3)] w2)
 (vif ((i3 : Int) == 5)
 (J19 [.bool ((i3 : Int) == 5)] w2)
 (J19 [.bool ((i3 : Int) == 4)] w2)))
 ∧ (∀ (b20 : Bool), ∀ w21, J19 [.bool (b20)] w21 → vif (b20)
 (vdraw w21 fun w22 => vcells 2 w22 a1 fun g23 => Calls Tryz.prog 121 #[.agg g23, .pointer (some (x1.add 1))] w22 fun e24 w25 => e24 = .returned (.tuple #[]) ∧ vdraw w25 fun w26 => vcells 2 w26 a1 fun g27 => Calls Tryz.prog 122 #[.agg g27, .pointer (some (x1.add 3))] w26 fun e28 w29 => e28 = .returned (.tuple #[]) ∧ ∃ (i30 : Int), w29.cell? (x1.add 0) = some (.int .i64 (i30)) ∧ vif ((i30 : Int) == 4)
 (vdraw w29 fun w31 => vcells 2 w31 a1 fun g32 => Calls Tryz.prog 123 #[.agg g32, .pointer (some (x1.add 4))] w31 fun e33 w34 => e33 = .returned (.tuple #[]) ∧ R (.tuple #[]) w34)
 (R (.tuple #[]) w29))
 (∃ J35 : List Value → World → Prop, (vif ((i3 : Int) == 6)
 (J35 [.bool ((i3 : Int) == 6)] w21)
 (vif ((i3 : Int) == 7)
 (J35 [.bool ((i3 : Int) == 7)] w21)
 (J35 [.bool ((i3 : Int) == 8)] w21)))
 ∧ (∀ (b36 : Bool), ∀ w37, J35 [.bool (b36)] w37 → vif (b36)
 (vdraw w37 fun w38 => vcells 2 w38 a1 fun g39 => Calls Tryz.prog 121 #[.agg g39, .pointer (some (x1.add 1))] w38 fun e40 w41 => e40 = .returned (.tuple #[]) ∧ R (.tuple #[]) w41)
 (vif ((i3 : Int) == 9)
 (vdraw w37 fun w42 => vcells 2 w42 a1 fun g43 => Calls Tryz.prog 123 #[.agg g43, .pointer (some (x1.add 4))] w42 fun e44 w45 => e44 = .returned (.tuple #[]) ∧ R (.tuple #[]) w45)
 (R (.tuple #[]) w37)))))))

def A116 : Ann := .seq (.leaf) (.seq (.leaf) (.one (.seq (.leaf) (.two (.seq (.leaf) (.two (.leaf) (.ord (.op 0 (.op 2 (.op 3 (.op 4 (.op 1 (.op 5 (.op 6 .done)))))))))) (.seq (.leaf) (.two (.ord (.op 1 (.op 2 (.op 3 (.op 0 (.op 4 .done)))))) (.cut [(33, .bool)] (.seq (.leaf) (.two (.leaf) (.seq (.leaf) (.two (.leaf) (.leaf))))) (.two (.seq (.ord (.op 1 (.op 2 (.op 3 (.op 0 (.op 4 .done)))))) (.seq (.ord (.op 1 (.op 2 (.op 3 (.op 0 (.op 4 .done)))))) (.seq (.leaf) (.two (.ord (.op 1 (.op 2 (.op 3 (.op 0 (.op 4 .done)))))) (.leaf))))) (.cut [(57, .bool)] (.seq (.leaf) (.two (.leaf) (.seq (.leaf) (.two (.leaf) (.leaf))))) (.two (.ord (.op 1 (.op 2 (.op 3 (.op 0 (.op 4 .done)))))) (.seq (.leaf) (.two (.ord (.op 1 (.op 2 (.op 3 (.op 0 (.op 4 .done)))))) (.leaf)))))))))))))

theorem e116 (x0 : Array Value) (x1 : Addr) (w : World) (R : Value → World → Prop) : F116 x0 x1 w R = vfun Tryz.prog Tryz.f116 A116 [.agg x0, .pointer (some x1)] w R := by kernel_rfl
theorem c116 (x0 : Array Value) (x1 : Addr) (w : World) {R : Value → World → Prop} (h : F116 x0 x1 w R) : Calls Tryz.prog 116 #[.agg x0, .pointer (some x1)] w fun e w' => ∃ v, e = .returned v ∧ R v w' :=
  calls_of_vfun (an := A116) mixed Tryz.func116 (by kernel_rfl) (by kernel_rfl) ((e116 x0 x1 w R).mp h)


end Rx
end Go.Proofs.YtkoipeddfbeliaaGreat

/-
  Members as bytes, and back.
-/
namespace Go.Proofs.YtkoipeddfbeliaaGreat
namespace Rx
open Go.RowKit
set_option maxRecDepth 100000

/-- members that may be -/
def goodM (l : List Nat) : Prop := l ≠ [] ∧ (∀ x ∈ l, 1 ≤ x ∧ x ≤ 7) ∧ l.Pairwise (· < ·)
instance (l : List Nat) : Decidable (goodM l) := by unfold goodM; infer_instance

theorem pairwise_snoc {l : List Nat} {i : Nat} (hi : i < l.length) (h : (l.take i).Pairwise (· < ·)) : (l.take (i + 1)).Pairwise (· < ·) ↔ (0 < i → ∀ y, l[i - 1]? = some y → y < l[i]) := by
  rw [List.take_succ_eq_append_getElem hi, List.pairwise_append]
  constructor
  · rintro ⟨_, _, h3⟩ h0 y hy
    refine h3 y ?_ _ (by simp)
    rw [List.mem_iff_getElem?]
    exact ⟨i - 1, by rw [List.getElem?_take_of_lt (by omega)]; exact hy⟩
  · intro h3
    refine ⟨h, by simp, fun x hx y hy => ?_⟩
    simp at hy; subst hy
    obtain ⟨k, hk, rfl⟩ := List.mem_iff_getElem.1 hx
    simp only [List.length_take] at hk
    rw [List.getElem_take]
    have h4 := h3 (by omega) (l[i - 1]'(by omega)) (by simp [show i - 1 < l.length by omega])
    by_cases hki : k = i - 1
    · subst hki; exact h4
    · have := List.pairwise_iff_getElem.1 h k (i - 1) (by simp; omega) (by simp; omega) (by omega)
      simp only [List.getElem_take] at this
      omega

theorem members81 {w : World} {s : SV} {l : List Nat} (hs : Ints w s l) (hn : s.n ≤ 1000000000) :
    Calls Tryz.prog 81 #[.slice s.p s.n s.c] w fun e w' => e = .returned (.bool (decide (goodM l))) ∧ w' = w := by
  refine ret (R := fun v w' => v = .bool (decide (goodM l)) ∧ w' = w) (c81 s.p s.n s.c w ?_) (fun v w' ⟨h1, h2⟩ => ⟨by rw [h1], h2⟩)
  have hsn := hs.n
  refine ⟨fun vs w' => ∃ i : Nat, vs = [iv i] ∧ w' = w ∧ i ≤ l.length ∧ (∀ x ∈ l.take i, 1 ≤ x ∧ x ≤ 7) ∧ (l.take i).Pairwise (· < ·), fun vs _ => match vs with | [.int _ i] => (s.n - i).toNat | _ => 0, ⟨0, rfl, rfl, Nat.zero_le _, by simp, by simp⟩, ?_⟩
  rintro i3 w4 ⟨i, hi, rfl, hle, hr, hp⟩
  simp only [iv, List.cons.injEq, Value.int.injEq, and_true, true_and] at hi
  subst hi
  refine vif_mk (fun h => ?_) (fun h => ?_)
  · have hlt : i < l.length := by simp at h; omega
    have hmem : l[i] ∈ l := List.getElem_mem hlt
    refine Sl.load hs (i := i) (v := iv l[i]) (by simp [hlt]) fun a ha => ⟨_, ha, vif_mk (fun h1 => ?_) fun h1 => vif_mk (fun h2 => ?_) fun h2 => ?_⟩
    · refine ⟨?_, rfl⟩
      rw [decide_eq_false]
      rintro ⟨_, h3, _⟩
      have := h3 _ hmem
      simp at h1; omega
    · refine ⟨?_, rfl⟩
      rw [decide_eq_false]
      rintro ⟨_, h3, _⟩
      have := h3 _ hmem
      simp at h2; omega
    · have hr' : ∀ x ∈ l.take (i + 1), 1 ≤ x ∧ x ≤ 7 := by
        rw [List.take_succ_eq_append_getElem hlt]
        intro x hx
        simp only [List.mem_append, List.mem_singleton] at hx
        rcases hx with hx | rfl
        · exact hr x hx
        · simp at h1 h2; omega
      have next : (l.take (i + 1)).Pairwise (· < ·) → (∃ j : Nat, [Value.int .i64 (IntKind.i64.wrap ((i : Int) + 1))] = [iv j] ∧ w4 = w4 ∧ j ≤ l.length ∧ (∀ x ∈ l.take j, 1 ≤ x ∧ x ≤ 7) ∧ (l.take j).Pairwise (· < ·)) ∧
          ((s.n : Int) - IntKind.i64.wrap ((i : Int) + 1)).toNat < ((s.n : Int) - i).toNat := by
        intro h5
        rw [wi (by omega) (by omega)]
        exact ⟨⟨i + 1, by simp [iv], rfl, hlt, hr', h5⟩, by omega⟩
      refine vif_mk (fun h3 => ?_) (fun h3 => ?_)
      · have h0 : 0 < i := by simp at h3; omega
        rw [show ((i : Int) - 1) = ((i - 1 : Nat) : Int) by omega, wi (n := ((i - 1 : Nat) : Int)) (by omega) (by omega)]
        refine Sl.load hs (i := i - 1) (v := iv (l[i - 1]'(by omega))) (by simp [show i - 1 < l.length by omega]) fun b hb => ⟨_, hb, vif_mk (fun h4 => ?_) fun h4 => ?_⟩
        · refine ⟨?_, rfl⟩
          rw [decide_eq_false]
          rintro ⟨_, _, h5⟩
          have := List.pairwise_iff_getElem.1 h5 (i - 1) i (by omega) hlt (by omega)
          simp at h4; omega
        · refine next ((pairwise_snoc hlt hp).2 fun _ y hy => ?_)
          rw [List.getElem?_eq_getElem (by omega)] at hy
          simp at hy h4; omega
      · refine next ((pairwise_snoc hlt hp).2 fun h0 => ?_)
        simp at h3; omega
  · simp at h
    rw [List.take_of_length_le (by omega)] at hr hp
    refine ⟨?_, rfl⟩
    congr 1
    rw [decide_eq_decide]
    unfold goodM
    constructor
    · intro h1
      exact ⟨fun h2 => by subst h2; simp at hsn; omega, hr, hp⟩
    · rintro ⟨h1, _⟩
      have := List.length_pos_iff.2 h1
      omega

/-- a writer that is new -/
def Wr (w0 w : World) (b : Nat) (bs : List UInt8) : Prop :=
  Ex w0 w ∧ w0.heap.size ≤ b ∧ ∃ s : SV, Blk w b #[.slice s.p s.n s.c] 119 ∧ Bytes w s bs ∧ ∀ x ∈ s.own, w0.heap.size ≤ x

theorem num84 {w0 w : World} {b : Nat} {bs : List UInt8} (h : Wr w0 w b bs) {x : Nat} (hx : x < 128) (hn : bs.length ≤ 1000000) :
    Calls Tryz.prog 84 #[.pointer (some ⟨b, 0, none⟩), .int .u64 (x : Int)] w fun e w' => e = .returned (.tuple #[]) ∧ Wr w0 w' b (bs ++ [UInt8.ofNat x]) := by
  refine ret (R := fun v w' => v = .tuple #[] ∧ Wr w0 w' b (bs ++ [UInt8.ofNat x])) (c84 _ x w ?_) (fun v w' ⟨h1, h2⟩ => ⟨by rw [h1], h2⟩)
  refine ⟨fun vs w' => vs = [.int .u64 (x : Int)] ∧ w' = w, fun _ _ => 0, ⟨rfl, rfl⟩, ?_⟩
  rintro i3 w4 ⟨hv, rfl⟩
  simp only [List.cons.injEq, Value.int.injEq, and_true, true_and] at hv
  subst hv
  refine vif_f (by simp; omega) ?_
  obtain ⟨h1, h2, s, h3, h4, h5⟩ := h
  refine ⟨s.p, s.n, s.c, by rw [add_mk, h3.cell]; rfl, rfl, ?_⟩
  rw [show IntKind.u8.wrap (x : Int) = x by rw [IntKind.wrap_u8]; omega]
  refine vnew_mk fun w5 e5 s5 b5 => ?_
  have hone : [Value.int .u8 (x : Int)] = byteVals [UInt8.ofNat x] := by
    simp [byteVals]; omega
  have hq : Sl w5 5 1 ⟨some ⟨w4.heap.size, 0, none⟩, 1, 1⟩ (byteVals [UInt8.ofNat x]) := by
    rw [← hone]; exact Sl.of_blk (n := 1) b5 rfl
  refine app5 (s := s) (Sl.ex h4 e5) hq (one_bytes _) (by have := h4.n; simp; omega) fun r w6 hr hrn g => ?_
  have hb5 := e5.blk h3
  have hb6 : Blk w6 b #[.slice s.p s.n s.c] 119 := by
    refine g.fr.blk hb5 fun hh => ?_
    rw [SV.mem_own] at hh
    obtain ⟨a, ha, rfl⟩ := hh
    obtain ⟨_, cs, hcs, _⟩ := (Sl.ex h4 e5).at_ a ha
    exact absurd (hcs.same hb5).2 (by decide)
  have hg := g.ex (h1.trans e5) h5
  rw [add_mk]
  refine vstore1_mk hb6 (by simp) fun w7 p7 => ⟨rfl, hg.1.put p7 h2, h2, r, by simpa using p7.blk, ?_, hg.2⟩
  show Sl w7 5 1 r (byteVals (bs ++ [UInt8.ofNat x]))
  have : byteVals (bs ++ [UInt8.ofNat x]) = byteVals bs ++ byteVals [UInt8.ofNat x] := by simp [byteVals]
  rw [this]
  refine hr.blk fun a cs ha hb => p7.other (fun hh => ?_) hb
  subst hh
  exact absurd (hb.same hb6).2 (by decide)

theorem put83 {w0 w : World} {b : Nat} {bs : List UInt8} (h : Wr w0 w b bs) {x : Nat} (hx : x < 128) (hn : bs.length ≤ 1000000) :
    vcallv Tryz.prog (.func (.func 83) #[] #[]) [.pointer (some ⟨b, 0, none⟩), iv x] w fun e w' => e = .returned (.tuple #[]) ∧ Wr w0 w' b (bs ++ [UInt8.ofNat x]) := by
  refine vcallv_mk (by kernel_rfl) ?_
  refine ret (R := fun v w' => v = .tuple #[] ∧ Wr w0 w' b (bs ++ [UInt8.ofNat x])) (c83 _ x w ?_) (fun v w' ⟨h1, h2⟩ => ⟨by rw [h1], h2⟩)
  rw [F83, wu (by omega) (by omega)]
  refine (num84 h hx hn).mono ?_
  rintro _ w' ⟨rfl, h⟩
  exact ⟨rfl, rfl, h⟩

/-- members as bytes -/
def encM (l : List Nat) : List UInt8 := UInt8.ofNat l.length :: l.map UInt8.ofNat

theorem put82 {w0 w : World} {b : Nat} {s : SV} {l : List Nat} (h : Wr w0 w b []) (hs : Ints w0 s l) (hl : l.length < 128) (hx : ∀ x ∈ l, x < 128) :
    Calls Tryz.prog 82 #[.pointer (some ⟨b, 0, none⟩), .slice s.p s.n s.c, .func (.func 83) #[] #[]] w fun e w' => e = .returned (.tuple #[]) ∧ Wr w0 w' b (encM l) := by
  refine ret (R := fun v w' => v = .tuple #[] ∧ Wr w0 w' b (encM l)) (c82 _ s.p s.n s.c _ w ?_) (fun v w' ⟨h1, h2⟩ => ⟨by rw [h1], h2⟩)
  have hsn := hs.n
  rw [F82, wu (by omega) (by omega)]
  refine (num84 h (x := s.n) (by omega) (by simp)).mono ?_
  rintro _ w1 ⟨rfl, h1⟩
  refine ⟨rfl, fun vs w' => ∃ i : Nat, vs = [iv i] ∧ i ≤ l.length ∧ Wr w0 w' b (UInt8.ofNat s.n :: (l.take i).map UInt8.ofNat), fun vs _ => match vs with | [.int _ i] => (l.length - i).toNat | _ => 0, ⟨0, rfl, Nat.zero_le _, by simpa using h1⟩, ?_⟩
  rintro i3 w4 ⟨i, hi, hle, hw⟩
  simp only [iv, List.cons.injEq, Value.int.injEq, and_true, true_and] at hi
  subst hi
  refine vif_mk (fun h => ?_) (fun h => ?_)
  · have hlt : i < l.length := by simp at h; omega
    refine Sl.load (Sl.ex hs hw.1) (i := i) (v := iv l[i]) (by simp [hlt]) fun a ha => ⟨_, ha, vcallv_mono ?_ (put83 hw (hx _ (List.getElem_mem hlt)) (by simp; omega))⟩
    rintro _ w5 ⟨rfl, h5⟩
    rw [wi (by omega) (by omega)]
    refine ⟨rfl, ⟨i + 1, by simp [iv], hlt, ?_⟩, by simp only; omega⟩
    rw [List.take_succ_eq_append_getElem hlt, List.map_append]
    exact h5
  · simp at h
    rw [List.take_of_length_le (by omega), hsn] at hw
    exact ⟨rfl, hw⟩

theorem bytes85 {w0 w : World} {b : Nat} {bs : List UInt8} (h : Wr w0 w b bs) (hn : bs.length ≤ 1000000) :
    Calls Tryz.prog 85 #[.pointer (some ⟨b, 0, none⟩)] w fun e w' => ∃ r : SV, e = .returned (.slice r.p r.n r.c) ∧ Ex w0 w' ∧ Bytes w' r bs ∧ ∀ x ∈ r.own, w0.heap.size ≤ x := by
  refine ret (R := fun v w' => ∃ r : SV, v = .slice r.p r.n r.c ∧ Ex w0 w' ∧ Bytes w' r bs ∧ ∀ x ∈ r.own, w0.heap.size ≤ x) (c85 _ w ?_) (fun v w' ⟨r, h1, h2⟩ => ⟨r, by rw [h1], h2⟩)
  obtain ⟨h1, h2, s, h3, h4, h5⟩ := h
  refine ⟨s.p, s.n, s.c, by rw [add_mk, h3.cell]; rfl, ?_⟩
  refine (clone56 h4 (one_bytes _) (by have := h4.n; omega)).mono ?_
  rintro _ w' ⟨r, rfl, e, hr, ho⟩
  exact ⟨_, _, _, rfl, r, rfl, h1.trans e, hr, fun x hx => Nat.le_trans h1.size (ho x hx)⟩

theorem wr_new {w0 w : World} (h : Ex w0 w) {K : Addr → World → Prop} (hK : ∀ b w', Wr w0 w' b [] → K ⟨b, 0, none⟩ w') : vnew w (.cells #[.slice Option.none 0 0] 119) K :=
  vnew_mk fun w' e hs hb => hK _ _ ⟨h.trans e, h.size, .nil, hb, Sl.zero _ _ _, by simp [SV.own, SV.nil]⟩

theorem members53 {w : World} {s : SV} {l : List Nat} (hs : Ints w s l) (hn : s.n ≤ 1000000000) :
    Calls Tryz.prog 53 #[.slice s.p s.n s.c] w fun e w' => Ex w w' ∧ ∃ r : SV, Bytes w' r (if goodM l then encM l else []) ∧ (∀ x ∈ r.own, w.heap.size ≤ x) ∧ e = .returned (.tuple #[.slice r.p r.n r.c, .int .i64 (if goodM l then 0 else 1)]) := by
  refine ret (R := fun v w' => Ex w w' ∧ ∃ r : SV, Bytes w' r (if goodM l then encM l else []) ∧ (∀ x ∈ r.own, w.heap.size ≤ x) ∧ v = .tuple #[.slice r.p r.n r.c, .int .i64 (if goodM l then 0 else 1)])
    (c53 s.p s.n s.c w ?_) (fun v w' ⟨h0, r, h1, h2, h3⟩ => ⟨h0, r, h1, h2, by rw [h3]⟩)
  refine (members81 hs hn).mono ?_
  rintro _ w1 ⟨rfl, rfl⟩
  refine ⟨_, rfl, vif_mk (fun h => ?_) fun h => ?_⟩
  · simp at h
    rw [if_neg h, if_neg h]
    exact ⟨Ex.refl _, .nil, Sl.zero _ _ _, by simp [SV.own, SV.nil], rfl⟩
  · simp at h
    rw [if_pos h, if_pos h]
    have hl : l.length < 128 := by
      rcases Nat.lt_or_ge l.length 128 with hh | hh
      · exact hh
      · exfalso
        have hm : ∀ k (hk : k < l.length), k + 1 ≤ l[k] := by
          intro k
          induction k with
          | zero => intro hk; exact (h.2.1 _ (List.getElem_mem hk)).1
          | succ k ih =>
            intro hk
            have := ih (by omega)
            have := List.pairwise_iff_getElem.1 h.2.2 k (k + 1) (by omega) hk (by omega)
            omega
        have := hm 100 (by omega)
        have := h.2.1 _ (List.getElem_mem (show 100 < l.length by omega))
        omega
    refine wr_new (Ex.refl _) fun b w' hw => ?_
    refine (put82 hw hs hl fun x hx => by have := h.2.1 x hx; omega).mono ?_
    rintro _ w2 ⟨rfl, hw2⟩
    refine ⟨rfl, (bytes85 hw2 (by simp [encM]; omega)).mono ?_⟩
    rintro _ w3 ⟨r, rfl, h1, h2, h3⟩
    exact ⟨_, _, _, rfl, h1, r, h2, h3, rfl⟩

theorem right46 {w : World} {s : SV} {l : List Nat} (hs : Ints w s l) (hn : s.n ≤ 1000000000) :
    Calls Tryz.prog 46 #[.slice s.p s.n s.c] w fun e w' => e = .returned (.bool (decide (goodM l))) ∧ Ex w w' := by
  refine ret (R := fun v w' => v = .bool (decide (goodM l)) ∧ Ex w w') (c46 s.p s.n s.c w ?_) (fun v w' ⟨h1, h2⟩ => ⟨by rw [h1], h2⟩)
  refine (members53 hs hn).mono ?_
  rintro _ w1 ⟨h1, r, h2, h3, rfl⟩
  refine ⟨_, _, _, _, rfl, ?_, h1⟩
  by_cases hg : goodM l <;> simp [hg]

end Rx
end Go.Proofs.YtkoipeddfbeliaaGreat

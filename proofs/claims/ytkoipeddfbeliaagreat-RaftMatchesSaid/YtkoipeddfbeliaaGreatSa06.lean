import Derived.Test.YtkoipeddfbeliaaGreatSa03
import Derived.Test.YtkoipeddfbeliaaGreatSa05
import Derived.Test.YtkoipeddfbeliaaGreatSa01
/-
  PRINTED BY wip/gen.py: what the functions ask and do, one by one.
-/
namespace Go.Proofs.YtkoipeddfbeliaaGreat
namespace Rx
open Go.RowKit
set_option maxRecDepth 100000
set_option linter.unusedVariables false

/-- (*compline/raft.Node).right -/
def F34 (x0 : Addr) (x1 : Array Value) (w : World) (R : Value → World → Prop) : Prop :=
 vnew w (.cells x1 54) fun a1 w2 => ∃ J3 : List Value → World → Prop, (vdraw w2 fun w4 => ∃ (i5 : Int), w4.cell? (a1.add 2) = some (.int .i64 (i5)) ∧ ∃ (i6 : Int), w4.cell? ((x0.add 0).add 0) = some (.int .i64 (i6)) ∧ vif ((i5 : Int) != i6)
 (R (.bool false) w4)
 (∃ (i7 : Int), w4.cell? (a1.add 1) = some (.int .i64 (i7)) ∧ ∃ (i8 : Int), w4.cell? ((x0.add 0).add 0) = some (.int .i64 (i8)) ∧ vif ((i7 : Int) == i8)
 (R (.bool false) w4)
 (∃ (i9 : Int), w4.cell? (a1.add 1) = some (.int .i64 (i9)) ∧ Calls Tryz.prog 45 #[.int .i64 (i9)] w4 fun e10 w11 => ∃ (b12 : Bool), e10 = .returned (.bool (b12)) ∧ vif (!b12)
 (R (.bool false) w11)
 (∃ (i13 : Int), w11.cell? (a1.add 0) = some (.int .i64 (i13)) ∧ vif (decide ((i13 : Int) < 0))
 (R (.bool false) w11)
 (∃ (i14 : Int), w11.cell? (a1.add 0) = some (.int .i64 (i14)) ∧ vif (decide ((i14 : Int) ≥ 8))
 (R (.bool false) w11)
 (∃ (i15 : Int), w11.cell? (a1.add 3) = some (.int .u64 (i15)) ∧ vif (decide ((i15 : Int) > 4611686018427387904))
 (R (.bool false) w11)
 (J3 [] w11)))))))
 ∧ (∀ w16, J3 [] w16 → ∃ J17 : List Value → World → Prop, (∃ (i18 : Int), w16.cell? (a1.add 0) = some (.int .i64 (i18)) ∧ vif ((i18 : Int) != 4)
 (∃ (i19 : Int), w16.cell? (a1.add 0) = some (.int .i64 (i19)) ∧ vif ((i19 : Int) != 6)
 (R (.bool true) w16)
 (J17 [] w16))
 (J17 [] w16))
 ∧ (∀ w20, J17 [] w20 → ∃ (s21 : Option Addr) (s21n s21c : Nat), w20.cell? (a1.add 8) = some (.slice s21 s21n s21c) ∧ Calls Tryz.prog 63 #[.slice s21 s21n s21c, .func (.func 64) #[] #[.pointer (some a1)]] w20 fun e22 w23 => ∃ (b24 : Bool), e22 = .returned (.bool (b24)) ∧ vif (!b24)
 (∃ (i25 : Int), w23.cell? (a1.add 5) = some (.int .u64 (i25)) ∧ ∃ (i26 : Int), w23.cell? (a1.add 3) = some (.int .u64 (i26)) ∧ vif (decide ((i25 : Int) ≤ i26))
 (∃ (i27 : Int), w23.cell? (a1.add 0) = some (.int .i64 (i27)) ∧ vif ((i27 : Int) == 4)
 (R (.bool true) w23)
 (∃ (i28 : Int), w23.cell? (a1.add 4) = some (.int .u64 (i28)) ∧ vif (decide ((i28 : Int) ≤ 4611686018427387904))
 (∃ (s29 : Option Addr) (s29n s29c : Nat), w23.cell? (a1.add 9) = some (.slice s29 s29n s29c) ∧ Calls Tryz.prog 46 #[.slice s29 s29n s29c] w23 fun e30 w31 => ∃ (b32 : Bool), e30 = .returned (.bool (b32)) ∧ R (.bool (b32)) w31)
 (R (.bool false) w23)))
 (R (.bool false) w23))
 (R (.bool false) w23)))

def A34 : Ann := .seq (.leaf) (.cut [] (.seq (.ord (.op 0 (.op 2 (.op 3 (.op 4 (.op 5 (.op 1 (.op 6 (.op 7 (.op 8 (.op 9 (.op 11 (.op 12 (.op 13 (.op 14 (.op 10 (.op 15 (.op 16 (.op 17 (.op 18 (.op 19 (.op 20 (.op 21 (.op 22 (.op 23 (.op 24 (.op 25 (.op 26 (.op 27 (.op 28 (.op 29 (.op 30 (.op 31 (.op 32 (.op 33 (.op 34 (.op 35 (.op 36 (.op 37 (.op 38 .done)))))))))))))))))))))))))))))))))))))))) (.two (.seq (.leaf) (.leaf)) (.leaf))) (.cut [] (.seq (.leaf) (.two (.seq (.leaf) (.leaf)) (.leaf))) (.seq (.leaf) (.seq (.leaf) (.leaf)))))

theorem e34 (x0 : Addr) (x1 : Array Value) (w : World) (R : Value → World → Prop) : F34 x0 x1 w R = vfun Tryz.prog Tryz.f34 A34 [.pointer (some x0), .agg x1] w R := by kernel_rfl
theorem c34 (x0 : Addr) (x1 : Array Value) (w : World) {R : Value → World → Prop} (h : F34 x0 x1 w R) : Calls Tryz.prog 34 #[.pointer (some x0), .agg x1] w fun e w' => ∃ v, e = .returned v ∧ R v w' :=
  calls_of_vfun (an := A34) mixed Tryz.func34 (by kernel_rfl) (by kernel_rfl) ((e34 x0 x1 w R).mp h)

/-- (*compline/raft.Node).askPre -/
def F35 (x0 : Addr) (x1 : Array Value) (w : World) (R : Value → World → Prop) : Prop :=
 vnew w (.cells x1 54) fun a1 w2 => ∃ J3 : List Value → World → Prop, (vdraw w2 fun w4 => ∃ (i5 : Int), w4.cell? (a1.add 3) = some (.int .u64 (i5)) ∧ ∃ (i6 : Int), w4.cell? (x0.add 4) = some (.int .u64 (i6)) ∧ vif (decide ((i5 : Int) > i6))
 (vcells 11 w4 a1 fun g7 => Calls Tryz.prog 65 #[.pointer (some x0), .agg g7] w4 fun e8 w9 => ∃ (b10 : Bool), e8 = .returned (.bool (b10)) ∧ vif (b10)
 (∃ (i11 : Int), w9.cell? (x0.add 6) = some (.int .i64 (i11)) ∧ vif ((i11 : Int) != 3)
 (∃ (i12 : Int), w9.cell? (x0.add 7) = some (.int .i64 (i12)) ∧ vif ((i12 : Int) == 0)
 (J3 [.bool true] w9)
 (∃ (i13 : Int), w9.cell? (x0.add 8) = some (.int .i64 (i13)) ∧ ∃ (i14 : Int), w9.cell? ((x0.add 0).add 2) = some (.int .i64 (i14)) ∧ J3 [.bool (decide ((i13 : Int) ≥ i14))] w9))
 (J3 [.bool false] w9))
 (J3 [.bool false] w9))
 (J3 [.bool false] w4))
 ∧ (∀ (b15 : Bool), ∀ w16, J3 [.bool (b15)] w16 → ∃ (i17 : Int), w16.cell? (x0.add 4) = some (.int .u64 (i17)) ∧ vif (b15)
 (∃ (i18 : Int), w16.cell? (a1.add 3) = some (.int .u64 (i18)) ∧ ∃ (i19 : Int), w16.cell? (a1.add 1) = some (.int .i64 (i19)) ∧ Calls Tryz.prog 66 #[.pointer (some x0), .agg #[.int .i64 1, .int .i64 0, .int .i64 (i19), .int .u64 (i18), .int .u64 0, .int .u64 0, .int .u64 0, .bool (b15), .slice Option.none 0 0, .slice Option.none 0 0, .slice Option.none 0 0]] w16 fun e20 w21 => e20 = .returned (.tuple #[]) ∧ R (.tuple #[]) w21)
 (∃ (i22 : Int), w16.cell? (a1.add 1) = some (.int .i64 (i22)) ∧ Calls Tryz.prog 66 #[.pointer (some x0), .agg #[.int .i64 1, .int .i64 0, .int .i64 (i22), .int .u64 (i17), .int .u64 0, .int .u64 0, .int .u64 0, .bool (b15), .slice Option.none 0 0, .slice Option.none 0 0, .slice Option.none 0 0]] w16 fun e23 w24 => e23 = .returned (.tuple #[]) ∧ R (.tuple #[]) w24))

def A35 : Ann := .seq (.leaf) (.cut [(4, .bool)] (.ord (.op 0 (.op 2 (.op 3 (.op 4 (.op 1 (.op 5 (.op 6 (.op 7 (.op 8 (.op 9 (.op 10 (.op 11 (.op 12 (.op 13 (.op 14 (.op 15 (.op 16 (.op 17 (.op 18 (.op 19 (.op 20 (.op 21 (.op 22 (.op 23 (.op 24 (.op 25 (.op 26 (.op 27 (.op 28 (.op 30 (.op 31 (.op 32 (.op 33 (.op 29 (.op 34 (.op 35 (.op 36 (.op 37 (.op 38 .done)))))))))))))))))))))))))))))))))))))))) (.seq (.leaf) (.seq (.seq (.leaf) (.two (.leaf) (.leaf))) (.leaf))))

theorem e35 (x0 : Addr) (x1 : Array Value) (w : World) (R : Value → World → Prop) : F35 x0 x1 w R = vfun Tryz.prog Tryz.f35 A35 [.pointer (some x0), .agg x1] w R := by kernel_rfl
theorem c35 (x0 : Addr) (x1 : Array Value) (w : World) {R : Value → World → Prop} (h : F35 x0 x1 w R) : Calls Tryz.prog 35 #[.pointer (some x0), .agg x1] w fun e w' => ∃ v, e = .returned v ∧ R v w' :=
  calls_of_vfun (an := A35) mixed Tryz.func35 (by kernel_rfl) (by kernel_rfl) ((e35 x0 x1 w R).mp h)

/-- (*compline/raft.Node).tellPre -/
def F36 (x0 : Addr) (x1 : Array Value) (w : World) (R : Value → World → Prop) : Prop :=
 vnew w (.cells x1 54) fun a1 w2 => ∃ J3 : List Value → World → Prop, (∃ J4 : List Value → World → Prop, (vdraw w2 fun w5 => ∃ (b6 : Bool), w5.cell? (a1.add 7) = some (.bool (b6)) ∧ vif (!b6)
 (∃ (i7 : Int), w5.cell? (a1.add 3) = some (.int .u64 (i7)) ∧ ∃ (i8 : Int), w5.cell? (x0.add 4) = some (.int .u64 (i8)) ∧ J4 [.bool (decide ((i7 : Int) > i8))] w5)
 (J4 [.bool false] w5))
 ∧ (∀ (b9 : Bool), ∀ w10, J4 [.bool (b9)] w10 → vif (b9)
 (∃ (i11 : Int), w10.cell? (a1.add 3) = some (.int .u64 (i11)) ∧ Calls Tryz.prog 37 #[.pointer (some x0), .int .u64 (i11), .int .i64 0] w10 fun e12 w13 => e12 = .returned (.tuple #[]) ∧ R (.tuple #[]) w13)
 (vdraw w10 fun w14 => ∃ (i15 : Int), w14.cell? (x0.add 6) = some (.int .i64 (i15)) ∧ vif ((i15 : Int) != 1)
 (R (.tuple #[]) w14)
 (∃ (b16 : Bool), w14.cell? (a1.add 7) = some (.bool (b16)) ∧ vif (b16)
 (∃ (i17 : Int), w14.cell? (a1.add 3) = some (.int .u64 (i17)) ∧ ∃ (i18 : Int), w14.cell? (x0.add 4) = some (.int .u64 (i18)) ∧ vif ((i17 : Int) != (IntKind.u64.wrap (i18 + 1)))
 (R (.tuple #[]) w14)
 (J3 [] w14))
 (J3 [] w14)))))
 ∧ (∀ w19, J3 [] w19 → vdraw w19 fun w20 => ∃ (p21 : Option Addr), w20.cell? (x0.add 15) = some (.pointer p21) ∧ ∃ (i22 : Int), w20.cell? (a1.add 1) = some (.int .i64 (i22)) ∧ ∃ (b23 : Bool), w20.cell? (a1.add 7) = some (.bool (b23)) ∧ Calls Tryz.prog 67 #[.pointer p21, .int .i64 (i22), .bool (b23)] w20 fun e24 w25 => ∃ (b26 : Bool), e24 = .returned (.bool (b26)) ∧ ∃ (p27 : Option Addr), w25.cell? (x0.add 15) = some (.pointer p27) ∧ Calls Tryz.prog 68 #[.pointer p27] w25 fun e28 w29 => ∃ (i30 : Int), e28 = .returned (.int .i64 (i30)) ∧ vif ((i30 : Int) == 1)
 (Calls Tryz.prog 61 #[.pointer (some x0)] w29 fun e31 w32 => e31 = .returned (.tuple #[]) ∧ R (.tuple #[]) w32)
 (vif ((i30 : Int) == 2)
 (∃ (i33 : Int), w29.cell? (x0.add 4) = some (.int .u64 (i33)) ∧ Calls Tryz.prog 37 #[.pointer (some x0), .int .u64 (i33), .int .i64 0] w29 fun e34 w35 => e34 = .returned (.tuple #[]) ∧ R (.tuple #[]) w35)
 (R (.tuple #[]) w29)))

def A36 : Ann := .seq (.leaf) (.cut [] (.one (.cut [(4, .bool)] (.ord (.op 0 (.op 1 (.op 2 (.op 3 (.op 4 (.op 6 (.op 7 (.op 8 (.op 5 (.op 9 (.op 10 (.op 11 (.op 12 .done)))))))))))))) (.two (.seq (.leaf) (.leaf)) (.seq (.ord (.op 0 (.op 1 (.op 2 (.op 3 (.op 4 (.op 5 (.op 6 (.op 7 (.op 8 (.op 9 (.op 11 (.op 12 (.op 13 (.op 10 (.op 14 (.op 15 (.op 16 (.op 17 (.op 18 (.op 19 .done))))))))))))))))))))) (.two (.leaf) (.leaf)))))) (.seq (.ord (.op 0 (.op 1 (.op 2 (.op 4 (.op 6 (.op 3 (.op 5 (.op 7 (.op 8 .done)))))))))) (.seq (.leaf) (.one (.seq (.leaf) (.two (.leaf) (.seq (.leaf) (.two (.leaf) (.leaf)))))))))

theorem e36 (x0 : Addr) (x1 : Array Value) (w : World) (R : Value → World → Prop) : F36 x0 x1 w R = vfun Tryz.prog Tryz.f36 A36 [.pointer (some x0), .agg x1] w R := by kernel_rfl
theorem c36 (x0 : Addr) (x1 : Array Value) (w : World) {R : Value → World → Prop} (h : F36 x0 x1 w R) : Calls Tryz.prog 36 #[.pointer (some x0), .agg x1] w fun e w' => ∃ v, e = .returned v ∧ R v w' :=
  calls_of_vfun (an := A36) mixed Tryz.func36 (by kernel_rfl) (by kernel_rfl) ((e36 x0 x1 w R).mp h)

/-- (*compline/raft.Node).follow -/
def F37 (x0 : Addr) (x1 : Int) (x2 : Int) (w : World) (R : Value → World → Prop) : Prop :=
 ∃ (i1 : Int), w.cell? (x0.add 4) = some (.int .u64 (i1)) ∧ vif (decide ((x1 : Int) > i1))
 (vstore1 w (x0.add 4) (.int .u64 (x1)) fun w2 => vstore1 w2 (x0.add 5) (.int .i64 0) fun w3 => vstore1 w3 (x0.add 18) (.bool true) fun w4 => vstore1 w4 (x0.add 6) (.int .i64 0) fun w5 => vstore1 w5 (x0.add 7) (.int .i64 (x2)) fun w6 => vstore1 w6 (x0.add 15) (.pointer Option.none) fun w7 => vstore1 w7 (x0.add 16) (.pointer Option.none) fun w8 => R (.tuple #[]) w8)
 (vstore1 w (x0.add 6) (.int .i64 0) fun w9 => vstore1 w9 (x0.add 7) (.int .i64 (x2)) fun w10 => vstore1 w10 (x0.add 15) (.pointer Option.none) fun w11 => vstore1 w11 (x0.add 16) (.pointer Option.none) fun w12 => R (.tuple #[]) w12)

def A37 : Ann := .seq (.seq (.leaf) (.two (.leaf) (.leaf))) (.leaf)

theorem e37 (x0 : Addr) (x1 : Int) (x2 : Int) (w : World) (R : Value → World → Prop) : F37 x0 x1 x2 w R = vfun Tryz.prog Tryz.f37 A37 [.pointer (some x0), .int .u64 (x1), .int .i64 (x2)] w R := by kernel_rfl
theorem c37 (x0 : Addr) (x1 : Int) (x2 : Int) (w : World) {R : Value → World → Prop} (h : F37 x0 x1 x2 w R) : Calls Tryz.prog 37 #[.pointer (some x0), .int .u64 (x1), .int .i64 (x2)] w fun e w' => ∃ v, e = .returned v ∧ R v w' :=
  calls_of_vfun (an := A37) mixed Tryz.func37 (by kernel_rfl) (by kernel_rfl) ((e37 x0 x1 x2 w R).mp h)

/-- (*compline/raft.Node).tell -/
def F38 (x0 : Addr) (x1 : Int) (x2 : Array Value) (x3 : Bool) (x4 : Int) (w : World) (R : Value → World → Prop) : Prop :=
 vnew w (.cells x2 54) fun a1 w2 => vdraw w2 fun w3 => ∃ (i4 : Int), w3.cell? (a1.add 1) = some (.int .i64 (i4)) ∧ ∃ (i5 : Int), w3.cell? (x0.add 4) = some (.int .u64 (i5)) ∧ Calls Tryz.prog 66 #[.pointer (some x0), .agg #[.int .i64 (x1), .int .i64 0, .int .i64 (i4), .int .u64 (i5), .int .u64 (x4), .int .u64 0, .int .u64 0, .bool (x3), .slice Option.none 0 0, .slice Option.none 0 0, .slice Option.none 0 0]] w3 fun e6 w7 => e6 = .returned (.tuple #[]) ∧ R (.tuple #[]) w7

def A38 : Ann := .seq (.leaf) (.ord (.op 0 (.op 1 (.op 2 (.op 4 (.op 5 (.op 6 (.op 8 (.op 9 (.op 3 (.op 7 (.op 10 (.op 11 .done)))))))))))))

theorem e38 (x0 : Addr) (x1 : Int) (x2 : Array Value) (x3 : Bool) (x4 : Int) (w : World) (R : Value → World → Prop) : F38 x0 x1 x2 x3 x4 w R = vfun Tryz.prog Tryz.f38 A38 [.pointer (some x0), .int .i64 (x1), .agg x2, .bool (x3), .int .u64 (x4)] w R := by kernel_rfl
theorem c38 (x0 : Addr) (x1 : Int) (x2 : Array Value) (x3 : Bool) (x4 : Int) (w : World) {R : Value → World → Prop} (h : F38 x0 x1 x2 x3 x4 w R) : Calls Tryz.prog 38 #[.pointer (some x0), .int .i64 (x1), .agg x2, .bool (x3), .int .u64 (x4)] w fun e w' => ∃ v, e = .returned v ∧ R v w' :=
  calls_of_vfun (an := A38) mixed Tryz.func38 (by kernel_rfl) (by kernel_rfl) ((e38 x0 x1 x2 x3 x4 w R).mp h)

/-- (*compline/raft.Node).askVote -/
def F39 (x0 : Addr) (x1 : Array Value) (w : World) (R : Value → World → Prop) : Prop :=
 vnew w (.cells x1 54) fun a1 w2 => ∃ J3 : List Value → World → Prop, (vdraw w2 fun w4 => ∃ (i5 : Int), w4.cell? (x0.add 5) = some (.int .i64 (i5)) ∧ vif ((i5 : Int) == 0)
 (∃ (i6 : Int), w4.cell? (x0.add 6) = some (.int .i64 (i6)) ∧ vif ((i6 : Int) != 3)
 (vcells 11 w4 a1 fun g7 => Calls Tryz.prog 65 #[.pointer (some x0), .agg g7] w4 fun e8 w9 => ∃ (b10 : Bool), e8 = .returned (.bool (b10)) ∧ J3 [.bool (b10)] w9)
 (J3 [.bool false] w4))
 (∃ (i11 : Int), w4.cell? (x0.add 5) = some (.int .i64 (i11)) ∧ ∃ (i12 : Int), w4.cell? (a1.add 1) = some (.int .i64 (i12)) ∧ vif ((i11 : Int) == i12)
 (∃ (i13 : Int), w4.cell? (x0.add 6) = some (.int .i64 (i13)) ∧ vif ((i13 : Int) != 3)
 (vcells 11 w4 a1 fun g14 => Calls Tryz.prog 65 #[.pointer (some x0), .agg g14] w4 fun e15 w16 => ∃ (b17 : Bool), e15 = .returned (.bool (b17)) ∧ J3 [.bool (b17)] w16)
 (J3 [.bool false] w4))
 (J3 [.bool false] w4)))
 ∧ (∀ (b18 : Bool), ∀ w19, J3 [.bool (b18)] w19 → vif (b18)
 (vdraw w19 fun w20 => ∃ (b21 : Bool), w20.cell? (x0.add 18) = some (.bool (b21)) ∧ vif (b21)
 (vstore1 w20 (x0.add 18) (.bool true) fun w22 => ∃ (i23 : Int), w22.cell? (a1.add 1) = some (.int .i64 (i23)) ∧ vstore1 w22 (x0.add 5) (.int .i64 (i23)) fun w24 => vstore1 w24 (x0.add 8) (.int .i64 0) fun w25 => vdraw w25 fun w26 => ∃ (i27 : Int), w26.cell? (a1.add 1) = some (.int .i64 (i27)) ∧ ∃ (i28 : Int), w26.cell? (x0.add 4) = some (.int .u64 (i28)) ∧ Calls Tryz.prog 66 #[.pointer (some x0), .agg #[.int .i64 3, .int .i64 0, .int .i64 (i27), .int .u64 (i28), .int .u64 0, .int .u64 0, .int .u64 0, .bool (b18), .slice Option.none 0 0, .slice Option.none 0 0, .slice Option.none 0 0]] w26 fun e29 w30 => e29 = .returned (.tuple #[]) ∧ R (.tuple #[]) w30)
 (∃ (i31 : Int), w20.cell? (x0.add 5) = some (.int .i64 (i31)) ∧ ∃ (i32 : Int), w20.cell? (a1.add 1) = some (.int .i64 (i32)) ∧ vstore1 w20 (x0.add 18) (.bool ((i31 : Int) != i32)) fun w33 => ∃ (i34 : Int), w33.cell? (a1.add 1) = some (.int .i64 (i34)) ∧ vstore1 w33 (x0.add 5) (.int .i64 (i34)) fun w35 => vstore1 w35 (x0.add 8) (.int .i64 0) fun w36 => vdraw w36 fun w37 => ∃ (i38 : Int), w37.cell? (a1.add 1) = some (.int .i64 (i38)) ∧ ∃ (i39 : Int), w37.cell? (x0.add 4) = some (.int .u64 (i39)) ∧ Calls Tryz.prog 66 #[.pointer (some x0), .agg #[.int .i64 3, .int .i64 0, .int .i64 (i38), .int .u64 (i39), .int .u64 0, .int .u64 0, .int .u64 0, .bool (b18), .slice Option.none 0 0, .slice Option.none 0 0, .slice Option.none 0 0]] w37 fun e40 w41 => e40 = .returned (.tuple #[]) ∧ R (.tuple #[]) w41))
 (vdraw w19 fun w42 => ∃ (i43 : Int), w42.cell? (a1.add 1) = some (.int .i64 (i43)) ∧ ∃ (i44 : Int), w42.cell? (x0.add 4) = some (.int .u64 (i44)) ∧ Calls Tryz.prog 66 #[.pointer (some x0), .agg #[.int .i64 3, .int .i64 0, .int .i64 (i43), .int .u64 (i44), .int .u64 0, .int .u64 0, .int .u64 0, .bool (b18), .slice Option.none 0 0, .slice Option.none 0 0, .slice Option.none 0 0]] w42 fun e45 w46 => e45 = .returned (.tuple #[]) ∧ R (.tuple #[]) w46))

def A39 : Ann := .seq (.leaf) (.cut [(4, .bool)] (.ord (.op 0 (.op 1 (.op 2 (.op 3 (.op 4 (.op 5 (.op 6 (.op 7 (.op 8 (.op 10 (.op 9 (.op 11 (.op 12 (.op 13 (.op 14 (.op 15 (.op 16 (.op 17 (.op 18 (.op 19 (.op 20 (.op 21 (.op 22 (.op 23 (.op 24 (.op 25 (.op 26 .done)))))))))))))))))))))))))))) (.seq (.seq (.leaf) (.two (.seq (.ord (.op 0 (.op 1 (.op 2 (.op 3 (.op 4 (.op 5 (.op 6 (.op 7 (.op 8 (.op 10 (.op 9 (.op 11 (.op 12 (.op 13 (.op 14 (.op 15 (.op 16 .done)))))))))))))))))) (.leaf)) (.leaf))) (.ord (.op 0 (.op 1 (.op 3 (.op 4 (.op 5 (.op 7 (.op 2 (.op 6 (.op 8 (.op 9 .done)))))))))))))

theorem e39 (x0 : Addr) (x1 : Array Value) (w : World) (R : Value → World → Prop) : F39 x0 x1 w R = vfun Tryz.prog Tryz.f39 A39 [.pointer (some x0), .agg x1] w R := by kernel_rfl
theorem c39 (x0 : Addr) (x1 : Array Value) (w : World) {R : Value → World → Prop} (h : F39 x0 x1 w R) : Calls Tryz.prog 39 #[.pointer (some x0), .agg x1] w fun e w' => ∃ v, e = .returned v ∧ R v w' :=
  calls_of_vfun (an := A39) mixed Tryz.func39 (by kernel_rfl) (by kernel_rfl) ((e39 x0 x1 w R).mp h)

/-- (*compline/raft.Node).tellVote -/
def F40 (x0 : Addr) (x1 : Array Value) (w : World) (R : Value → World → Prop) : Prop :=
 vnew w (.cells x1 54) fun a1 w2 => ∃ (i3 : Int), w2.cell? (x0.add 6) = some (.int .i64 (i3)) ∧ vif ((i3 : Int) != 2)
 (R (.tuple #[]) w2)
 (vdraw w2 fun w4 => ∃ (p5 : Option Addr), w4.cell? (x0.add 15) = some (.pointer p5) ∧ ∃ (i6 : Int), w4.cell? (a1.add 1) = some (.int .i64 (i6)) ∧ ∃ (b7 : Bool), w4.cell? (a1.add 7) = some (.bool (b7)) ∧ Calls Tryz.prog 67 #[.pointer p5, .int .i64 (i6), .bool (b7)] w4 fun e8 w9 => ∃ (b10 : Bool), e8 = .returned (.bool (b10)) ∧ ∃ (p11 : Option Addr), w9.cell? (x0.add 15) = some (.pointer p11) ∧ Calls Tryz.prog 68 #[.pointer p11] w9 fun e12 w13 => ∃ (i14 : Int), e12 = .returned (.int .i64 (i14)) ∧ vif ((i14 : Int) == 1)
 (Calls Tryz.prog 69 #[.pointer (some x0)] w13 fun e15 w16 => e15 = .returned (.tuple #[]) ∧ R (.tuple #[]) w16)
 (vif ((i14 : Int) == 2)
 (∃ (i17 : Int), w13.cell? (x0.add 4) = some (.int .u64 (i17)) ∧ Calls Tryz.prog 37 #[.pointer (some x0), .int .u64 (i17), .int .i64 0] w13 fun e18 w19 => e18 = .returned (.tuple #[]) ∧ R (.tuple #[]) w19)
 (R (.tuple #[]) w13)))

def A40 : Ann := .seq (.leaf) (.seq (.seq (.leaf) (.two (.leaf) (.leaf))) (.seq (.ord (.op 0 (.op 1 (.op 2 (.op 4 (.op 6 (.op 3 (.op 5 (.op 7 (.op 8 .done)))))))))) (.seq (.leaf) (.one (.seq (.leaf) (.two (.leaf) (.seq (.leaf) (.two (.leaf) (.leaf)))))))))

theorem e40 (x0 : Addr) (x1 : Array Value) (w : World) (R : Value → World → Prop) : F40 x0 x1 w R = vfun Tryz.prog Tryz.f40 A40 [.pointer (some x0), .agg x1] w R := by kernel_rfl
theorem c40 (x0 : Addr) (x1 : Array Value) (w : World) {R : Value → World → Prop} (h : F40 x0 x1 w R) : Calls Tryz.prog 40 #[.pointer (some x0), .agg x1] w fun e w' => ∃ v, e = .returned v ∧ R v w' :=
  calls_of_vfun (an := A40) mixed Tryz.func40 (by kernel_rfl) (by kernel_rfl) ((e40 x0 x1 w R).mp h)

/-- (*compline/raft.Node).append -/
def F41 (x0 : Addr) (x1 : Array Value) (w : World) (R : Value → World → Prop) : Prop :=
 vnew w (.cells x1 54) fun a1 w2 => vdraw w2 fun w3 => ∃ (i4 : Int), w3.cell? (x0.add 4) = some (.int .u64 (i4)) ∧ ∃ (i5 : Int), w3.cell? (a1.add 1) = some (.int .i64 (i5)) ∧ Calls Tryz.prog 37 #[.pointer (some x0), .int .u64 (i4), .int .i64 (i5)] w3 fun e6 w7 => e6 = .returned (.tuple #[]) ∧ vstore1 w7 (x0.add 8) (.int .i64 0) fun w8 => vdraw w8 fun w9 => ∃ (i10 : Int), w9.cell? (a1.add 4) = some (.int .u64 (i10)) ∧ ∃ (i11 : Int), w9.cell? (x0.add 14) = some (.int .u64 (i11)) ∧ vif (decide ((i10 : Int) < i11))
 (vdraw w9 fun w12 => vcells 11 w12 a1 fun g13 => ∃ (i14 : Int), w12.cell? (x0.add 14) = some (.int .u64 (i14)) ∧ Calls Tryz.prog 38 #[.pointer (some x0), .int .i64 5, .agg g13, .bool true, .int .u64 (i14)] w12 fun e15 w16 => e15 = .returned (.tuple #[]) ∧ R (.tuple #[]) w16)
 (vdraw w9 fun w17 => ∃ (p18 : Option Addr), w17.cell? (x0.add 9) = some (.pointer p18) ∧ ∃ (i19 : Int), w17.cell? (a1.add 4) = some (.int .u64 (i19)) ∧ ∃ (i20 : Int), w17.cell? (a1.add 5) = some (.int .u64 (i20)) ∧ ∃ (s21 : Option Addr) (s21n s21c : Nat), w17.cell? (a1.add 8) = some (.slice s21 s21n s21c) ∧ Calls Tryz.prog 49 #[.pointer p18, .int .u64 (i19), .int .u64 (i20), .slice s21 s21n s21c] w17 fun e22 w23 => ∃ (i24 : Int), ∃ (i25 : Int), e22 = .returned (.tuple #[.int .u64 (i24), .int .i64 (i25)]) ∧ vif ((i25 : Int) != 0)
 (∃ (p26 : Option Addr), w23.cell? (x0.add 9) = some (.pointer p26) ∧ Calls Tryz.prog 33 #[.pointer p26] w23 fun e27 w28 => ∃ (i29 : Int), ∃ (i30 : Int), e27 = .returned (.tuple #[.int .u64 (i29), .int .u64 (i30)]) ∧ vcells 11 w28 a1 fun g31 => ∃ (i32 : Int), w28.cell? (a1.add 4) = some (.int .u64 (i32)) ∧ ∃ (i33 : Int), w28.cell? (a1.add 4) = some (.int .u64 (i33)) ∧ Calls Tryz.prog 38 #[.pointer (some x0), .int .i64 5, .agg g31, .bool false, .int .u64 (if (IntKind.u64.wrap (i32 - (if 1 < i33 then 1 else i33))) < i29 then (IntKind.u64.wrap (i32 - (if 1 < i33 then 1 else i33))) else i29)] w28 fun e34 w35 => e34 = .returned (.tuple #[]) ∧ R (.tuple #[]) w35)
 (∃ J36 : List Value → World → Prop, (vif (decide ((i24 : Int) > 0))
 (∃ (i37 : Int), w23.cell? (x0.add 20) = some (.int .u64 (i37)) ∧ vstore1 w23 (x0.add 20) (.int .u64 (if (IntKind.u64.wrap (i24 - 1)) < i37 then (IntKind.u64.wrap (i24 - 1)) else i37)) fun w38 => J36 [] w38)
 (J36 [] w23))
 ∧ (∀ w39, J36 [] w39 → ∃ (i40 : Int), w39.cell? (a1.add 4) = some (.int .u64 (i40)) ∧ ∃ (s41 : Option Addr) (s41n s41c : Nat), w39.cell? (a1.add 8) = some (.slice s41 s41n s41c) ∧ vdraw w39 fun w42 => ∃ (i43 : Int), w42.cell? (x0.add 14) = some (.int .u64 (i43)) ∧ ∃ (i44 : Int), w42.cell? (a1.add 6) = some (.int .u64 (i44)) ∧ vstore1 w42 (x0.add 14) (.int .u64 (if i43 < (if (IntKind.u64.wrap (i40 + (IntKind.u64.wrap (s41n : Nat)))) < i44 then (IntKind.u64.wrap (i40 + (IntKind.u64.wrap (s41n : Nat)))) else i44) then (if (IntKind.u64.wrap (i40 + (IntKind.u64.wrap (s41n : Nat)))) < i44 then (IntKind.u64.wrap (i40 + (IntKind.u64.wrap (s41n : Nat)))) else i44) else i43)) fun w45 => vcells 11 w45 a1 fun g46 => Calls Tryz.prog 38 #[.pointer (some x0), .int .i64 5, .agg g46, .bool true, .int .u64 (IntKind.u64.wrap (i40 + (IntKind.u64.wrap (s41n : Nat))))] w45 fun e47 w48 => e47 = .returned (.tuple #[]) ∧ R (.tuple #[]) w48)))

def A41 : Ann := .seq (.leaf) (.seq (.ord (.op 0 (.op 1 (.op 2 (.op 3 (.op 5 (.op 4 (.op 6 (.op 7 .done))))))))) (.seq (.leaf) (.seq (.seq (.ord (.op 0 (.op 2 (.op 3 (.op 4 (.op 1 (.op 5 (.op 6 .done)))))))) (.two (.seq (.ord (.op 0 (.op 2 (.op 3 (.op 4 (.op 1 (.op 5 (.op 6 .done)))))))) (.leaf)) (.leaf))) (.seq (.ord (.op 0 (.op 1 (.op 2 (.op 4 (.op 6 (.op 8 (.op 3 (.op 5 (.op 7 (.op 9 (.op 10 (.op 11 (.op 12 (.op 13 (.op 14 (.op 15 .done))))))))))))))))) (.seq (.seq (.leaf) (.two (.seq (.leaf) (.seq (.leaf) (.leaf))) (.leaf))) (.cut [] (.seq (.leaf) (.two (.leaf) (.leaf))) (.seq (.leaf) (.seq (.ord (.op 0 (.op 1 (.op 2 (.op 3 (.op 5 (.op 7 (.op 4 (.op 6 (.op 8 (.op 9 (.op 10 (.op 11 (.op 12 .done)))))))))))))) (.leaf)))))))))

theorem e41 (x0 : Addr) (x1 : Array Value) (w : World) (R : Value → World → Prop) : F41 x0 x1 w R = vfun Tryz.prog Tryz.f41 A41 [.pointer (some x0), .agg x1] w R := by kernel_rfl
theorem c41 (x0 : Addr) (x1 : Array Value) (w : World) {R : Value → World → Prop} (h : F41 x0 x1 w R) : Calls Tryz.prog 41 #[.pointer (some x0), .agg x1] w fun e w' => ∃ v, e = .returned v ∧ R v w' :=
  calls_of_vfun (an := A41) mixed Tryz.func41 (by kernel_rfl) (by kernel_rfl) ((e41 x0 x1 w R).mp h)

/-- (*compline/raft.Node).install -/
def F42 (x0 : Addr) (x1 : Array Value) (w : World) (R : Value → World → Prop) : Prop :=
 vnew w (.cells x1 54) fun a1 w2 => vdraw w2 fun w3 => ∃ (i4 : Int), w3.cell? (x0.add 4) = some (.int .u64 (i4)) ∧ ∃ (i5 : Int), w3.cell? (a1.add 1) = some (.int .i64 (i5)) ∧ Calls Tryz.prog 37 #[.pointer (some x0), .int .u64 (i4), .int .i64 (i5)] w3 fun e6 w7 => e6 = .returned (.tuple #[]) ∧ vstore1 w7 (x0.add 8) (.int .i64 0) fun w8 => vdraw w8 fun w9 => ∃ (i10 : Int), w9.cell? (a1.add 4) = some (.int .u64 (i10)) ∧ ∃ (i11 : Int), w9.cell? (x0.add 14) = some (.int .u64 (i11)) ∧ vif (decide ((i10 : Int) ≤ i11))
 (vdraw w9 fun w12 => vcells 11 w12 a1 fun g13 => ∃ (i14 : Int), w12.cell? (x0.add 14) = some (.int .u64 (i14)) ∧ Calls Tryz.prog 38 #[.pointer (some x0), .int .i64 7, .agg g13, .bool true, .int .u64 (i14)] w12 fun e15 w16 => e15 = .returned (.tuple #[]) ∧ R (.tuple #[]) w16)
 (∃ J17 : List Value → World → Prop, (vdraw w9 fun w18 => ∃ (p19 : Option Addr), w18.cell? (x0.add 9) = some (.pointer p19) ∧ ∃ (i20 : Int), w18.cell? (a1.add 4) = some (.int .u64 (i20)) ∧ Calls Tryz.prog 52 #[.pointer p19, .int .u64 (i20)] w18 fun e21 w22 => ∃ (i23 : Int), ∃ (i24 : Int), e21 = .returned (.tuple #[.int .u64 (i23), .int .i64 (i24)]) ∧ vif ((i24 : Int) == 0)
 (∃ (i25 : Int), w22.cell? (a1.add 5) = some (.int .u64 (i25)) ∧ vif ((i23 : Int) == i25)
 (vdraw w22 fun w26 => ∃ (p27 : Option Addr), w26.cell? (x0.add 9) = some (.pointer p27) ∧ ∃ (i28 : Int), w26.cell? (a1.add 4) = some (.int .u64 (i28)) ∧ Calls Tryz.prog 54 #[.pointer p27, .int .u64 (i28)] w26 fun e29 w30 => ∃ (i31 : Int), e29 = .returned (.int .i64 (i31)) ∧ J17 [] w30)
 (∃ (i32 : Int), w22.cell? (a1.add 4) = some (.int .u64 (i32)) ∧ ∃ (i33 : Int), w22.cell? (a1.add 5) = some (.int .u64 (i33)) ∧ Calls Tryz.prog 48 #[.int .u64 (i32), .int .u64 (i33)] w22 fun e34 w35 => ∃ (p36 : Option Addr), e34 = .returned (.pointer p36) ∧ vstore1 w35 (x0.add 9) (.pointer p36) fun w37 => J17 [] w37))
 (∃ (i38 : Int), w22.cell? (a1.add 4) = some (.int .u64 (i38)) ∧ ∃ (i39 : Int), w22.cell? (a1.add 5) = some (.int .u64 (i39)) ∧ Calls Tryz.prog 48 #[.int .u64 (i38), .int .u64 (i39)] w22 fun e40 w41 => ∃ (p42 : Option Addr), e40 = .returned (.pointer p42) ∧ vstore1 w41 (x0.add 9) (.pointer p42) fun w43 => J17 [] w43))
 ∧ (∀ w44, J17 [] w44 → ∃ (i45 : Int), w44.cell? (a1.add 4) = some (.int .u64 (i45)) ∧ ∃ (i46 : Int), w44.cell? (a1.add 5) = some (.int .u64 (i46)) ∧ ∃ (s47 : Option Addr) (s47n s47c : Nat), w44.cell? (a1.add 9) = some (.slice s47 s47n s47c) ∧ ∃ (s48 : Option Addr) (s48n s48c : Nat), w44.cell? (a1.add 10) = some (.slice s48 s48n s48c) ∧ Calls Tryz.prog 28 #[.agg #[.int .u64 (i45), .int .u64 (i46), .slice s47 s47n s47c, .slice s48 s48n s48c]] w44 fun e49 w50 => ∃ (g51 : Array Value), g51.size = 4 ∧ e49 = .returned (.agg g51) ∧ vstoreN w50 (x0.add 10) 4 g51 fun w52 => ∃ (i53 : Int), w52.cell? (a1.add 4) = some (.int .u64 (i53)) ∧ vstore1 w52 (x0.add 14) (.int .u64 (i53)) fun w54 => vstore1 w54 (x0.add 19) (.bool true) fun w55 => ∃ (p56 : Option Addr), w55.cell? (x0.add 9) = some (.pointer p56) ∧ Calls Tryz.prog 33 #[.pointer p56] w55 fun e57 w58 => ∃ (i59 : Int), ∃ (i60 : Int), e57 = .returned (.tuple #[.int .u64 (i59), .int .u64 (i60)]) ∧ vdraw w58 fun w61 => ∃ (i62 : Int), w61.cell? (x0.add 20) = some (.int .u64 (i62)) ∧ ∃ (i63 : Int), w61.cell? (a1.add 4) = some (.int .u64 (i63)) ∧ vstore1 w61 (x0.add 20) (.int .u64 (if i59 < (if i62 < i63 then i63 else i62) then i59 else (if i62 < i63 then i63 else i62))) fun w64 => vcells 11 w64 a1 fun g65 => ∃ (i66 : Int), w64.cell? (a1.add 4) = some (.int .u64 (i66)) ∧ Calls Tryz.prog 38 #[.pointer (some x0), .int .i64 7, .agg g65, .bool true, .int .u64 (i66)] w64 fun e67 w68 => e67 = .returned (.tuple #[]) ∧ R (.tuple #[]) w68))

def A42 : Ann := .seq (.leaf) (.seq (.ord (.op 0 (.op 1 (.op 2 (.op 3 (.op 5 (.op 4 (.op 6 (.op 7 .done))))))))) (.seq (.leaf) (.seq (.seq (.ord (.op 0 (.op 2 (.op 3 (.op 4 (.op 1 (.op 5 (.op 6 .done)))))))) (.two (.seq (.ord (.op 0 (.op 2 (.op 3 (.op 4 (.op 1 (.op 5 (.op 6 .done)))))))) (.leaf)) (.leaf))) (.cut [] (.seq (.ord (.op 0 (.op 1 (.op 2 (.op 4 (.op 3 (.op 5 (.op 6 (.op 7 (.op 8 (.op 9 (.op 10 (.op 11 .done))))))))))))) (.seq (.leaf) (.two (.ord (.op 0 (.op 1 (.op 2 (.op 4 (.op 3 (.op 5 (.op 6 .done)))))))) (.leaf)))) (.seq (.leaf) (.seq (.leaf) (.seq (.leaf) (.seq (.ord (.op 0 (.op 1 (.op 2 (.op 3 (.op 5 (.op 8 (.op 4 (.op 6 (.op 7 (.op 9 (.op 10 (.op 11 (.op 12 .done)))))))))))))) (.leaf)))))))))

theorem e42 (x0 : Addr) (x1 : Array Value) (w : World) (R : Value → World → Prop) : F42 x0 x1 w R = vfun Tryz.prog Tryz.f42 A42 [.pointer (some x0), .agg x1] w R := by kernel_rfl
theorem c42 (x0 : Addr) (x1 : Array Value) (w : World) {R : Value → World → Prop} (h : F42 x0 x1 w R) : Calls Tryz.prog 42 #[.pointer (some x0), .agg x1] w fun e w' => ∃ v, e = .returned v ∧ R v w' :=
  calls_of_vfun (an := A42) mixed Tryz.func42 (by kernel_rfl) (by kernel_rfl) ((e42 x0 x1 w R).mp h)

/-- (*compline/raft.Node).told -/
def F43 (x0 : Addr) (x1 : Array Value) (w : World) (R : Value → World → Prop) : Prop :=
 vnew w (.cells x1 54) fun a1 w2 => ∃ (p3 : Option Addr), w2.cell? (x0.add 9) = some (.pointer p3) ∧ Calls Tryz.prog 33 #[.pointer p3] w2 fun e4 w5 => ∃ (i6 : Int), ∃ (i7 : Int), e4 = .returned (.tuple #[.int .u64 (i6), .int .u64 (i7)]) ∧ ∃ (i8 : Int), w5.cell? (x0.add 6) = some (.int .i64 (i8)) ∧ vif ((i8 : Int) != 3)
 (R (.tuple #[]) w5)
 (∃ (b9 : Bool), w5.cell? (a1.add 7) = some (.bool (b9)) ∧ vif (!b9)
 (vdraw w5 fun w10 => ∃ (p11 : Option Addr), w10.cell? (x0.add 16) = some (.pointer p11) ∧ ∃ (i12 : Int), w10.cell? (a1.add 1) = some (.int .i64 (i12)) ∧ ∃ (i13 : Int), w10.cell? (a1.add 4) = some (.int .u64 (i13)) ∧ Calls Tryz.prog 70 #[.pointer p11, .int .i64 (i12), .int .u64 (i13)] w10 fun e14 w15 => ∃ (b16 : Bool), e14 = .returned (.bool (b16)) ∧ vdraw w15 fun w17 => ∃ (p18 : Option Addr), w17.cell? (x0.add 16) = some (.pointer p18) ∧ ∃ (i19 : Int), w17.cell? (a1.add 1) = some (.int .i64 (i19)) ∧ Calls Tryz.prog 71 #[.pointer p18, .int .i64 (i19)] w17 fun e20 w21 => ∃ (b22 : Bool), e20 = .returned (.bool (b22)) ∧ vif (b22)
 (∃ (i23 : Int), w21.cell? (a1.add 1) = some (.int .i64 (i23)) ∧ Calls Tryz.prog 58 #[.pointer (some x0), .int .i64 (i23)] w21 fun e24 w25 => e24 = .returned (.tuple #[]) ∧ R (.tuple #[]) w25)
 (R (.tuple #[]) w21))
 (vdraw w5 fun w26 => ∃ (i27 : Int), w26.cell? (a1.add 4) = some (.int .u64 (i27)) ∧ vif (decide ((i27 : Int) > i6))
 (R (.tuple #[]) w26)
 (∃ (p28 : Option Addr), w26.cell? (x0.add 16) = some (.pointer p28) ∧ ∃ (i29 : Int), w26.cell? (a1.add 1) = some (.int .i64 (i29)) ∧ ∃ (i30 : Int), w26.cell? (a1.add 4) = some (.int .u64 (i30)) ∧ Calls Tryz.prog 72 #[.pointer p28, .int .i64 (i29), .int .u64 (i30)] w26 fun e31 w32 => ∃ (b33 : Bool), e31 = .returned (.bool (b33)) ∧ vif (!b33)
 (R (.tuple #[]) w32)
 (vdraw w32 fun w34 => ∃ (p35 : Option Addr), w34.cell? (x0.add 16) = some (.pointer p35) ∧ ∃ (i36 : Int), w34.cell? (a1.add 1) = some (.int .i64 (i36)) ∧ Calls Tryz.prog 73 #[.pointer p35, .int .i64 (i36)] w34 fun e37 w38 => ∃ (i39 : Int), e37 = .returned (.int .u64 (i39)) ∧ vif (decide ((i39 : Int) ≤ i6))
 (∃ (i40 : Int), w38.cell? (a1.add 1) = some (.int .i64 (i40)) ∧ Calls Tryz.prog 58 #[.pointer (some x0), .int .i64 (i40)] w38 fun e41 w42 => e41 = .returned (.tuple #[]) ∧ Calls Tryz.prog 74 #[.pointer (some x0)] w42 fun e43 w44 => e43 = .returned (.tuple #[]) ∧ R (.tuple #[]) w44)
 (Calls Tryz.prog 74 #[.pointer (some x0)] w38 fun e45 w46 => e45 = .returned (.tuple #[]) ∧ R (.tuple #[]) w46)))))

def A43 : Ann := .seq (.leaf) (.seq (.leaf) (.seq (.one (.seq (.leaf) (.two (.leaf) (.seq (.leaf) (.two (.seq (.ord (.op 0 (.op 1 (.op 2 (.op 4 (.op 6 (.op 3 (.op 5 (.op 7 (.op 8 .done)))))))))) (.seq (.seq (.ord (.op 0 (.op 1 (.op 2 (.op 4 (.op 3 (.op 5 (.op 6 .done)))))))) (.two (.leaf) (.leaf))) (.leaf))) (.seq (.ord (.op 0 (.op 2 (.op 1 (.op 3 (.op 4 (.op 5 (.op 6 (.op 7 (.op 9 (.op 11 (.op 8 (.op 10 (.op 12 (.op 13 (.op 14 (.op 15 (.op 16 .done)))))))))))))))))) (.two (.leaf) (.leaf)))))))) (.seq (.seq (.ord (.op 0 (.op 1 (.op 2 (.op 4 (.op 7 (.op 3 (.op 5 (.op 6 (.op 8 .done)))))))))) (.two (.leaf) (.leaf))) (.leaf))))

theorem e43 (x0 : Addr) (x1 : Array Value) (w : World) (R : Value → World → Prop) : F43 x0 x1 w R = vfun Tryz.prog Tryz.f43 A43 [.pointer (some x0), .agg x1] w R := by kernel_rfl
theorem c43 (x0 : Addr) (x1 : Array Value) (w : World) {R : Value → World → Prop} (h : F43 x0 x1 w R) : Calls Tryz.prog 43 #[.pointer (some x0), .agg x1] w fun e w' => ∃ v, e = .returned v ∧ R v w' :=
  calls_of_vfun (an := A43) mixed Tryz.func43 (by kernel_rfl) (by kernel_rfl) ((e43 x0 x1 w R).mp h)

/-- (*compline/raft.Node).add -/
def F44 (x0 : Addr) (x1 : Bool) (x2 : Option Addr) (x2n x2c : Nat) (w : World) (R : Value → World → Prop) : Prop :=
 vdraw w fun w1 => ∃ (p2 : Option Addr), w1.cell? (x0.add 9) = some (.pointer p2) ∧ ∃ (i3 : Int), w1.cell? (x0.add 4) = some (.int .u64 (i3)) ∧ Calls Tryz.prog 75 #[.pointer p2, .int .u64 (i3), .bool (x1), .slice x2 x2n x2c] w1 fun e4 w5 => ∃ (i6 : Int), ∃ (i7 : Int), e4 = .returned (.tuple #[.int .u64 (i6), .int .i64 (i7)]) ∧ vif ((i7 : Int) != 0)
 (R (.tuple #[.int .u64 0, .int .i64 (i7)]) w5)
 (∃ (p8 : Option Addr), w5.cell? (x0.add 9) = some (.pointer p8) ∧ Calls Tryz.prog 33 #[.pointer p8] w5 fun e9 w10 => ∃ (i11 : Int), ∃ (i12 : Int), e9 = .returned (.tuple #[.int .u64 (i11), .int .u64 (i12)]) ∧ vdraw w10 fun w13 => ∃ J14 : World → Prop, J14 w13 ∧ ∃ (p15 : Option Addr), (∀ w, J14 w → w.cell? (x0.add 16) = some (.pointer p15)) ∧ Calls Tryz.prog 57 #[.pointer (some x0)] w13 fun e16 w17 => ∃ (s18 : Option Addr) (s18n s18c : Nat), e16 = .returned (.slice s18 s18n s18c) ∧ J14 w17 ∧ Calls Tryz.prog 76 #[.pointer p15, .slice s18 s18n s18c, .int .u64 (i11)] w17 fun e19 w20 => e19 = .returned (.tuple #[]) ∧ Calls Tryz.prog 29 #[.pointer (some x0)] w20 fun e21 w22 => e21 = .returned (.tuple #[]) ∧ Calls Tryz.prog 74 #[.pointer (some x0)] w22 fun e23 w24 => e23 = .returned (.tuple #[]) ∧ R (.tuple #[.int .u64 (i6), .int .i64 0]) w24)

def A44 : Ann := .seq (.leaf) (.seq (.ord (.op 0 (.op 1 (.op 2 (.op 4 (.op 5 (.op 6 (.op 8 (.op 9 (.op 3 (.op 7 (.op 10 (.op 11 (.op 12 (.op 13 (.op 14 (.op 15 .done))))))))))))))))) (.seq (.seq (.leaf) (.two (.seq (.leaf) (.leaf)) (.leaf))) (.seq (.leaf) (.seq (.ordJ (.op 0 (.op 1 (.op 2 (.op 4 (.op 6 (.far 3 (.op 5 (.rest (.op 7 .done)))))))))) (.seq (.leaf) (.seq (.leaf) (.seq (.leaf) (.leaf))))))))

theorem e44 (x0 : Addr) (x1 : Bool) (x2 : Option Addr) (x2n x2c : Nat) (w : World) (R : Value → World → Prop) : F44 x0 x1 x2 x2n x2c w R = vfun Tryz.prog Tryz.f44 A44 [.pointer (some x0), .bool (x1), .slice x2 x2n x2c] w R := by kernel_rfl
theorem c44 (x0 : Addr) (x1 : Bool) (x2 : Option Addr) (x2n x2c : Nat) (w : World) {R : Value → World → Prop} (h : F44 x0 x1 x2 x2n x2c w R) : Calls Tryz.prog 44 #[.pointer (some x0), .bool (x1), .slice x2 x2n x2c] w fun e w' => ∃ v, e = .returned v ∧ R v w' :=
  calls_of_vfun (an := A44) mixed Tryz.func44 (by kernel_rfl) (by kernel_rfl) ((e44 x0 x1 x2 x2n x2c w R).mp h)

/-- compline/raft.node -/
def F45 (x0 : Int) (w : World) (R : Value → World → Prop) : Prop :=
 vif (decide ((x0 : Int) ≥ 1))
 (R (.bool (decide ((x0 : Int) ≤ 7))) w)
 (R (.bool false) w)

def A45 : Ann := .seq (.leaf) (.seq (.leaf) (.leaf))

theorem e45 (x0 : Int) (w : World) (R : Value → World → Prop) : F45 x0 w R = vfun Tryz.prog Tryz.f45 A45 [.int .i64 (x0)] w R := by kernel_rfl
theorem c45 (x0 : Int) (w : World) {R : Value → World → Prop} (h : F45 x0 w R) : Calls Tryz.prog 45 #[.int .i64 (x0)] w fun e w' => ∃ v, e = .returned v ∧ R v w' :=
  calls_of_vfun (an := A45) mixed Tryz.func45 (by kernel_rfl) (by kernel_rfl) ((e45 x0 w R).mp h)

/-- (*compline/raft.Node).others -/
def F57 (x0 : Addr) (w : World) (R : Value → World → Prop) : Prop :=
 vnew w (.cells #[.pointer (some x0)] 44) fun a1 w2 => ∃ (p3 : Option Addr), w2.cell? a1 = some (.pointer p3) ∧ Calls Tryz.prog 31 #[.pointer p3] w2 fun e4 w5 => ∃ (s6 : Option Addr) (s6n s6c : Nat), e4 = .returned (.slice s6 s6n s6c) ∧ Calls Tryz.prog 87 #[.slice s6 s6n s6c, .func (.func 88) #[] #[.pointer (some a1)]] w5 fun e7 w8 => ∃ (s9 : Option Addr) (s9n s9c : Nat), e7 = .returned (.slice s9 s9n s9c) ∧ R (.slice s9 s9n s9c) w8

def A57 : Ann := .seq (.leaf) (.seq (.leaf) (.leaf))

theorem e57 (x0 : Addr) (w : World) (R : Value → World → Prop) : F57 x0 w R = vfun Tryz.prog Tryz.f57 A57 [.pointer (some x0)] w R := by kernel_rfl
theorem c57 (x0 : Addr) (w : World) {R : Value → World → Prop} (h : F57 x0 w R) : Calls Tryz.prog 57 #[.pointer (some x0)] w fun e w' => ∃ v, e = .returned v ∧ R v w' :=
  calls_of_vfun (an := A57) mixed Tryz.func57 (by kernel_rfl) (by kernel_rfl) ((e57 x0 w R).mp h)

/-- (*compline/raft.Node).to -/
def F58 (x0 : Addr) (x1 : Int) (w : World) (R : Value → World → Prop) : Prop :=
 ∃ (p1 : Option Addr), w.cell? (x0.add 9) = some (.pointer p1) ∧ Calls Tryz.prog 26 #[.pointer p1] w fun e2 w3 => ∃ (i4 : Int), ∃ (i5 : Int), e2 = .returned (.tuple #[.int .u64 (i4), .int .u64 (i5)]) ∧ ∃ (p6 : Option Addr), w3.cell? (x0.add 16) = some (.pointer p6) ∧ Calls Tryz.prog 73 #[.pointer p6, .int .i64 (x1)] w3 fun e7 w8 => ∃ (i9 : Int), e7 = .returned (.int .u64 (i9)) ∧ vif (decide ((i9 : Int) ≤ i4))
 (vcells 4 w8 (x0.add 10) fun g10 => Calls Tryz.prog 28 #[.agg g10] w8 fun e11 w12 => ∃ (g13 : Array Value), g13.size = 4 ∧ e11 = .returned (.agg g13) ∧ vnew w12 (.cells #[.int .u64 0, .int .u64 0, .slice Option.none 0 0, .slice Option.none 0 0] 40) fun a14 w15 => vstoreN w15 a14 4 g13 fun w16 => vdraw w16 fun w17 => ∃ (i18 : Int), w17.cell? (x0.add 4) = some (.int .u64 (i18)) ∧ ∃ (s19 : Option Addr) (s19n s19c : Nat), w17.cell? (a14.add 2) = some (.slice s19 s19n s19c) ∧ ∃ (s20 : Option Addr) (s20n s20c : Nat), w17.cell? (a14.add 3) = some (.slice s20 s20n s20c) ∧ Calls Tryz.prog 66 #[.pointer (some x0), .agg #[.int .i64 6, .int .i64 0, .int .i64 (x1), .int .u64 (i18), .int .u64 (i4), .int .u64 (i5), .int .u64 0, .bool false, .slice Option.none 0 0, .slice s19 s19n s19c, .slice s20 s20n s20c]] w17 fun e21 w22 => e21 = .returned (.tuple #[]) ∧ R (.tuple #[]) w22)
 (∃ (p23 : Option Addr), w8.cell? (x0.add 9) = some (.pointer p23) ∧ Calls Tryz.prog 52 #[.pointer p23, .int .u64 (IntKind.u64.wrap (i9 - 1))] w8 fun e24 w25 => ∃ (i26 : Int), ∃ (i27 : Int), e24 = .returned (.tuple #[.int .u64 (i26), .int .i64 (i27)]) ∧ ∃ (p28 : Option Addr), w25.cell? (x0.add 9) = some (.pointer p28) ∧ Calls Tryz.prog 27 #[.pointer p28, .int .u64 (i9), .int .i64 8] w25 fun e29 w30 => ∃ (s31 : Option Addr) (s31n s31c : Nat), ∃ (i32 : Int), e29 = .returned (.tuple #[.slice s31 s31n s31c, .int .i64 (i32)]) ∧ vdraw w30 fun w33 => ∃ (i34 : Int), w33.cell? (x0.add 4) = some (.int .u64 (i34)) ∧ ∃ (i35 : Int), w33.cell? (x0.add 14) = some (.int .u64 (i35)) ∧ Calls Tryz.prog 66 #[.pointer (some x0), .agg #[.int .i64 4, .int .i64 0, .int .i64 (x1), .int .u64 (i34), .int .u64 (IntKind.u64.wrap (i9 - 1)), .int .u64 (i26), .int .u64 (i35), .bool false, .slice s31 s31n s31c, .slice Option.none 0 0, .slice Option.none 0 0]] w33 fun e36 w37 => e36 = .returned (.tuple #[]) ∧ R (.tuple #[]) w37)

def A58 : Ann := .seq (.leaf) (.seq (.leaf) (.seq (.seq (.leaf) (.two (.seq (.leaf) (.seq (.ord (.op 0 (.op 1 (.op 2 (.op 3 (.op 4 (.op 6 (.op 7 (.op 8 (.op 10 (.op 5 (.op 9 (.op 11 (.op 12 (.op 13 .done))))))))))))))) (.leaf))) (.leaf))) (.seq (.leaf) (.seq (.leaf) (.ord (.op 0 (.op 1 (.op 2 (.op 3 (.op 4 (.op 6 (.op 7 (.op 8 (.op 9 (.op 10 (.op 11 (.op 13 (.op 5 (.op 12 (.op 14 (.op 15 .done)))))))))))))))))))))

theorem e58 (x0 : Addr) (x1 : Int) (w : World) (R : Value → World → Prop) : F58 x0 x1 w R = vfun Tryz.prog Tryz.f58 A58 [.pointer (some x0), .int .i64 (x1)] w R := by kernel_rfl
theorem c58 (x0 : Addr) (x1 : Int) (w : World) {R : Value → World → Prop} (h : F58 x0 x1 w R) : Calls Tryz.prog 58 #[.pointer (some x0), .int .i64 (x1)] w fun e w' => ∃ v, e = .returned v ∧ R v w' :=
  calls_of_vfun (an := A58) mixed Tryz.func58 (by kernel_rfl) (by kernel_rfl) ((e58 x0 x1 w R).mp h)

/-- (*compline/raft.Node).poll1 -/
def F60 (x0 : Addr) (w : World) (R : Value → World → Prop) : Prop :=
 Calls Tryz.prog 31 #[.pointer (some x0)] w fun e1 w2 => ∃ (s3 : Option Addr) (s3n s3c : Nat), e1 = .returned (.slice s3 s3n s3c) ∧ Calls Tryz.prog 90 #[.slice s3 s3n s3c] w2 fun e4 w5 => ∃ (p6 : Option Addr), e4 = .returned (.pointer p6) ∧ vstore1 w5 (x0.add 15) (.pointer p6) fun w7 => vdraw w7 fun w8 => ∃ (p9 : Option Addr), w8.cell? (x0.add 15) = some (.pointer p9) ∧ ∃ (i10 : Int), w8.cell? ((x0.add 0).add 0) = some (.int .i64 (i10)) ∧ Calls Tryz.prog 67 #[.pointer p9, .int .i64 (i10), .bool true] w8 fun e11 w12 => ∃ (b13 : Bool), e11 = .returned (.bool (b13)) ∧ ∃ (p14 : Option Addr), w12.cell? (x0.add 15) = some (.pointer p14) ∧ Calls Tryz.prog 68 #[.pointer p14] w12 fun e15 w16 => ∃ (i17 : Int), e15 = .returned (.int .i64 (i17)) ∧ R (.int .i64 (i17)) w16

def A60 : Ann := .seq (.leaf) (.seq (.leaf) (.seq (.ord (.op 0 (.op 1 (.op 2 (.op 4 (.op 5 (.op 6 (.op 7 (.op 3 (.op 8 (.op 9 .done))))))))))) (.seq (.leaf) (.leaf))))

theorem e60 (x0 : Addr) (w : World) (R : Value → World → Prop) : F60 x0 w R = vfun Tryz.prog Tryz.f60 A60 [.pointer (some x0)] w R := by kernel_rfl
theorem c60 (x0 : Addr) (w : World) {R : Value → World → Prop} (h : F60 x0 w R) : Calls Tryz.prog 60 #[.pointer (some x0)] w fun e w' => ∃ v, e = .returned v ∧ R v w' :=
  calls_of_vfun (an := A60) mixed Tryz.func60 (by kernel_rfl) (by kernel_rfl) ((e60 x0 w R).mp h)

/-- (*compline/raft.Node).stands -/
def F61 (x0 : Addr) (w : World) (R : Value → World → Prop) : Prop :=
 vstore1 w (x0.add 8) (.int .i64 0) fun w1 => vstore1 w1 (x0.add 6) (.int .i64 2) fun w2 => vdraw w2 fun w3 => ∃ (i4 : Int), w3.cell? (x0.add 4) = some (.int .u64 (i4)) ∧ ∃ (i5 : Int), w3.cell? ((x0.add 0).add 0) = some (.int .i64 (i5)) ∧ vstore1 w3 (x0.add 4) (.int .u64 (IntKind.u64.wrap (i4 + 1))) fun w6 => vstore1 w6 (x0.add 5) (.int .i64 (i5)) fun w7 => vstore1 w7 (x0.add 18) (.bool true) fun w8 => Calls Tryz.prog 60 #[.pointer (some x0)] w8 fun e9 w10 => ∃ (i11 : Int), e9 = .returned (.int .i64 (i11)) ∧ vif ((i11 : Int) == 1)
 (Calls Tryz.prog 69 #[.pointer (some x0)] w10 fun e12 w13 => e12 = .returned (.tuple #[]) ∧ R (.tuple #[]) w13)
 (∃ (i14 : Int), w10.cell? (x0.add 4) = some (.int .u64 (i14)) ∧ Calls Tryz.prog 62 #[.pointer (some x0), .int .i64 2, .int .u64 (i14)] w10 fun e15 w16 => e15 = .returned (.tuple #[]) ∧ R (.tuple #[]) w16)

def A61 : Ann := .seq (.leaf) (.seq (.ord (.op 0 (.op 1 (.op 2 (.op 3 (.op 4 (.op 5 (.op 8 (.op 9 (.op 10 (.op 11 (.op 6 (.op 7 (.op 12 (.op 13 (.op 14 (.op 15 (.op 16 (.op 17 (.op 18 (.op 19 (.op 20 (.op 21 .done))))))))))))))))))))))) (.seq (.seq (.leaf) (.two (.seq (.leaf) (.leaf)) (.leaf))) (.leaf)))

theorem e61 (x0 : Addr) (w : World) (R : Value → World → Prop) : F61 x0 w R = vfun Tryz.prog Tryz.f61 A61 [.pointer (some x0)] w R := by kernel_rfl
theorem c61 (x0 : Addr) (w : World) {R : Value → World → Prop} (h : F61 x0 w R) : Calls Tryz.prog 61 #[.pointer (some x0)] w fun e w' => ∃ v, e = .returned v ∧ R v w' :=
  calls_of_vfun (an := A61) mixed Tryz.func61 (by kernel_rfl) (by kernel_rfl) ((e61 x0 w R).mp h)

/-- (*compline/raft.Node).ask -/
def F62 (x0 : Addr) (x1 : Int) (x2 : Int) (w : World) (R : Value → World → Prop) : Prop :=
 ∃ (p1 : Option Addr), w.cell? (x0.add 9) = some (.pointer p1) ∧ Calls Tryz.prog 33 #[.pointer p1] w fun e2 w3 => ∃ (i4 : Int), ∃ (i5 : Int), e2 = .returned (.tuple #[.int .u64 (i4), .int .u64 (i5)]) ∧ Calls Tryz.prog 57 #[.pointer (some x0)] w3 fun e6 w7 => ∃ (s8 : Option Addr) (s8n s8c : Nat), e6 = .returned (.slice s8 s8n s8c) ∧ ∃ (I9 : List Value → World → Prop) (μ10 : List Value → World → Nat), (I9 [.int .i64 0] w7)
 ∧ (∀ (i11 : Int), ∀ w12, I9 [.int .i64 (i11)] w12 → vif (decide ((i11 : Int) < (s8n : Nat)))
 (vidx s8 s8n i11 fun a13 => ∃ (i14 : Int), w12.cell? (a13.add ((i11 : Int).toNat * 1)) = some (.int .i64 (i14)) ∧ Calls Tryz.prog 66 #[.pointer (some x0), .agg #[.int .i64 (x1), .int .i64 0, .int .i64 (i14), .int .u64 (x2), .int .u64 (i4), .int .u64 (i5), .int .u64 0, .bool false, .slice Option.none 0 0, .slice Option.none 0 0, .slice Option.none 0 0]] w12 fun e15 w16 => e15 = .returned (.tuple #[]) ∧ I9 [.int .i64 (IntKind.i64.wrap (i11 + 1))] w16 ∧ μ10 [.int .i64 (IntKind.i64.wrap (i11 + 1))] w16 < μ10 [.int .i64 (i11)] w12)
 (R (.tuple #[]) w12))

def A62 : Ann := .seq (.leaf) (.seq (.leaf) (.one (.loop [(21, .int .i64)] (.seq (.leaf) (.seq (.two (.leaf) (.leaf)) (.seq (.one (.seq (.leaf) (.leaf))) (.leaf)))))))

theorem e62 (x0 : Addr) (x1 : Int) (x2 : Int) (w : World) (R : Value → World → Prop) : F62 x0 x1 x2 w R = vfun Tryz.prog Tryz.f62 A62 [.pointer (some x0), .int .i64 (x1), .int .u64 (x2)] w R := by kernel_rfl
theorem c62 (x0 : Addr) (x1 : Int) (x2 : Int) (w : World) {R : Value → World → Prop} (h : F62 x0 x1 x2 w R) : Calls Tryz.prog 62 #[.pointer (some x0), .int .i64 (x1), .int .u64 (x2)] w fun e w' => ∃ v, e = .returned v ∧ R v w' :=
  calls_of_vfun (an := A62) mixed Tryz.func62 (by kernel_rfl) (by kernel_rfl) ((e62 x0 x1 x2 w R).mp h)

/-- (*compline/raft.Node).right$1 -/
def F64 (x0 : Array Value) (x1 : Addr) (w : World) (R : Value → World → Prop) : Prop :=
 vnew w (.cells x0 47) fun a1 w2 => ∃ (i3 : Int), w2.cell? (a1.add 1) = some (.int .u64 (i3)) ∧ ∃ (i4 : Int), w2.cell? (x1.add 3) = some (.int .u64 (i4)) ∧ R (.bool (decide ((i3 : Int) > i4))) w2

def A64 : Ann := .seq (.leaf) (.seq (.leaf) (.leaf))

theorem e64 (x0 : Array Value) (x1 : Addr) (w : World) (R : Value → World → Prop) : F64 x0 x1 w R = vfun Tryz.prog Tryz.f64 A64 [.agg x0, .pointer (some x1)] w R := by kernel_rfl
theorem c64 (x0 : Array Value) (x1 : Addr) (w : World) {R : Value → World → Prop} (h : F64 x0 x1 w R) : Calls Tryz.prog 64 #[.agg x0, .pointer (some x1)] w fun e w' => ∃ v, e = .returned v ∧ R v w' :=
  calls_of_vfun (an := A64) mixed Tryz.func64 (by kernel_rfl) (by kernel_rfl) ((e64 x0 x1 w R).mp h)

/-- (*compline/raft.Node).younger -/
def F65 (x0 : Addr) (x1 : Array Value) (w : World) (R : Value → World → Prop) : Prop :=
 vnew w (.cells x1 54) fun a1 w2 => ∃ (p3 : Option Addr), w2.cell? (x0.add 9) = some (.pointer p3) ∧ Calls Tryz.prog 33 #[.pointer p3] w2 fun e4 w5 => ∃ (i6 : Int), ∃ (i7 : Int), e4 = .returned (.tuple #[.int .u64 (i6), .int .u64 (i7)]) ∧ ∃ (i8 : Int), w5.cell? (a1.add 5) = some (.int .u64 (i8)) ∧ vif (decide ((i8 : Int) > i7))
 (R (.bool true) w5)
 (∃ (i9 : Int), w5.cell? (a1.add 5) = some (.int .u64 (i9)) ∧ vif ((i9 : Int) == i7)
 (∃ (i10 : Int), w5.cell? (a1.add 4) = some (.int .u64 (i10)) ∧ R (.bool (decide ((i10 : Int) ≥ i6))) w5)
 (R (.bool false) w5))

def A65 : Ann := .seq (.leaf) (.seq (.leaf) (.seq (.leaf) (.leaf)))

theorem e65 (x0 : Addr) (x1 : Array Value) (w : World) (R : Value → World → Prop) : F65 x0 x1 w R = vfun Tryz.prog Tryz.f65 A65 [.pointer (some x0), .agg x1] w R := by kernel_rfl
theorem c65 (x0 : Addr) (x1 : Array Value) (w : World) {R : Value → World → Prop} (h : F65 x0 x1 w R) : Calls Tryz.prog 65 #[.pointer (some x0), .agg x1] w fun e w' => ∃ v, e = .returned v ∧ R v w' :=
  calls_of_vfun (an := A65) mixed Tryz.func65 (by kernel_rfl) (by kernel_rfl) ((e65 x0 x1 w R).mp h)

/-- (*compline/raft.Node).send -/
def F66 (x0 : Addr) (x1 : Array Value) (w : World) (R : Value → World → Prop) : Prop :=
 vnew w (.cells x1 54) fun a1 w2 => ∃ (i3 : Int), w2.cell? ((x0.add 0).add 0) = some (.int .i64 (i3)) ∧ vstore1 w2 (a1.add 1) (.int .i64 (i3)) fun w4 => vdraw w4 fun w5 => ∃ (s6 : Option Addr) (s6n s6c : Nat), w5.cell? (x0.add 17) = some (.slice s6 s6n s6c) ∧ vcells 11 w5 a1 fun g7 => g7.size = 11 ∧ (#[.int .i64 0, .int .i64 0, .int .i64 0, .int .u64 0, .int .u64 0, .int .u64 0, .int .u64 0, .bool false, .slice Option.none 0 0, .slice Option.none 0 0, .slice Option.none 0 0] : Array Value).size = 11 ∧ vnew w5 (.cells (g7.toList ++ []).toArray 54) fun a8 w9 => vappend Tryz.prog 54 w9 s6 s6n s6c (some a8) 1 fun s10 s10n s10c w11 => vstore1 w11 (x0.add 17) (.slice s10 s10n s10c) fun w12 => R (.tuple #[]) w12

def A66 : Ann := .seq (.leaf) (.seq (.leaf) (.ord (.op 0 (.op 1 (.op 2 (.op 3 (.op 4 (.op 5 (.op 6 (.op 7 (.op 8 (.op 9 (.op 10 .done)))))))))))))

theorem e66 (x0 : Addr) (x1 : Array Value) (w : World) (R : Value → World → Prop) : F66 x0 x1 w R = vfun Tryz.prog Tryz.f66 A66 [.pointer (some x0), .agg x1] w R := by kernel_rfl
theorem c66 (x0 : Addr) (x1 : Array Value) (w : World) {R : Value → World → Prop} (h : F66 x0 x1 w R) : Calls Tryz.prog 66 #[.pointer (some x0), .agg x1] w fun e w' => ∃ v, e = .returned v ∧ R v w' :=
  calls_of_vfun (an := A66) mixed Tryz.func66 (by kernel_rfl) (by kernel_rfl) ((e66 x0 x1 w R).mp h)

/-- (*compline/raft.Node).leads -/
def F69 (x0 : Addr) (w : World) (R : Value → World → Prop) : Prop :=
 ∃ (p1 : Option Addr), w.cell? (x0.add 9) = some (.pointer p1) ∧ Calls Tryz.prog 33 #[.pointer p1] w fun e2 w3 => ∃ (i4 : Int), ∃ (i5 : Int), e2 = .returned (.tuple #[.int .u64 (i4), .int .u64 (i5)]) ∧ ∃ (i6 : Int), w3.cell? ((x0.add 0).add 0) = some (.int .i64 (i6)) ∧ vstore1 w3 (x0.add 8) (.int .i64 0) fun w7 => vstore1 w7 (x0.add 6) (.int .i64 3) fun w8 => vstore1 w8 (x0.add 7) (.int .i64 (i6)) fun w9 => vstore1 w9 (x0.add 15) (.pointer Option.none) fun w10 => Calls Tryz.prog 57 #[.pointer (some x0)] w10 fun e11 w12 => ∃ (s13 : Option Addr) (s13n s13c : Nat), e11 = .returned (.slice s13 s13n s13c) ∧ Calls Tryz.prog 95 #[.slice s13 s13n s13c, .int .u64 (i4)] w12 fun e14 w15 => ∃ (p16 : Option Addr), e14 = .returned (.pointer p16) ∧ vstore1 w15 (x0.add 16) (.pointer p16) fun w17 => vdraw w17 fun w18 => ∃ J19 : World → Prop, J19 w18 ∧ ∃ (p20 : Option Addr), (∀ w, J19 w → w.cell? (x0.add 9) = some (.pointer p20)) ∧ ∃ (i21 : Int), (∀ w, J19 w → w.cell? (x0.add 4) = some (.int .u64 (i21))) ∧ Calls Tryz.prog 96 #[] w18 fun e22 w23 => ∃ (s24 : Option Addr) (s24n s24c : Nat), e22 = .returned (.slice s24 s24n s24c) ∧ J19 w23 ∧ Calls Tryz.prog 75 #[.pointer p20, .int .u64 (i21), .bool false, .slice s24 s24n s24c] w23 fun e25 w26 => ∃ (i27 : Int), ∃ (i28 : Int), e25 = .returned (.tuple #[.int .u64 (i27), .int .i64 (i28)]) ∧ vif ((i28 : Int) != 0)
 (∃ (i29 : Int), w26.cell? (x0.add 4) = some (.int .u64 (i29)) ∧ Calls Tryz.prog 37 #[.pointer (some x0), .int .u64 (i29), .int .i64 0] w26 fun e30 w31 => e30 = .returned (.tuple #[]) ∧ R (.tuple #[]) w31)
 (Calls Tryz.prog 29 #[.pointer (some x0)] w26 fun e32 w33 => e32 = .returned (.tuple #[]) ∧ Calls Tryz.prog 74 #[.pointer (some x0)] w33 fun e34 w35 => e34 = .returned (.tuple #[]) ∧ R (.tuple #[]) w35)

def A69 : Ann := .seq (.leaf) (.seq (.leaf) (.seq (.leaf) (.seq (.seq (.ordJ (.op 0 (.op 1 (.op 2 (.op 4 (.op 5 (.op 6 (.far 3 (.far 7 (.op 8 (.rest (.op 9 (.op 10 (.op 11 (.op 12 (.op 13 (.op 14 .done))))))))))))))))) (.seq (.leaf) (.two (.seq (.leaf) (.leaf)) (.leaf)))) (.seq (.leaf) (.leaf)))))

theorem e69 (x0 : Addr) (w : World) (R : Value → World → Prop) : F69 x0 w R = vfun Tryz.prog Tryz.f69 A69 [.pointer (some x0)] w R := by kernel_rfl
theorem c69 (x0 : Addr) (w : World) {R : Value → World → Prop} (h : F69 x0 w R) : Calls Tryz.prog 69 #[.pointer (some x0)] w fun e w' => ∃ v, e = .returned v ∧ R v w' :=
  calls_of_vfun (an := A69) mixed Tryz.func69 (by kernel_rfl) (by kernel_rfl) ((e69 x0 w R).mp h)

/-- (*compline/raft.Node).agree -/
def F74 (x0 : Addr) (w : World) (R : Value → World → Prop) : Prop :=
 vnew w (.cells #[.pointer (some x0)] 44) fun a1 w2 => ∃ (p3 : Option Addr), w2.cell? a1 = some (.pointer p3) ∧ vnil p3 fun a4 => ∃ (p5 : Option Addr), w2.cell? (a4.add 9) = some (.pointer p5) ∧ Calls Tryz.prog 33 #[.pointer p5] w2 fun e6 w7 => ∃ (i8 : Int), ∃ (i9 : Int), e6 = .returned (.tuple #[.int .u64 (i8), .int .u64 (i9)]) ∧ vnew w7 (.cells #[.int .u64 0] 26) fun a10 w11 => vstore1 w11 a10 (.int .u64 (i8)) fun w12 => ∃ (p13 : Option Addr), w12.cell? a1 = some (.pointer p13) ∧ Calls Tryz.prog 31 #[.pointer p13] w12 fun e14 w15 => ∃ (s16 : Option Addr) (s16n s16c : Nat), e14 = .returned (.slice s16 s16n s16c) ∧ Calls Tryz.prog 98 #[.slice s16 s16n s16c, .func (.func 99) #[] #[.pointer (some a1), .pointer (some a10)]] w15 fun e17 w18 => ∃ (i19 : Int), e17 = .returned (.int .u64 (i19)) ∧ ∃ (p20 : Option Addr), w18.cell? a1 = some (.pointer p20) ∧ vnil p20 fun a21 => ∃ (p22 : Option Addr), w18.cell? (a21.add 9) = some (.pointer p22) ∧ Calls Tryz.prog 52 #[.pointer p22, .int .u64 (i19)] w18 fun e23 w24 => ∃ (i25 : Int), ∃ (i26 : Int), e23 = .returned (.tuple #[.int .u64 (i25), .int .i64 (i26)]) ∧ ∃ J27 : List Value → World → Prop, (∃ (p28 : Option Addr), w24.cell? a1 = some (.pointer p28) ∧ vnil p28 fun a29 => ∃ (i30 : Int), w24.cell? (a29.add 14) = some (.int .u64 (i30)) ∧ vif (decide ((i19 : Int) ≤ i30))
 (R (.tuple #[]) w24)
 (vif ((i26 : Int) != 0)
 (R (.tuple #[]) w24)
 (∃ (p31 : Option Addr), w24.cell? a1 = some (.pointer p31) ∧ vnil p31 fun a32 => ∃ (i33 : Int), w24.cell? (a32.add 4) = some (.int .u64 (i33)) ∧ vif ((i25 : Int) != i33)
 (R (.tuple #[]) w24)
 (J27 [] w24))))
 ∧ (∀ w34, J27 [] w34 → ∃ (p35 : Option Addr), w34.cell? a1 = some (.pointer p35) ∧ vnil p35 fun a36 => vstore1 w34 (a36.add 14) (.int .u64 (i19)) fun w37 => ∃ (p38 : Option Addr), w37.cell? a1 = some (.pointer p38) ∧ Calls Tryz.prog 29 #[.pointer p38] w37 fun e39 w40 => e39 = .returned (.tuple #[]) ∧ vdraw w40 fun w41 => ∃ (p42 : Option Addr), w41.cell? a1 = some (.pointer p42) ∧ vnil p42 fun a43 => ∃ (p44 : Option Addr), w41.cell? (a43.add 9) = some (.pointer p44) ∧ ∃ (p45 : Option Addr), w41.cell? a1 = some (.pointer p45) ∧ vnil p45 fun a46 => ∃ (s47 : Option Addr) (s47n s47c : Nat), w41.cell? ((a46.add 10).add 2) = some (.slice s47 s47n s47c) ∧ ∃ (p48 : Option Addr), w41.cell? a1 = some (.pointer p48) ∧ vnil p48 fun a49 => ∃ (i50 : Int), w41.cell? (a49.add 14) = some (.int .u64 (i50)) ∧ Calls Tryz.prog 51 #[.pointer p44, .slice s47 s47n s47c, .int .u64 (i50)] w41 fun e51 w52 => ∃ (s53 : Option Addr) (s53n s53c : Nat), ∃ (i54 : Int), e51 = .returned (.tuple #[.slice s53 s53n s53c, .int .u64 (i54)]) ∧ ∃ (p55 : Option Addr), w52.cell? a1 = some (.pointer p55) ∧ vnil p55 fun a56 => ∃ (i57 : Int), w52.cell? ((a56.add 0).add 0) = some (.int .i64 (i57)) ∧ Calls Tryz.prog 30 #[.slice s53 s53n s53c, .int .i64 (i57)] w52 fun e58 w59 => ∃ (b60 : Bool), e58 = .returned (.bool (b60)) ∧ vif (!b60)
 (vdraw w59 fun w61 => ∃ (p62 : Option Addr), w61.cell? a1 = some (.pointer p62) ∧ ∃ (p63 : Option Addr), w61.cell? a1 = some (.pointer p63) ∧ vnil p63 fun a64 => ∃ (i65 : Int), w61.cell? (a64.add 4) = some (.int .u64 (i65)) ∧ Calls Tryz.prog 37 #[.pointer p62, .int .u64 (i65), .int .i64 0] w61 fun e66 w67 => e66 = .returned (.tuple #[]) ∧ R (.tuple #[]) w67)
 (R (.tuple #[]) w59))

def A74 : Ann := .seq (.leaf) (.seq (.leaf) (.seq (.leaf) (.seq (.leaf) (.seq (.leaf) (.cut [] (.seq (.leaf) (.two (.leaf) (.leaf))) (.seq (.leaf) (.seq (.leaf) (.seq (.ord (.op 0 (.op 1 (.op 2 (.op 3 (.op 4 (.op 5 (.op 6 (.op 7 (.op 8 (.op 9 (.op 10 (.op 11 (.op 12 (.op 13 (.op 14 (.op 15 (.op 16 (.op 17 (.op 18 .done)))))))))))))))))))) (.seq (.leaf) (.two (.ord (.op 0 (.op 1 (.op 2 (.op 3 (.op 4 (.op 5 .done))))))) (.leaf)))))))))))

theorem e74 (x0 : Addr) (w : World) (R : Value → World → Prop) : F74 x0 w R = vfun Tryz.prog Tryz.f74 A74 [.pointer (some x0)] w R := by kernel_rfl
theorem c74 (x0 : Addr) (w : World) {R : Value → World → Prop} (h : F74 x0 w R) : Calls Tryz.prog 74 #[.pointer (some x0)] w fun e w' => ∃ v, e = .returned v ∧ R v w' :=
  calls_of_vfun (an := A74) mixed Tryz.func74 (by kernel_rfl) (by kernel_rfl) ((e74 x0 w R).mp h)

/-- (*compline/raft.Node).others$1 -/
def F88 (x0 : Int) (x1 : Addr) (w : World) (R : Value → World → Prop) : Prop :=
 ∃ (p1 : Option Addr), w.cell? x1 = some (.pointer p1) ∧ vnil p1 fun a2 => ∃ (i3 : Int), w.cell? ((a2.add 0).add 0) = some (.int .i64 (i3)) ∧ R (.bool ((x0 : Int) == i3)) w

def A88 : Ann := .seq (.leaf) (.seq (.leaf) (.leaf))

theorem e88 (x0 : Int) (x1 : Addr) (w : World) (R : Value → World → Prop) : F88 x0 x1 w R = vfun Tryz.prog Tryz.f88 A88 [.int .i64 (x0), .pointer (some x1)] w R := by kernel_rfl
theorem c88 (x0 : Int) (x1 : Addr) (w : World) {R : Value → World → Prop} (h : F88 x0 x1 w R) : Calls Tryz.prog 88 #[.int .i64 (x0), .pointer (some x1)] w fun e w' => ∃ v, e = .returned v ∧ R v w' :=
  calls_of_vfun (an := A88) mixed Tryz.func88 (by kernel_rfl) (by kernel_rfl) ((e88 x0 x1 w R).mp h)

/-- compline/raft.nothing -/
def F96  (w : World) (R : Value → World → Prop) : Prop :=
 Calls Tryz.prog 108 #[.agg #[.int .u64 0, .int .u64 0, .int .i64 0, .string ⟨#[]⟩, .string ⟨#[]⟩, .int .u64 0, .int .i64 0, .string ⟨#[]⟩, .string ⟨#[]⟩, .int .i64 0, .int .i64 0, .slice Option.none 0 0, .int .i64 0, .int .i64 0, .int .i64 0, .int .i64 0, .string ⟨#[]⟩, .int .i64 0]] w fun e1 w2 => ∃ (s3 : Option Addr) (s3n s3c : Nat), ∃ (i4 : Int), e1 = .returned (.tuple #[.slice s3 s3n s3c, .int .i64 (i4)]) ∧ R (.slice s3 s3n s3c) w2

def A96 : Ann := .seq (.leaf) (.seq (.leaf) (.seq (.leaf) (.leaf)))

theorem e96  (w : World) (R : Value → World → Prop) : F96  w R = vfun Tryz.prog Tryz.f96 A96 [] w R := by kernel_rfl
theorem c96  (w : World) {R : Value → World → Prop} (h : F96  w R) : Calls Tryz.prog 96 #[] w fun e w' => ∃ v, e = .returned v ∧ R v w' :=
  calls_of_vfun (an := A96) mixed Tryz.func96 (by kernel_rfl) (by kernel_rfl) ((e96  w R).mp h)

/-- (*compline/raft.Node).agree$1 -/
def F99 (x0 : Int) (x1 : Addr) (x2 : Addr) (w : World) (R : Value → World → Prop) : Prop :=
 ∃ (p1 : Option Addr), w.cell? x1 = some (.pointer p1) ∧ vnil p1 fun a2 => ∃ (i3 : Int), w.cell? ((a2.add 0).add 0) = some (.int .i64 (i3)) ∧ vif ((x0 : Int) == i3)
 (∃ (i4 : Int), w.cell? x2 = some (.int .u64 (i4)) ∧ R (.int .u64 (i4)) w)
 (∃ (p5 : Option Addr), w.cell? x1 = some (.pointer p5) ∧ vnil p5 fun a6 => ∃ (p7 : Option Addr), w.cell? (a6.add 16) = some (.pointer p7) ∧ Calls Tryz.prog 100 #[.pointer p7, .int .i64 (x0)] w fun e8 w9 => ∃ (i10 : Int), e8 = .returned (.int .u64 (i10)) ∧ R (.int .u64 (i10)) w9)

def A99 : Ann := .seq (.leaf) (.seq (.seq (.leaf) (.two (.seq (.leaf) (.leaf)) (.leaf))) (.seq (.leaf) (.leaf)))

theorem e99 (x0 : Int) (x1 : Addr) (x2 : Addr) (w : World) (R : Value → World → Prop) : F99 x0 x1 x2 w R = vfun Tryz.prog Tryz.f99 A99 [.int .i64 (x0), .pointer (some x1), .pointer (some x2)] w R := by kernel_rfl
theorem c99 (x0 : Int) (x1 : Addr) (x2 : Addr) (w : World) {R : Value → World → Prop} (h : F99 x0 x1 x2 w R) : Calls Tryz.prog 99 #[.int .i64 (x0), .pointer (some x1), .pointer (some x2)] w fun e w' => ∃ v, e = .returned v ∧ R v w' :=
  calls_of_vfun (an := A99) mixed Tryz.func99 (by kernel_rfl) (by kernel_rfl) ((e99 x0 x1 x2 w R).mp h)


end Rx
end Go.Proofs.YtkoipeddfbeliaaGreat

/-
  Bytes read back as members; a leader's first entry.
-/
namespace Go.Proofs.YtkoipeddfbeliaaGreat
namespace Rx
open Go.RowKit
set_option maxRecDepth 100000

/-- a reader that is new, without an error -/
def Rd (w0 w : World) (b : Nat) (bs : List UInt8) : Prop :=
  Ex w0 w ∧ w0.heap.size ≤ b ∧ ∃ s : SV, Blk w b #[.slice s.p s.n s.c, .int .i64 0] 161 ∧ Bytes w s bs

theorem Rd.ex {w0 w w' : World} {b : Nat} {bs : List UInt8} (h : Rd w0 w b bs) (e : Ex w w') : Rd w0 w' b bs := by
  obtain ⟨h1, h2, s, h3, h4⟩ := h
  exact ⟨h1.trans e, h2, s, e.blk h3, Sl.ex h4 e⟩

theorem err111 {w0 w : World} {b : Nat} {bs : List UInt8} (h : Rd w0 w b bs) : Calls Tryz.prog 111 #[.pointer (some ⟨b, 0, none⟩)] w fun e w' => e = .returned (.int .i64 0) ∧ w' = w := by
  refine ret (R := fun v w' => v = .int .i64 0 ∧ w' = w) (c111 _ w ?_) (fun v w' ⟨h1, h2⟩ => ⟨by rw [h1], h2⟩)
  obtain ⟨h1, h2, s, h3, h4⟩ := h
  exact ⟨0, by rw [add_mk, h3.cell]; rfl, rfl, rfl⟩

theorem one112 {w0 w : World} {b : Nat} {c : UInt8} {bs : List UInt8} (h : Rd w0 w b (c :: bs)) : Calls Tryz.prog 112 #[.pointer (some ⟨b, 0, none⟩)] w fun e w' => e = .returned (.int .u8 (c.toNat : Int)) ∧ Rd w0 w' b bs ∧ Fr [b] w w' := by
  refine ret (R := fun v w' => v = .int .u8 (c.toNat : Int) ∧ Rd w0 w' b bs ∧ Fr [b] w w') (c112 _ w ?_) (fun v w' ⟨h1, h2⟩ => ⟨by rw [h1], h2⟩)
  have h0 := h
  obtain ⟨h1, h2, s, h3, h4⟩ := h
  have hn := h4.n
  simp only [List.length_cons] at hn
  refine ⟨fun vs w' => vs = [] ∧ w' = w, ?_, ?_⟩
  · refine (err111 h0).mono ?_
    rintro _ _ ⟨rfl, rfl⟩
    refine ⟨0, rfl, vif_t rfl ⟨s.p, s.n, s.c, by rw [add_mk, h3.cell]; rfl, vif_f (by simp; omega) ⟨rfl, rfl⟩⟩⟩
  · rintro w8 ⟨-, rfl⟩
    refine (err111 h0).mono ?_
    rintro _ _ ⟨rfl, rfl⟩
    refine ⟨0, rfl, vif_f rfl ⟨s.p, s.n, s.c, by rw [add_mk, h3.cell]; rfl, ?_⟩⟩
    refine Sl.load h4 (i := 0) (v := .int .u8 (c.toNat : Int)) (by simp [byteVals]) fun a ha => ⟨_, ha, s.p, s.n, s.c, by rw [add_mk, h3.cell]; rfl, ?_⟩
    have hc := Sl.cap h4
    refine vslice_mk 1 s.n s.c (fun G hG => ⟨by omega, by omega, by simpa using hG⟩) (fun G h => h) (fun G h => h) (.inl rfl) (fun _ => rfl) ?_
    have hcut := Sl.cut h4 (l := 1) (h := s.n) (m := s.c) (by omega) (Nat.le_refl _) hc (Nat.le_refl _)
    rw [add_mk]
    refine vstore1_mk h3 (by simp) fun w' p => ⟨rfl, ⟨h1.put p h2, h2, s.cut 1 1 s.n s.c, by simpa [SV.cut] using p.blk, ?_⟩, p.fr (by simp)⟩
    have hv : ((byteVals (c :: bs)).drop (1 * 1)).take ((s.n - 1) * 1) = byteVals bs := by
      rw [hn]
      simp only [byteVals, List.map_cons, Nat.mul_one, List.drop_succ_cons, List.drop_zero, Nat.add_sub_cancel]
      exact List.take_of_length_le (by simp)
    rw [hv] at hcut
    refine hcut.blk fun a cs ha hb => p.other (fun hh => ?_) hb
    subst hh
    exact absurd (hb.same h3).2 (by decide)

theorem low_byte : ∀ c : Fin 128, ibits .or .u64 0 (IntKind.u64.wrap ((IntKind.u64.wrap (ibits .and .u8 (c.val : Int) 127)) * 2 ^ (min ((IntKind.u64.wrap 0) : Int).toNat 64))) = (c.val : Int) := by decide +kernel

theorem num104 {w0 w : World} {b : Nat} {c : UInt8} {bs : List UInt8} (h : Rd w0 w b (c :: bs)) (hc : c.toNat < 128) : Calls Tryz.prog 104 #[.pointer (some ⟨b, 0, none⟩)] w fun e w' => e = .returned (.int .u64 (c.toNat : Int)) ∧ Rd w0 w' b bs ∧ Fr [b] w w' := by
  refine ret (R := fun v w' => v = .int .u64 (c.toNat : Int) ∧ Rd w0 w' b bs ∧ Fr [b] w w') (c104 _ w ?_) (fun v w' ⟨h1, h2⟩ => ⟨by rw [h1], h2⟩)
  refine ⟨fun vs w' => vs = [.int .u64 0, .int .i64 0] ∧ w' = w, fun _ _ => 0, ⟨rfl, rfl⟩, ?_⟩
  rintro i3 i4 w5 ⟨hv, rfl⟩
  simp only [List.cons.injEq, Value.int.injEq, and_true, true_and] at hv
  obtain ⟨rfl, rfl⟩ := hv
  refine (err111 h).mono ?_
  rintro _ _ ⟨rfl, rfl⟩
  refine ⟨0, rfl, vif_t rfl ((one112 h).mono ?_)⟩
  rintro _ w1 ⟨rfl, h1, f1⟩
  refine ⟨_, rfl, (err111 h1).mono ?_⟩
  rintro _ w2 ⟨rfl, hw2⟩
  subst hw2
  refine ⟨0, rfl, vif_f rfl ⟨fun vs w' => vs = [] ∧ w' = w2, vif_f (by decide) (vif_f (by decide) (vif_mk (fun _ => vif_f (by decide) ⟨rfl, rfl⟩) fun _ => ⟨rfl, rfl⟩)), ?_⟩⟩
  rintro w24 ⟨-, rfl⟩
  refine ⟨by rw [IntKind.wrap_u64]; omega, vif_t (by simp; omega) ⟨?_, h1, f1⟩⟩
  have := low_byte ⟨c.toNat, hc⟩
  exact congrArg _ this

theorem left114 {w0 w : World} {b : Nat} {bs : List UInt8} (h : Rd w0 w b bs) : Calls Tryz.prog 114 #[.pointer (some ⟨b, 0, none⟩)] w fun e w' => e = .returned (.int .i64 (bs.length : Int)) ∧ w' = w := by
  refine ret (R := fun v w' => v = .int .i64 (bs.length : Int) ∧ w' = w) (c114 _ w ?_) (fun v w' ⟨h1, h2⟩ => ⟨by rw [h1], h2⟩)
  refine (err111 h).mono ?_
  rintro _ _ ⟨rfl, rfl⟩
  obtain ⟨h1, h2, s, h3, h4⟩ := h
  refine ⟨0, rfl, vif_f rfl ⟨s.p, s.n, s.c, by rw [add_mk, h3.cell]; rfl, by rw [h4.n], rfl⟩⟩

theorem end105 {w0 w : World} {b : Nat} (h : Rd w0 w b []) : Calls Tryz.prog 105 #[.pointer (some ⟨b, 0, none⟩)] w fun e w' => e = .returned (.int .i64 0) ∧ w' = w := by
  refine ret (R := fun v w' => v = .int .i64 0 ∧ w' = w) (c105 _ w ?_) (fun v w' ⟨h1, h2⟩ => ⟨by rw [h1], h2⟩)
  refine (left114 h).mono ?_
  rintro _ _ ⟨rfl, rfl⟩
  refine ⟨_, rfl, vif_f (by simp) ((err111 h).mono ?_)⟩
  rintro _ _ ⟨rfl, rfl⟩
  exact ⟨0, rfl, rfl, rfl⟩

theorem count110 {w0 w : World} {b : Nat} {c : UInt8} {bs : List UInt8} (h : Rd w0 w b (c :: bs)) (hc : c.toNat ≤ 7) : Calls Tryz.prog 110 #[.pointer (some ⟨b, 0, none⟩), .int .i64 7] w fun e w' => e = .returned (.int .i64 (c.toNat : Int)) ∧ Rd w0 w' b bs ∧ Fr [b] w w' := by
  refine ret (R := fun v w' => v = .int .i64 (c.toNat : Int) ∧ Rd w0 w' b bs ∧ Fr [b] w w') (c110 _ 7 w ?_) (fun v w' ⟨h1, h2⟩ => ⟨by rw [h1], h2⟩)
  refine (num104 h (by omega)).mono ?_
  rintro _ w1 ⟨rfl, h1, f1⟩
  refine ⟨_, rfl, vif_f ?_ ⟨by rw [wi (by omega) (by omega)], h1, f1⟩⟩
  have h7 : IntKind.u64.wrap (if (7 : Int) < 0 then 0 else 7) = 7 := by decide
  rw [h7]
  simp; omega

theorem get103 {w0 w : World} {b : Nat} {c : UInt8} {bs : List UInt8} (h : Rd w0 w b (c :: bs)) (hc : c.toNat ≤ 7) :
    vcallv Tryz.prog (.func (.func 103) #[] #[]) [.pointer (some ⟨b, 0, none⟩)] w fun e w' => e = .returned (iv c.toNat) ∧ Rd w0 w' b bs ∧ Fr [b] w w' := by
  refine vcallv_mk (by kernel_rfl) ?_
  refine ret (R := fun v w' => v = iv c.toNat ∧ Rd w0 w' b bs ∧ Fr [b] w w') (c103 _ w ?_) (fun v w' ⟨h1, h2⟩ => ⟨by rw [h1], h2⟩)
  refine (num104 h (by omega)).mono ?_
  rintro _ w1 ⟨rfl, h1, f1⟩
  refine ⟨_, rfl, ?_, h1, f1⟩
  rw [if_neg (by omega), wi (by omega) (by omega), iv]

theorem get102 {w0 w : World} {b : Nat} {l : List Nat} (h : Rd w0 w b (encM l)) (hl : l.length ≤ 7) (hx : ∀ x ∈ l, x ≤ 7) :
    Calls Tryz.prog 102 #[.pointer (some ⟨b, 0, none⟩), .int .i64 7, .func (.func 103) #[] #[]] w fun e w' => ∃ r : SV, e = .returned (.slice r.p r.n r.c) ∧ Rd w0 w' b [] ∧ Ints w' r l ∧ ∀ x ∈ r.own, w0.heap.size ≤ x := by
  refine ret (R := fun v w' => ∃ r : SV, v = .slice r.p r.n r.c ∧ Rd w0 w' b [] ∧ Ints w' r l ∧ ∀ x ∈ r.own, w0.heap.size ≤ x) (c102 _ 7 _ w ?_) (fun v w' ⟨r, h1, h2⟩ => ⟨r, by rw [h1], h2⟩)
  have hu : ∀ x, x ≤ 7 → (UInt8.ofNat x).toNat = x := fun x hx => by simp; omega
  refine (count110 h (by rw [hu _ hl]; exact hl)).mono ?_
  rintro _ w1 ⟨rfl, h1, f1⟩
  refine ⟨_, rfl, fun vs w' => ∃ (i : Nat) (s : SV), vs = [.slice s.p s.n s.c, iv i] ∧ i ≤ l.length ∧ Rd w0 w' b ((l.drop i).map UInt8.ofNat) ∧ Ints w' s (l.take i) ∧ ∀ x ∈ s.own, w0.heap.size ≤ x,
    fun vs _ => match vs with | [_, .int _ i] => (l.length - i).toNat | _ => 0, ⟨0, .nil, rfl, Nat.zero_le _, by simpa using h1, by simpa [Ints] using Sl.zero _ _ _, by simp [SV.own, SV.nil]⟩, ?_⟩
  rw [hu _ hl]
  rintro s6 s6n s6c i7 w8 ⟨i, s, hi, hle, hr, hs, ho⟩
  simp only [iv, List.cons.injEq, Value.int.injEq, Value.slice.injEq, and_true, true_and] at hi
  obtain ⟨⟨rfl, rfl, rfl⟩, rfl⟩ := hi
  refine vif_mk (fun h => ?_) (fun h => ?_)
  · have hlt : i < l.length := by simp at h; omega
    have hm : l[i] ≤ 7 := hx _ (List.getElem_mem hlt)
    rw [List.drop_eq_getElem_cons hlt, List.map_cons] at hr
    refine vcallv_mono ?_ (get103 hr (by rw [hu _ hm]; exact hm))
    rintro _ w1 ⟨rfl, h2, f2⟩
    rw [hu _ hm]
    refine ⟨_, rfl, (err111 h2).mono ?_⟩
    rintro _ w2 ⟨rfl, hw2⟩
    subst hw2
    refine ⟨0, rfl, vif_f rfl ⟨rfl, vnew_mk fun w3 e3 s3 b3 => ?_⟩⟩
    have hn := hs.n
    have hs2 : Ints w2 s (l.take i) := by
      refine Sl.blk hs fun a cs ha hb => f2.blk hb ?_
      obtain ⟨_, _, t, ht, _⟩ := hr
      simp only [List.mem_singleton]
      rintro rfl
      exact absurd (hb.same ht).2 (by decide)
    refine app3 (s := s) (q := ⟨some ⟨w2.heap.size, 0, none⟩, 1, 1⟩) (new := [iv l[i]]) (Sl.ex hs2 e3) (Sl.of_blk (n := 1) b3 rfl) (by simp [iv, isOne]) (by simp at hn; simp; omega) fun r w4 hr4 hn4 g => ?_
    rw [wi (by omega) (by omega)]
    have hg := g.ex (h2.1.trans e3) ho
    have h2e := h2.ex e3
    refine ⟨⟨i + 1, r, by simp [iv], hlt, ⟨hg.1, h2e.2.1, ?_⟩, ?_, hg.2⟩, by simp only; omega⟩
    · obtain ⟨_, _, t, ht, hbt⟩ := h2e
      refine ⟨t, g.fr.blk ht fun hh => ?_, ?_⟩
      · rw [SV.mem_own] at hh
        obtain ⟨a, ha, rfl⟩ := hh
        obtain ⟨_, cs, hcs, _⟩ := (Sl.ex hs2 e3).at_ a ha
        exact absurd (hcs.same ht).2 (by decide)
      · refine Sl.blk hbt fun a cs ha hb => g.fr.blk hb fun hh => ?_
        rw [SV.mem_own] at hh
        obtain ⟨a', ha', he⟩ := hh
        obtain ⟨_, cs', hcs, _⟩ := (Sl.ex hs2 e3).at_ a' ha'
        rw [he] at hcs
        exact absurd (hcs.same hb).2 (by decide)
    · show Sl w4 3 1 r ((l.take (i + 1)).map iv)
      rw [List.take_succ_eq_append_getElem hlt, List.map_append]
      exact hr4
  · simp at h
    rw [List.take_of_length_le (by omega)] at hs
    rw [List.drop_eq_nil_of_le (by omega)] at hr
    exact ⟨s, rfl, hr, hs, ho⟩

theorem read101 {w : World} {s : SV} {bs : List UInt8} (hs : Bytes w s bs) (hn : s.n ≤ 1000000000) :
    Calls Tryz.prog 101 #[.slice s.p s.n s.c] w fun e w' => ∃ b, e = .returned (.pointer (some ⟨b, 0, none⟩)) ∧ Rd w w' b bs := by
  refine ret (R := fun v w' => ∃ b, v = .pointer (some ⟨b, 0, none⟩) ∧ Rd w w' b bs) (c101 s.p s.n s.c w ?_) (fun v w' ⟨r, h1, h2⟩ => ⟨r, by rw [h1], h2⟩)
  refine (clone56 hs (one_bytes _) hn).mono ?_
  rintro _ w1 ⟨r, rfl, e1, hr, ho⟩
  refine ⟨_, _, _, rfl, vnew_mk fun w2 e2 s2 b2 => ⟨_, rfl, e1.trans e2, e1.size, r, b2, Sl.ex hr e2⟩⟩

theorem goodM_len {l : List Nat} (h : goodM l) : l.length ≤ 7 := by
  rcases Nat.lt_or_ge 7 l.length with hh | hh
  · exfalso
    have hm : ∀ k (hk : k < l.length), k + 1 ≤ l[k] := by
      intro k
      induction k with
      | zero => intro hk; exact (h.2.1 _ (List.getElem_mem hk)).1
      | succ k ih =>
        intro hk
        have := ih (by omega)
        have := List.pairwise_iff_getElem.1 h.2.2 k (k + 1) (by omega) hk (by omega)
        omega
    have := hm 7 hh
    have := h.2.1 _ (List.getElem_mem hh)
    omega
  · exact hh

theorem membersOf80 {w : World} {s : SV} {l : List Nat} (hs : Bytes w s (encM l)) (hg : goodM l) :
    Calls Tryz.prog 80 #[.slice s.p s.n s.c] w fun e w' => ∃ r : SV, e = .returned (.tuple #[.slice r.p r.n r.c, .int .i64 0]) ∧ Ex w w' ∧ Ints w' r l ∧ ∀ x ∈ r.own, w.heap.size ≤ x := by
  refine ret (R := fun v w' => ∃ r : SV, v = .tuple #[.slice r.p r.n r.c, .int .i64 0] ∧ Ex w w' ∧ Ints w' r l ∧ ∀ x ∈ r.own, w.heap.size ≤ x) (c80 s.p s.n s.c w ?_) (fun v w' ⟨r, h1, h2⟩ => ⟨r, by rw [h1], h2⟩)
  have hl := goodM_len hg
  have hn := hs.n
  refine (read101 hs (by rw [hn]; simp [encM]; omega)).mono ?_
  rintro _ w1 ⟨b, rfl, h1⟩
  refine ⟨_, rfl, (get102 h1 hl fun x hx => (hg.2.1 x hx).2).mono ?_⟩
  rintro _ w2 ⟨r, rfl, h2, hr, ho⟩
  refine ⟨_, _, _, rfl, (end105 h2).mono ?_⟩
  rintro _ w3 ⟨rfl, hw⟩
  subst hw
  have hrn := hr.n
  refine ⟨0, rfl, vif_f rfl ((members81 hr (by omega)).mono ?_)⟩
  rintro _ w4 ⟨rfl, hw⟩
  subst hw
  refine ⟨_, rfl, vif_f (by simpa using hg) ((clip106 hr (by omega)).mono ?_)⟩
  rintro _ w5 ⟨r', rfl, hw, hr', ho'⟩
  subst hw
  exact ⟨_, _, _, rfl, r', rfl, h2.1, hr', fun x hx => ho x (ho' x hx)⟩

theorem known115 {w : World} : Calls Tryz.prog 115 #[.int .i64 0] w fun e w' => e = .returned (.bool true) ∧ w' = w := by
  refine ret (R := fun v w' => v = .bool true ∧ w' = w) (c115 0 w ?_) (fun v w' ⟨h1, h2⟩ => ⟨by rw [h1], h2⟩)
  exact vif_t (by decide) ⟨rfl, rfl⟩

theorem fields116 {w : World} {x0 : Array Value} {b : Nat} {cs : Array Value} {ty : TypeId} (hb : Blk w b cs ty) (h2 : cs[2]? = some (.int .i64 0)) :
    Calls Tryz.prog 116 #[.agg x0, .pointer (some ⟨b, 2, none⟩)] w fun e w' => e = .returned (.tuple #[]) ∧ Ex w w' := by
  refine ret (R := fun v w' => v = .tuple #[] ∧ Ex w w') (c116 x0 _ w ?_) (fun v w' ⟨h1, h2⟩ => ⟨by rw [h1], h2⟩)
  refine vnew_mk fun w1 e1 s1 b1 => ⟨0, by rw [add_mk, (e1.blk hb).cell]; exact h2, ?_⟩
  refine vif_f rfl (vif_f rfl ⟨fun vs w' => vs = [.bool false] ∧ w' = w1, vif_f rfl (vif_f rfl ⟨by simp, rfl⟩), ?_⟩)
  rintro b20 w2 ⟨hv, rfl⟩
  simp only [List.cons.injEq, Value.bool.injEq, and_true] at hv
  subst hv
  refine vif_f rfl ⟨fun vs w' => vs = [.bool false] ∧ w' = w2, vif_f rfl (vif_f rfl ⟨by simp, rfl⟩), ?_⟩
  rintro b36 w3 ⟨hv, rfl⟩
  simp only [List.cons.injEq, Value.bool.injEq, and_true] at hv
  subst hv
  exact vif_f rfl (vif_f rfl ⟨rfl, e1⟩)

theorem Wr.ex {w0 w w' : World} {b : Nat} {bs : List UInt8} (h : Wr w0 w b bs) (e : Ex w w') : Wr w0 w' b bs := by
  obtain ⟨h1, h2, s, h3, h4, h5⟩ := h
  exact ⟨h1.trans e, h2, s, e.blk h3, Sl.ex h4 e, h5⟩

theorem nothing96 {w : World} : Calls Tryz.prog 96 #[] w fun e w' => ∃ r : SV, e = .returned (.slice r.p r.n r.c) ∧ Ex w w' ∧ Bytes w' r [0, 0, 0] ∧ ∀ x ∈ r.own, w.heap.size ≤ x := by
  refine ret (R := fun v w' => ∃ r : SV, v = .slice r.p r.n r.c ∧ Ex w w' ∧ Bytes w' r [0, 0, 0] ∧ ∀ x ∈ r.own, w.heap.size ≤ x) (c96 w ?_) (fun v w' ⟨r, h1, h2⟩ => ⟨r, by rw [h1], h2⟩)
  refine ret (c108 _ w (R := fun v w' => ∃ r : SV, v = .tuple #[.slice r.p r.n r.c, .int .i64 0] ∧ Ex w w' ∧ Bytes w' r [0, 0, 0] ∧ ∀ x ∈ r.own, w.heap.size ≤ x) ?_) ?_
  · refine vnew_mk fun w1 e1 s1 b1 => ⟨0, by rw [add_mk, add_mk, Blk.cell b1]; rfl, known115.mono ?_⟩
    rintro _ w2 ⟨rfl, hw⟩
    subst hw
    refine ⟨true, rfl, vif_f rfl (wr_new (w0 := w2) (Ex.refl _) fun b w3 h3 => ⟨0, ?_, (num84 (x := 0) h3 (by omega) (by simp)).mono ?_⟩)⟩
    · rw [add_mk, (h3.1.blk b1).cell]; rfl
    rintro _ w4 ⟨rfl, h4⟩
    refine ⟨rfl, 0, ?_, (num84 (x := 0) h4 (by omega) (by simp)).mono ?_⟩
    · rw [add_mk, (h4.1.blk b1).cell]; rfl
    rintro _ w5 ⟨rfl, h5⟩
    refine ⟨rfl, 0, ?_, ?_⟩
    · rw [add_mk, add_mk, (h5.1.blk b1).cell]; rfl
    rw [wu (by decide) (by decide)]
    refine (num84 (x := 0) h5 (by omega) (by simp)).mono ?_
    rintro _ w6 ⟨rfl, h6⟩
    rw [add_mk]
    refine ⟨rfl, (fields116 (h6.1.blk b1) rfl).mono ?_⟩
    rintro _ w7 ⟨rfl, e7⟩
    refine ⟨rfl, (bytes85 (h6.ex e7) (by simp)).mono ?_⟩
    rintro _ w8 ⟨r, rfl, h8, hr, ho⟩
    have hn := hr.n
    refine ⟨_, _, _, rfl, vif_f (by simp; simp at hn; omega) ⟨r, rfl, e1.trans h8, hr, fun x hx => Nat.le_trans e1.size (ho x hx)⟩⟩
  · rintro _ w' ⟨r, rfl, h⟩
    exact ⟨_, _, _, _, rfl, r, rfl, h⟩

end Rx
end Go.Proofs.YtkoipeddfbeliaaGreat

/-
  What lies in memory, as plain data: entries, messages, maps.
-/
namespace Go.Proofs.YtkoipeddfbeliaaGreat
namespace Rx
open Go.RowKit Md
set_option maxRecDepth 100000

/-! ### Rows of parts of one size -/
section
variable {α : Type} {f : α → List Value} {k : Nat}
theorem flat_len (hf : ∀ a, (f a).length = k) : ∀ ps : List α, (ps.flatMap f).length = ps.length * k
  | [] => by simp
  | p :: ps => by rw [List.flatMap_cons, List.length_append, hf, flat_len hf ps, List.length_cons, Nat.add_mul]; omega
theorem flat_get (hf : ∀ a, (f a).length = k) : ∀ (ps : List α) (i r : Nat), r < k → (ps.flatMap f)[i * k + r]? = (ps[i]?).bind fun p => (f p)[r]?
  | [], i, r, _ => by simp
  | p :: ps, 0, r, hr => by
    rw [List.flatMap_cons, List.getElem?_append_left (by rw [hf]; omega)]; simp
  | p :: ps, i + 1, r, hr => by
    rw [List.flatMap_cons, List.getElem?_append_right (by rw [hf, Nat.add_mul]; omega), hf, show (i + 1) * k + r - k = i * k + r by rw [Nat.add_mul]; omega, flat_get hf ps i r hr]
    simp
theorem flat_drop (hf : ∀ a, (f a).length = k) : ∀ (ps : List α) (i : Nat), (ps.flatMap f).drop (i * k) = (ps.drop i).flatMap f
  | [], i => by simp
  | p :: ps, 0 => by simp
  | p :: ps, i + 1 => by
    rw [List.flatMap_cons, List.drop_append, hf, List.drop_eq_nil_of_le (by rw [hf, Nat.add_mul]; omega), show (i + 1) * k - k = i * k by rw [Nat.add_mul]; omega, flat_drop hf ps i]
    simp
theorem flat_take (hf : ∀ a, (f a).length = k) : ∀ (ps : List α) (i : Nat), (ps.flatMap f).take (i * k) = (ps.take i).flatMap f
  | [], i => by simp
  | p :: ps, 0 => by simp
  | p :: ps, i + 1 => by
    rw [List.flatMap_cons, List.take_append, hf, List.take_of_length_le (by rw [hf, Nat.add_mul]; omega), show (i + 1) * k - k = i * k by rw [Nat.add_mul]; omega, flat_take hf ps i]
    simp
end

/-! ### Entries -/
def ec (p : Ent × SV) : List Value := [.int .u64 (p.1.index : Int), .int .u64 (p.1.term : Int), .bool p.1.conf, .slice p.2.p p.2.n p.2.c]
theorem ec_len (p : Ent × SV) : (ec p).length = 4 := rfl

/-- a row of entries; none has the index 0 -/
structure Ents (w : World) (s : SV) (l : List Ent) (ps : List (Ent × SV)) : Prop where
  fst : ps.map (·.1) = l
  sl : Sl w 47 4 s (ps.flatMap ec)
  data : ∀ p ∈ ps, Bytes w p.2 p.1.data
  pos : ∀ p ∈ ps, p.1.index ≠ 0
  al : ∀ a, s.p = some a → ∃ g, a.off = 4 * g

theorem Ents.n {w : World} {s : SV} {l : List Ent} {ps : List (Ent × SV)} (h : Ents w s l ps) : s.n = l.length := by
  have h1 := h.sl.len
  rw [flat_len ec_len] at h1
  have h2 : l.length = ps.length := by rw [← h.fst]; simp
  omega
theorem Ents.len {w : World} {s : SV} {l : List Ent} {ps : List (Ent × SV)} (h : Ents w s l ps) : ps.length = l.length := by rw [← h.fst]; simp

theorem one_ec (ps : List (Ent × SV)) : ∀ v ∈ ps.flatMap ec, isOne v = true := by
  intro v hv
  obtain ⟨p, _, hp⟩ := List.mem_flatMap.1 hv
  simp only [ec, List.mem_cons, List.not_mem_nil, or_false] at hp
  rcases hp with rfl | rfl | rfl | rfl <;> rfl

theorem Sl.keeps47 {w w' : World} {s : SV} {ps : List (Ent × SV)} (h : Sl w 47 4 s (ps.flatMap ec)) (pos : ∀ p ∈ ps, p.1.index ≠ 0) (al : ∀ a, s.p = some a → ∃ g, a.off = 4 * g) (e : Keeps w w') : Sl w' 47 4 s (ps.flatMap ec) :=
  ⟨h.len, h.cap, h.nil, fun a ha => by
    obtain ⟨h1, cs, h2, h3, h4⟩ := h.at_ a ha
    obtain ⟨cs', g1, g2, g3⟩ := e.ents _ _ h2
    obtain ⟨g, hg⟩ := al a ha
    refine ⟨h1, cs', g1, by omega, fun j v hj => ?_⟩
    have hjl := (List.getElem?_eq_some_iff.1 hj).1
    rw [flat_len ec_len] at hjl
    have hi : j / 4 < ps.length := by omega
    have hr : j % 4 < 4 := Nat.mod_lt _ (by omega)
    have h0 : (ps.flatMap ec)[j / 4 * 4 + 0]? = some (.int .u64 (ps[j / 4].1.index : Int)) := by
      rw [flat_get ec_len _ _ _ (by omega), List.getElem?_eq_getElem hi]; rfl
    have h5 := h4 _ _ h0
    have h6 := h4 j v hj
    have h7 := g3 (g + j / 4) _ (by rw [← h5]; congr 1; omega) (by exact_mod_cast pos _ (List.getElem_mem hi)) (j % 4) hr
    rw [show a.off + j = 4 * (g + j / 4) + j % 4 by omega] at h6 ⊢
    rw [h7]; exact h6⟩

theorem Ents.keeps {w w' : World} {s : SV} {l : List Ent} {ps : List (Ent × SV)} (h : Ents w s l ps) (e : Keeps w w') : Ents w' s l ps :=
  ⟨h.fst, h.sl.keeps47 h.pos h.al e, fun p hp => Sl.keeps (h.data p hp) e (.inr rfl), h.pos, h.al⟩

theorem Ents.zero (w : World) : Ents w .nil [] [] := ⟨rfl, Sl.zero _ _ _, by simp, by simp, fun a h => by simp [SV.nil] at h⟩

/-! ### Messages -/
structure MD where
  e : SV
  ms : SV
  d : SV
  data : List UInt8
  ps : List (Ent × SV)

def mv (m : Msg) (x : MD) : List Value :=
  [.int .i64 (m.kind : Int), .int .i64 (m.frm : Int), .int .i64 (m.to : Int), .int .u64 (m.term : Int), .int .u64 (m.index : Int), .int .u64 (m.logTerm : Int), .int .u64 (m.commit : Int), .bool m.yes,
    .slice x.e.p x.e.n x.e.c, .slice x.ms.p x.ms.n x.ms.c, .slice x.d.p x.d.n x.d.c]
def mc (p : Msg × MD) : List Value := mv p.1 p.2
theorem mc_len (p : Msg × MD) : (mc p).length = 11 := rfl

/-- the parts of a message that lie elsewhere -/
structure Parts (w : World) (m : Msg) (x : MD) : Prop where
  e : Ents w x.e m.ents x.ps
  ms : Ints w x.ms m.members
  d : Bytes w x.d x.data
  dn : x.data.length ≤ 1000000

theorem Parts.keeps {w w' : World} {m : Msg} {x : MD} (h : Parts w m x) (e : Keeps w w') : Parts w' m x :=
  ⟨h.e.keeps e, Sl.keeps h.ms e (.inl rfl), Sl.keeps h.d e (.inr rfl), h.dn⟩

/-- a row of messages -/
structure Msgs (w : World) (s : SV) (l : List Msg) (ps : List (Msg × MD)) : Prop where
  fst : ps.map (·.1) = l
  sl : Sl w 54 11 s (ps.flatMap mc)
  parts : ∀ p ∈ ps, Parts w p.1 p.2

theorem Msgs.n {w : World} {s : SV} {l : List Msg} {ps : List (Msg × MD)} (h : Msgs w s l ps) : s.n = l.length := by
  have h1 := h.sl.len
  rw [flat_len mc_len] at h1
  have h2 : l.length = ps.length := by rw [← h.fst]; simp
  omega
theorem one_mc (ps : List (Msg × MD)) : ∀ v ∈ ps.flatMap mc, isOne v = true := by
  intro v hv
  obtain ⟨p, _, hp⟩ := List.mem_flatMap.1 hv
  simp only [mc, mv, List.mem_cons, List.not_mem_nil, or_false] at hp
  rcases hp with rfl | rfl | rfl | rfl | rfl | rfl | rfl | rfl | rfl | rfl | rfl <;> rfl
theorem Msgs.zero (w : World) : Msgs w .nil [] [] := ⟨rfl, Sl.zero _ _ _, by simp⟩
theorem Msgs.step {w w' : World} {s : SV} {l : List Msg} {ps : List (Msg × MD)} (h : Msgs w s l ps) (e : Keeps w w') {M : List Nat} (f : Fr M w w') (hm : ∀ x ∈ s.own, x ∉ M) : Msgs w' s l ps :=
  ⟨h.fst, h.sl.fr f hm, fun p hp => (h.parts p hp).keeps e⟩

/-! ### Maps from numbers -/
/-- a map's entries in the order in which they came -/
def MapR (w : World) (b : Nat) (l : List (Nat × Value)) : Prop :=
  ∃ es clock, w.heap[b]? = some (.map es clock) ∧ es.toList.map (fun e => (e.key, e.val)) = l.map (fun p => (iv p.1, p.2)) ∧ (es.toList.map (·.born)).Nodup ∧ ∀ e ∈ es.toList, e.born < clock

theorem MapR.lt {w : World} {b : Nat} {l : List (Nat × Value)} (h : MapR w b l) : b < w.heap.size := by
  obtain ⟨es, clock, h1, _⟩ := h; exact (Array.getElem?_eq_some_iff.1 h1).1
theorem MapR.same {w w' : World} {b : Nat} {l : List (Nat × Value)} (h : MapR w b l) (e : w'.heap[b]? = w.heap[b]?) : MapR w' b l := by
  obtain ⟨es, clock, h1, h2⟩ := h; exact ⟨es, clock, e.trans h1, h2⟩
theorem MapR.fr {w w' : World} {b : Nat} {l : List (Nat × Value)} (h : MapR w b l) {M : List Nat} (f : Fr M w w') (hb : b ∉ M) : MapR w' b l := h.same (f.rest b h.lt hb)

/-- the first with a key -/
def first (l : List (Nat × Value)) (x : Nat) : Option (Nat × Value) := match l.findIdx? (·.1 == x) with
  | some i => (l[i]?).map fun p => (i, p.2)
  | none => none

theorem findNow_first (x : Nat) : ∀ (l : List (Nat × Value)) (es : List MapEntry) (k : Nat), es.map (fun e => (e.key, e.val)) = l.map (fun p => (iv p.1, p.2)) →
    Instr.findNow (.int .i64) (iv x) es k = some ((first l x).map fun p => (k + p.1, p.2))
  | [], es, k, h => by
    have : es = [] := by simpa using h
    subst this; rfl
  | p :: l, [], k, h => by simp at h
  | p :: l, e :: es, k, h => by
    simp only [List.map_cons, List.cons.injEq, Prod.mk.injEq] at h
    obtain ⟨⟨h1, h2⟩, h3⟩ := h
    have ih := findNow_first x l es (k + 1) h3
    unfold Instr.findNow
    rw [h1]
    have hs : Instr.sameNow (.int .i64) (iv x) (iv p.1) = some ((x : Int) == (p.1 : Int)) := by simp [Instr.sameNow, iv]
    rw [hs]
    by_cases hx : p.1 = x
    · have : ((x : Int) == (p.1 : Int)) = true := by simp [hx]
      rw [this]
      simp [first, List.findIdx?_cons, hx, h2]
    · have : ((x : Int) == (p.1 : Int)) = false := by simp; omega
      rw [this]
      simp only
      rw [ih]
      simp only [first, List.findIdx?_cons, beq_iff_eq, hx, if_false]
      cases l.findIdx? (fun q => q.1 == x) with
      | none => rfl
      | some i =>
        simp only [Option.map_some, List.getElem?_cons_succ]
        cases l[i]? with
        | none => rfl
        | some q => simp only [Option.map_some]; congr 3; omega

theorem MapR.find {w : World} {b : Nat} {l : List (Nat × Value)} (h : MapR w b l) (x : Nat) {Q : Nat → Array MapEntry → Nat → Prop}
    (hQ : ∀ es clock, w.heap[b]? = some (.map es clock) → es.toList.map (fun e => (e.key, e.val)) = l.map (fun p => (iv p.1, p.2)) → (es.toList.map (·.born)).Nodup → (∀ e ∈ es.toList, e.born < clock) →
      Instr.findNow (.int .i64) (iv x) es.toList 0 = some (first l x) → Q b es clock) : vmap w (some b) Q := by
  obtain ⟨es, clock, h1, h2, h3, h4⟩ := h
  have h5 := findNow_first x l es.toList 0 h2
  have h6 : (first l x).map (fun p => (0 + p.1, p.2)) = first l x := by cases first l x <;> simp
  rw [h6] at h5
  exact ⟨b, es, clock, rfl, h1, hQ es clock h1 h2 h3 h4 h5⟩

theorem first_none {l : List (Nat × Value)} {x : Nat} (h : first l x = none) : ∀ p ∈ l, p.1 ≠ x := by
  unfold first at h
  split at h
  · rename_i i hi
    have := (List.findIdx?_eq_some_iff_getElem.1 hi).1
    simp [this] at h
  · rename_i hi
    intro p hp
    have := List.findIdx?_eq_none_iff.1 hi p hp
    simpa using this
theorem first_some {l : List (Nat × Value)} {x i : Nat} {v : Value} (h : first l x = some (i, v)) : l[i]? = some (x, v) ∧ ∀ j < i, ∀ p, l[j]? = some p → p.1 ≠ x := by
  unfold first at h
  split at h
  · rename_i k hk
    obtain ⟨h1, h2, h3⟩ := List.findIdx?_eq_some_iff_getElem.1 hk
    rw [List.getElem?_eq_getElem h1] at h
    simp only [Option.map_some, Option.some.injEq, Prod.mk.injEq] at h
    obtain ⟨rfl, rfl⟩ := h
    refine ⟨?_, fun j hj p hp => ?_⟩
    · rw [List.getElem?_eq_getElem h1]
      have : l[k].1 = x := by simpa using h2
      rw [← this]
    · have hjl := (List.getElem?_eq_some_iff.1 hp).1
      have := h3 j hj
      rw [List.getElem?_eq_getElem hjl] at hp
      simp at hp
      rw [← hp]; simpa using this
  · cases h

/-- what a map holds behind an update -/
def putL (l : List (Nat × Value)) (x : Nat) (v : Value) : List (Nat × Value) := match first l x with
  | some (i, _) => l.set i (x, v)
  | none => l ++ [(x, v)]

theorem mapPut_r {w' : World} {b : Nat} {l : List (Nat × Value)} {es : Array MapEntry} {clock x : Nat} {v : Value} (h2 : es.toList.map (fun e => (e.key, e.val)) = l.map (fun p => (iv p.1, p.2)))
    (h3 : (es.toList.map (·.born)).Nodup) (h4 : ∀ e ∈ es.toList, e.born < clock) (hw : w'.heap[b]? = some (mapPut es clock (first l x) (iv x) v)) : MapR w' b (putL l x v) := by
  unfold putL
  cases hf : first l x with
  | none =>
    rw [hf] at hw
    refine ⟨_, _, hw, by simp [h2], ?_, ?_⟩
    · simp only [Array.toList_push, List.map_append, List.map_cons, List.map_nil]
      rw [List.nodup_append]
      refine ⟨h3, by simp, fun a ha c hc => ?_⟩
      simp at hc; subst hc
      obtain ⟨e, he, rfl⟩ := List.mem_map.1 ha
      have := h4 e he
      omega
    · intro e he
      simp only [Array.toList_push, List.mem_append, List.mem_singleton] at he
      rcases he with he | rfl
      · have := h4 e he; omega
      · exact Nat.lt_succ_self _
  | some p =>
    obtain ⟨i, u⟩ := p
    rw [hf] at hw
    have hb : ∀ e : MapEntry, ({ e with key := iv x, val := v } : MapEntry).born = e.born := fun _ => rfl
    have hl : (es.modify i fun e => { e with key := iv x, val := v }).toList = es.toList.modify i fun e => { e with key := iv x, val := v } := by simp
    refine ⟨_, _, hw, ?_, ?_, ?_⟩
    · rw [hl]
      apply List.ext_getElem?
      intro j
      rw [List.getElem?_map, List.getElem?_map, List.getElem?_modify, List.getElem?_set]
      have hj : (es.toList[j]?).map (fun e => (e.key, e.val)) = (l[j]?).map (fun p => (iv p.1, p.2)) := by rw [← List.getElem?_map, ← List.getElem?_map, h2]
      by_cases hij : i = j
      · subst hij
        obtain ⟨g1, _⟩ := first_some hf
        have hlt := (List.getElem?_eq_some_iff.1 g1).1
        rw [g1] at hj
        simp only [if_pos, hlt]
        cases he : es.toList[i]? with
        | none => rw [he] at hj; simp at hj
        | some e => simp
      · simp only [hij, if_false]
        cases he : es.toList[j]? with
        | none => rw [he] at hj; simpa using hj
        | some e => rw [he] at hj; simpa using hj
    · rw [hl]
      have : (es.toList.modify i fun e => { e with key := iv x, val := v }).map (·.born) = es.toList.map (·.born) := by
        apply List.ext_getElem?
        intro j
        rw [List.getElem?_map, List.getElem?_map, List.getElem?_modify]
        cases es.toList[j]? with
        | none => rfl
        | some e => by_cases hij : i = j <;> simp [hij]
      rw [this]; exact h3
    · rw [hl]
      intro e he
      obtain ⟨j, hj⟩ := List.mem_iff_getElem?.1 he
      rw [List.getElem?_modify] at hj
      cases hx : es.toList[j]? with
      | none => rw [hx] at hj; simp at hj
      | some e' =>
        rw [hx] at hj
        have := h4 e' (List.mem_of_getElem? hx)
        by_cases hij : i = j
        · simp [hij] at hj; rw [← hj]; exact this
        · simp [hij] at hj; rw [← hj]; exact this

end Rx
end Go.Proofs.YtkoipeddfbeliaaGreat

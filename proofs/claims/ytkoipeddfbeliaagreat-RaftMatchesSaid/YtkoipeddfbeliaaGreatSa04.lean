import Derived.Test.YtkoipeddfbeliaaGreatSa03
/-
  Slices.
-/
namespace Go.Proofs.YtkoipeddfbeliaaGreat
namespace Rx
open Go.RowKit
set_option maxRecDepth 100000

/-- a slice's three words -/
structure SV where
  p : Option Addr
  n : Nat
  c : Nat

def SV.v (s : SV) : Value := .slice s.p s.n s.c
def SV.nil : SV := ⟨none, 0, 0⟩

/-- the block of a slice -/
def SV.own (s : SV) : List Nat := match s.p with | some a => [a.block] | none => []

/-- a slice of elements of k cells: its cells -/
structure Sl (w : World) (ty : TypeId) (k : Nat) (s : SV) (vs : List Value) : Prop where
  len : vs.length = s.n * k
  cap : s.n ≤ s.c
  nil : s.p = none → s.n = 0 ∧ s.c = 0
  at_ : ∀ a, s.p = some a → a.spot = none ∧ ∃ cs, Blk w a.block cs ty ∧ a.off + s.c * k ≤ cs.size ∧ ∀ j v, vs[j]? = some v → cs[a.off + j]? = some v

theorem Sl.zero (w : World) (ty : TypeId) (k : Nat) : Sl w ty k .nil [] := ⟨by simp [SV.nil], Nat.le_refl _, fun _ => ⟨rfl, rfl⟩, fun a h => by simp [SV.nil] at h⟩

theorem addr_eta {a : Addr} (h : a.spot = none) : a = ⟨a.block, a.off, none⟩ := by cases a; simp at h; subst h; rfl

theorem Sl.cellsAt {w : World} {ty : TypeId} {k : Nat} {s : SV} {vs : List Value} (h : Sl w ty k s vs) {a : Addr} (ha : s.p = some a) : CellsAt w a vs := by
  obtain ⟨h1, cs, h2, h3, h4⟩ := h.at_ a ha
  intro j v hj
  rw [addr_eta h1, add_mk, h2.cell]
  exact h4 j v hj

theorem Sl.blk {w w' : World} {ty : TypeId} {k : Nat} {s : SV} {vs : List Value} (h : Sl w ty k s vs) (hb : ∀ a cs, s.p = some a → Blk w a.block cs ty → Blk w' a.block cs ty) : Sl w' ty k s vs :=
  ⟨h.len, h.cap, h.nil, fun a ha => by
    obtain ⟨h1, cs, h2, h3, h4⟩ := h.at_ a ha
    exact ⟨h1, cs, hb a cs ha h2, h3, h4⟩⟩
theorem Sl.fr {w w' : World} {ty : TypeId} {k : Nat} {s : SV} {vs : List Value} {M : List Nat} (h : Sl w ty k s vs) (f : Fr M w w') (hm : ∀ x ∈ s.own, x ∉ M) : Sl w' ty k s vs :=
  h.blk fun a cs ha hb => f.blk hb (hm _ (by simp [SV.own, ha]))
theorem Sl.ex {w w' : World} {ty : TypeId} {k : Nat} {s : SV} {vs : List Value} (h : Sl w ty k s vs) (e : Ex w w') : Sl w' ty k s vs := h.blk fun _ _ _ hb => e.blk hb
theorem Sl.keeps {w w' : World} {ty : TypeId} {k : Nat} {s : SV} {vs : List Value} (h : Sl w ty k s vs) (e : Keeps w w') (ht : ty = 3 ∨ ty = 5) : Sl w' ty k s vs := h.blk fun _ _ _ hb => e.flat _ _ _ hb ht

theorem Sl.own_lt {w : World} {ty : TypeId} {k : Nat} {s : SV} {vs : List Value} (h : Sl w ty k s vs) : ∀ x ∈ s.own, x < w.heap.size := by
  intro x hx
  unfold SV.own at hx
  split at hx
  · rename_i a ha
    obtain ⟨_, cs, h2, _⟩ := h.at_ a ha
    simp at hx; subst hx; exact h2.lt
  · simp at hx

/-- an element of a slice -/
theorem Sl.idx {w : World} {ty : TypeId} {k : Nat} {s : SV} {vs : List Value} (h : Sl w ty k s vs) {i : Int} {F : Addr → Prop} (h0 : 0 ≤ i) (hi : i < s.n)
    (hF : ∀ a cs, s.p = some a → a.spot = none → Blk w a.block cs ty → a.off + s.c * k ≤ cs.size → (∀ j v, vs[j]? = some v → cs[a.off + j]? = some v) → F a) : vidx s.p s.n i F := by
  cases ha : s.p with
  | none => have := h.nil ha; omega
  | some a =>
    obtain ⟨h1, cs, h2, h3, h4⟩ := h.at_ a ha
    exact ⟨a, rfl, h0, hi, hF a cs ha h1 h2 h3 h4⟩

/-- cutting -/
theorem vbnd_none {d y : Nat} {F : Nat → Prop} (h : F d) : vbnd none d y F := h
theorem vbnd_some {k : IntKind} {i : Int} {d y : Nat} {F : Nat → Prop} (h0 : 0 ≤ i) (h1 : i ≤ y) (h : F i.toNat) : vbnd (some (.int k i)) d y F := ⟨h0, h1, h⟩

theorem vslice_mk {size : Nat} {p : Option Addr} {n c : Nat} {lo hi mx : Option Value} {F : Option Addr → Nat → Nat → Prop} (l h m : Nat)
    (hlo : ∀ G : Nat → Prop, G l → vbnd lo 0 h G) (hhi : ∀ G : Nat → Prop, G h → vbnd hi n m G) (hmx : ∀ G : Nat → Prop, G m → vbnd mx c c G) (hs : mx = none ∨ hi ≠ none) (hmc : mx = none → m = c)
    (hF : F (if m = l then p else p.map (·.add (l * size))) (h - l) (m - l)) : vslice size p n c lo hi mx F := by
  unfold vslice
  split
  · simp at hs
  · refine hmx _ ?_
    cases hx : mx with
    | none =>
      have := hmc hx
      subst this
      refine hhi _ ?_
      exact hlo _ hF
    | some _ =>
      refine hhi _ ?_
      exact hlo _ hF

/-- the slice that a cut gives -/
def SV.cut (s : SV) (k l h m : Nat) : SV := ⟨if m = l then s.p else s.p.map (·.add (l * k)), h - l, m - l⟩

theorem Sl.cut {w : World} {ty : TypeId} {k : Nat} {s : SV} {vs : List Value} (hs : Sl w ty k s vs) {l h m : Nat} (hl : l ≤ h) (hh : h ≤ s.n) (hm : h ≤ m) (hc : m ≤ s.c) : Sl w ty k (s.cut k l h m) ((vs.drop (l * k)).take ((h - l) * k)) where
  len := by
    have h1 : (h - l) * k + l * k = h * k := by rw [← Nat.add_mul]; congr 1; omega
    have h2 : h * k ≤ s.n * k := Nat.mul_le_mul_right k hh
    simp only [List.length_take, List.length_drop, hs.len, SV.cut]; omega
  cap := by simp only [SV.cut]; omega
  nil := fun h0 => by
    have : s.p = none := by
      simp only [SV.cut] at h0
      split at h0
      · exact h0
      · simpa using h0
    have := hs.nil this
    simp only [SV.cut]; omega
  at_ := fun a ha => by
    simp only [SV.cut] at ha
    split at ha
    · rename_i hml
      obtain ⟨h1, cs, h2, h3, h4⟩ := hs.at_ a ha
      have he : h - l = 0 := by omega
      refine ⟨h1, cs, h2, ?_, fun j v hj => ?_⟩
      · have : m - l = 0 := by omega
        simp only [SV.cut, this]; simp; omega
      · simp [he] at hj
    · cases hp : s.p with
      | none => simp [hp] at ha
      | some b =>
        obtain ⟨h1, cs, h2, h3, h4⟩ := hs.at_ b hp
        rw [hp, addr_eta h1] at ha
        simp only [Option.map_some, add_mk, Option.some.injEq] at ha
        subst ha
        refine ⟨rfl, cs, h2, ?_, fun j v hj => ?_⟩
        · have hx : l * k + (m - l) * k = m * k := by rw [← Nat.add_mul]; congr 1; omega
          have : m * k ≤ s.c * k := Nat.mul_le_mul_right k hc
          simp only [SV.cut]; omega
        · rw [List.getElem?_take] at hj
          split at hj
          · rw [List.getElem?_drop] at hj
            rw [Nat.add_assoc]; exact h4 _ _ hj
          · cases hj

/-- what an append does: in place, nothing, or a new block -/
inductive Grow (w w' : World) (el k : Nat) (z : Array Value) (s r : SV) (new : List Value) : Prop
  | here (a : Addr) (cs : Array Value) (hp : s.p = some a) (hb : Blk w a.block cs el) (hw : Put w w' a.block (setMany cs.toList (a.off + s.n * k) new).toArray el) (hr : r.p = s.p) (hc : r.c = s.c) (hn : r.n ≤ s.c)
  | stay (hp : s.p = none) (hr : r.p = none) (hw : w' = w)
  | fresh (hr : r.p = some ⟨w.heap.size, 0, none⟩) (hw : Ex w w') (cs : Array Value) (hb : Blk w' w.heap.size cs el) (ht : ∀ i, r.n ≤ i → i < r.c → ∀ j, j < k → cs[i * k + j]? = z[j]?)

theorem zeroCells_get (z : Array Value) (n i : Nat) (h : i < n * z.size) : (Builtin.zeroCells z n)[i]? = z[i % z.size]? := by
  have hz : 0 < z.size := by
    rcases Nat.eq_zero_or_pos z.size with h0 | h0
    · rw [h0] at h; omega
    · exact h0
  unfold Builtin.zeroCells
  rw [Array.getElem?_map]
  have : (Array.range (n * z.size))[i]? = some i := by simp [h]
  rw [this]
  have hm := Nat.mod_lt i hz
  simp [hm]

theorem setMany_get : ∀ (vs cs : List Value) (i j : Nat), i + vs.length ≤ cs.length → (setMany cs i vs)[j]? = if i ≤ j ∧ j < i + vs.length then vs[j - i]? else cs[j]?
  | [], cs, i, j, _ => by simp [setMany]; omega
  | v :: vs, cs, i, j, h => by
    simp only [List.length_cons] at h
    rw [setMany, setMany_get vs _ _ _ (by simp; omega)]
    simp only [List.length_cons]
    by_cases h1 : i + 1 ≤ j ∧ j < i + 1 + vs.length
    · rw [if_pos h1, if_pos (by omega), show j - i = (j - (i + 1)) + 1 by omega]; simp
    · rw [if_neg h1]
      by_cases h2 : j = i
      · subst h2
        rw [if_pos (by omega)]
        simp [List.getElem?_set]; omega
      · rw [if_neg (by omega), List.getElem?_set_ne (by omega)]

theorem vappend_mk {P : Program} {el elq k y : Nat} {z : Array Value} (hz : ∀ F : Array Value → Prop, F z → vzero P el F) (hk : P.cellsOf el = k) (hy : P.bytesOf el = y) (hy0 : 0 < y) (hzs : z.size = k)
    {w : World} {s q : SV} {vs new : List Value} (hs : Sl w el k s vs) (hq : Sl w elq k q new) (ho : ∀ v ∈ new, isOne v = true) (hbd : (s.n + q.n) * y ≤ 140737488355328)
    {K : Option Addr → Nat → Nat → World → Prop} (hK : ∀ (r : SV) (w' : World), Sl w' el k r (vs ++ new) → r.n = s.n + q.n → Grow w w' el k z s r new → K r.p r.n r.c w') :
    vappend P el w s.p s.n s.c q.p q.n K := by
  refine hz _ ?_
  refine ⟨vs, new, by rw [hk, hq.len], fun a ha => hq.cellsAt ha, fun h => (hq.nil h).1, fun v hv => isOne_cell (ho v hv), ?_, ?_, ?_⟩
  · intro hc a ha
    obtain ⟨h1, cs, h2, h3, _⟩ := hs.at_ a ha
    rw [hk, addr_eta h1, add_mk]
    refine h2.room ?_
    have h4 : (s.n + q.n) * k ≤ s.c * k := Nat.mul_le_mul_right k hc
    rw [Nat.add_mul] at h4
    omega
  · intro _
    exact ⟨by rw [hy]; exact hbd, by rw [hy]; exact hy0, by rw [hk, hs.len], fun a ha => hs.cellsAt ha, fun h => (hs.nil h).1⟩
  · rintro p' n' c' w' ⟨rfl, ⟨hc, rfl, rfl, hw⟩ | ⟨hc, hc', _, rfl, hw⟩⟩
    · cases hp : s.p with
      | none =>
        obtain ⟨h1, h2⟩ := hs.nil hp
        rw [hp] at hw
        simp only at hw
        have hq0 : q.n = 0 := by omega
        have hn0 : new = [] := List.eq_nil_of_length_eq_zero (by rw [hq.len, hq0]; simp)
        subst hn0
        subst hw
        have := hK ⟨none, s.n + q.n, s.c⟩ _ ⟨by simp [hs.len, hq0], by simpa using hc, fun _ => by simp [h1, h2, hq0], fun a ha => by simp at ha⟩ rfl (.stay hp rfl rfl)
        exact this
      | some a =>
        rw [hp] at hw
        simp only [hk] at hw
        obtain ⟨h1, cs, h2, h3, h4⟩ := hs.at_ a hp
        have h5 : (s.n + q.n) * k ≤ s.c * k := Nat.mul_le_mul_right k hc
        rw [Nat.add_mul] at h5
        have hput : Put w w' a.block (setMany cs.toList (a.off + s.n * k) new).toArray el := by
          have := putCells_put (o := a.off + s.n * k) new w cs 0 h2
          rw [hw, addr_eta h1, add_mk]
          simpa using this
        have hlen : a.off + s.n * k + new.length ≤ cs.toList.length := by rw [hq.len]; simp; omega
        have := hK ⟨some a, s.n + q.n, s.c⟩ w' ⟨by rw [List.length_append, hs.len, hq.len, Nat.add_mul], hc, fun h => by simp at h, fun b hb => by
          simp at hb; subst hb
          refine ⟨h1, _, hput.blk, by simp [setMany_length]; omega, fun j v hj => ?_⟩
          rw [List.getElem?_toArray, setMany_get _ _ _ _ hlen]
          rcases Nat.lt_or_ge j vs.length with hlt | hge
          · rw [if_neg (by rw [hs.len] at hlt; omega)]
            rw [List.getElem?_append_left hlt] at hj
            simpa using h4 j v hj
          · rw [List.getElem?_append_right hge] at hj
            have hl2 : j - vs.length < new.length := (List.getElem?_eq_some_iff.1 hj).1
            rw [hs.len] at hge hj hl2
            rw [if_pos (by omega), show a.off + j - (a.off + s.n * k) = j - s.n * k by omega]
            exact hj⟩ rfl (.here a cs hp h2 hput hp.symm rfl hc)
        exact this
    · have hex : Ex w w' := by rw [hw]; exact (Ex.drew w).trans (Ex.alloc _ _)
      have hblk : Blk w' w.heap.size (vs.toArray ++ new.toArray ++ Builtin.zeroCells z (c' - (s.n + q.n))) el := by
        rw [hw]; show (w.heap.push _)[w.heap.size]? = _; simp
      have hzc : (Builtin.zeroCells z (c' - (s.n + q.n))).size = (c' - (s.n + q.n)) * k := by unfold Builtin.zeroCells; simp [hzs]
      have hcc : (s.n + q.n) * k + (c' - (s.n + q.n)) * k = c' * k := by rw [← Nat.add_mul]; congr 1; omega
      have hnk : s.n * k + q.n * k = (s.n + q.n) * k := (Nat.add_mul _ _ _).symm
      refine hK ⟨some ⟨w.heap.size, 0, none⟩, s.n + q.n, c'⟩ w' ⟨by rw [List.length_append, hs.len, hq.len, Nat.add_mul], hc', fun h => by simp at h, fun b hb => ?_⟩ rfl (.fresh rfl hex _ hblk fun i hi1 hi2 j hj => ?_)
      · simp at hb; subst hb
        refine ⟨rfl, _, hblk, by simp only [Array.size_append, hzc]; simp [hs.len, hq.len]; omega, fun j v hj => ?_⟩
        have hjl := (List.getElem?_eq_some_iff.1 hj).1
        rw [Array.getElem?_append_left (by simpa using hjl)]
        simpa using hj
      · simp only at hi1 hi2
        have e1 : (s.n + q.n) * k ≤ i * k := Nat.mul_le_mul_right k hi1
        have e2 : (i + 1) * k ≤ c' * k := Nat.mul_le_mul_right k hi2
        rw [Nat.add_mul] at e2
        rw [Array.getElem?_append_right (by simp [hs.len, hq.len]; omega)]
        have hx : i * k + j - (vs.toArray ++ new.toArray).size = (i - (s.n + q.n)) * k + j := by
          have e3 : (i - (s.n + q.n)) * k + (s.n + q.n) * k = i * k := by rw [← Nat.add_mul]; congr 1; omega
          simp [hs.len, hq.len]; omega
        rw [hx, zeroCells_get]
        · rw [hzs, Nat.mul_comm, Nat.mul_add_mod, Nat.mod_eq_of_lt hj]
        · rw [hzs]
          have e3 : (i - (s.n + q.n)) * k + (s.n + q.n) * k = i * k := by rw [← Nat.add_mul]; congr 1; omega
          omega

theorem Ex.put {w0 w w' : World} {b : Nat} {cs : Array Value} {ty : TypeId} (h : Ex w0 w) (p : Put w w' b cs ty) (hb : w0.heap.size ≤ b) : Ex w0 w' :=
  ⟨fun k o hk => by
    have hlt : k < w0.heap.size := (Array.getElem?_eq_some_iff.1 hk).1
    rw [p.rest k (by omega)]; exact h.ext k o hk, Nat.le_trans h.size (Nat.le_of_eq p.size.symm), p.os.trans h.os⟩

section
variable {w0 w w' : World} {el k : Nat} {z : Array Value} {s r : SV} {new : List Value}
theorem SV.mem_own {s : SV} {x : Nat} : x ∈ s.own ↔ ∃ a, s.p = some a ∧ a.block = x := by
  unfold SV.own; split
  · rename_i a ha; simp [ha, eq_comm]
  · rename_i ha; simp [ha]
theorem Grow.own (g : Grow w w' el k z s r new) : ∀ x ∈ r.own, x ∈ s.own ∨ w.heap.size ≤ x := by
  intro x hx
  cases g with
  | here a cs hp hb hw hr hc hn => left; rw [SV.mem_own] at hx ⊢; rwa [hr] at hx
  | stay hp hr hw => rw [SV.mem_own] at hx; simp [hr] at hx
  | fresh hr hw cs hb ht => right; rw [SV.mem_own] at hx; obtain ⟨a, ha, rfl⟩ := hx; rw [hr] at ha; cases ha; exact Nat.le_refl _
theorem Grow.ex (g : Grow w w' el k z s r new) (h : Ex w0 w) (hs : ∀ x ∈ s.own, w0.heap.size ≤ x) : Ex w0 w' ∧ ∀ x ∈ r.own, w0.heap.size ≤ x := by
  refine ⟨?_, fun x hx => (g.own x hx).elim (hs x) (fun hh => Nat.le_trans h.size hh)⟩
  cases g with
  | here a cs hp hb hw hr hc hn => exact h.put hw (hs _ (SV.mem_own.2 ⟨a, hp, rfl⟩))
  | stay hp hr hw => rw [hw]; exact h
  | fresh hr hw cs hb ht => exact h.trans hw
theorem Grow.fr (g : Grow w w' el k z s r new) : Fr s.own w w' := by
  cases g with
  | here a cs hp hb hw hr hc hn => exact hw.fr (SV.mem_own.2 ⟨a, hp, rfl⟩)
  | stay hp hr hw => rw [hw]; exact Fr.refl _ _
  | fresh hr hw cs hb ht => exact hw.fr _
theorem Grow.keeps (g : Grow w w' el k z s r new) (ht : el ≠ 3 ∧ el ≠ 5 ∧ el ≠ 47) : Keeps w w' := by
  cases g with
  | here a cs hp hb hw hr hc hn => exact hw.keeps hb ht
  | stay hp hr hw => rw [hw]; exact Keeps.refl _
  | fresh hr hw cs hb ht => exact hw.keeps
end

/-- the slice of a whole block -/
theorem Sl.of_blk {w : World} {b : Nat} {cs : Array Value} {ty k n : Nat} (h : Blk w b cs ty) (hs : cs.size = n * k) : Sl w ty k ⟨some ⟨b, 0, none⟩, n, n⟩ cs.toList :=
  ⟨by simpa using hs, Nat.le_refl _, fun h => by simp at h, fun a ha => by
    simp at ha; subst ha; exact ⟨rfl, cs, h, by simp [hs], fun j v hj => by simpa using hj⟩⟩

/-! ### The types -/
theorem vz3 (F : Array Value → Prop) : F #[.int .i64 0] = vzero Tryz.prog 3 F := by kernel_rfl
theorem vz5 (F : Array Value → Prop) : F #[.int .u8 0] = vzero Tryz.prog 5 F := by kernel_rfl
theorem vz26 (F : Array Value → Prop) : F #[.int .u64 0] = vzero Tryz.prog 26 F := by kernel_rfl
theorem vz44 (F : Array Value → Prop) : F #[.pointer none] = vzero Tryz.prog 44 F := by kernel_rfl
theorem vz47 (F : Array Value → Prop) : F #[.int .u64 0, .int .u64 0, .bool false, .slice none 0 0] = vzero Tryz.prog 47 F := by kernel_rfl
theorem vz54 (F : Array Value → Prop) : F #[.int .i64 0, .int .i64 0, .int .i64 0, .int .u64 0, .int .u64 0, .int .u64 0, .int .u64 0, .bool false, .slice none 0 0, .slice none 0 0, .slice none 0 0] = vzero Tryz.prog 54 F := by kernel_rfl
theorem vz64 (F : Array Value → Prop) : F #[.int .i64 0, .slice none 0 0, .int .i64 0, .int .i64 0] = vzero Tryz.prog 64 F := by kernel_rfl

theorem cells3 : Tryz.prog.cellsOf 3 = 1 := by kernel_rfl
theorem bytes3 : Tryz.prog.bytesOf 3 = 8 := by kernel_rfl
theorem cells5 : Tryz.prog.cellsOf 5 = 1 := by kernel_rfl
theorem bytes5 : Tryz.prog.bytesOf 5 = 1 := by kernel_rfl
theorem cells26 : Tryz.prog.cellsOf 26 = 1 := by kernel_rfl
theorem bytes26 : Tryz.prog.bytesOf 26 = 8 := by kernel_rfl
theorem cells44 : Tryz.prog.cellsOf 44 = 1 := by kernel_rfl
theorem bytes44 : Tryz.prog.bytesOf 44 = 8 := by kernel_rfl
theorem cells47 : Tryz.prog.cellsOf 47 = 4 := by kernel_rfl
theorem bytes47 : Tryz.prog.bytesOf 47 = 48 := by kernel_rfl
theorem cells54 : Tryz.prog.cellsOf 54 = 11 := by kernel_rfl
theorem bytes54 : Tryz.prog.bytesOf 54 = 136 := by kernel_rfl
theorem cells64 : Tryz.prog.cellsOf 64 = 4 := by kernel_rfl
theorem bytes64 : Tryz.prog.bytesOf 64 = 48 := by kernel_rfl

section
variable {w : World} {s q : SV} {vs new : List Value} {K : Option Addr → Nat → Nat → World → Prop}
theorem app3 (hs : Sl w 3 1 s vs) (hq : Sl w 3 1 q new) (ho : ∀ v ∈ new, isOne v = true) (hbd : s.n + q.n ≤ 1000000000)
    (hK : ∀ (r : SV) (w' : World), Sl w' 3 1 r (vs ++ new) → r.n = s.n + q.n → Grow w w' 3 1 #[.int .i64 0] s r new → K r.p r.n r.c w') : vappend Tryz.prog 3 w s.p s.n s.c q.p q.n K :=
  vappend_mk (fun F h => (vz3 F).mp h) cells3 bytes3 (by decide) rfl hs hq ho (by omega) hK
theorem app5 (hs : Sl w 5 1 s vs) (hq : Sl w 5 1 q new) (ho : ∀ v ∈ new, isOne v = true) (hbd : s.n + q.n ≤ 1000000000)
    (hK : ∀ (r : SV) (w' : World), Sl w' 5 1 r (vs ++ new) → r.n = s.n + q.n → Grow w w' 5 1 #[.int .u8 0] s r new → K r.p r.n r.c w') : vappend Tryz.prog 5 w s.p s.n s.c q.p q.n K :=
  vappend_mk (fun F h => (vz5 F).mp h) cells5 bytes5 (by decide) rfl hs hq ho (by omega) hK
theorem app26 (hs : Sl w 26 1 s vs) (hq : Sl w 26 1 q new) (ho : ∀ v ∈ new, isOne v = true) (hbd : s.n + q.n ≤ 1000000000)
    (hK : ∀ (r : SV) (w' : World), Sl w' 26 1 r (vs ++ new) → r.n = s.n + q.n → Grow w w' 26 1 #[.int .u64 0] s r new → K r.p r.n r.c w') : vappend Tryz.prog 26 w s.p s.n s.c q.p q.n K :=
  vappend_mk (fun F h => (vz26 F).mp h) cells26 bytes26 (by decide) rfl hs hq ho (by omega) hK
theorem app44 (hs : Sl w 44 1 s vs) (hq : Sl w 44 1 q new) (ho : ∀ v ∈ new, isOne v = true) (hbd : s.n + q.n ≤ 1000000000)
    (hK : ∀ (r : SV) (w' : World), Sl w' 44 1 r (vs ++ new) → r.n = s.n + q.n → Grow w w' 44 1 #[.pointer none] s r new → K r.p r.n r.c w') : vappend Tryz.prog 44 w s.p s.n s.c q.p q.n K :=
  vappend_mk (fun F h => (vz44 F).mp h) cells44 bytes44 (by decide) rfl hs hq ho (by omega) hK
theorem app47 (hs : Sl w 47 4 s vs) (hq : Sl w 47 4 q new) (ho : ∀ v ∈ new, isOne v = true) (hbd : s.n + q.n ≤ 1000000000)
    (hK : ∀ (r : SV) (w' : World), Sl w' 47 4 r (vs ++ new) → r.n = s.n + q.n → Grow w w' 47 4 #[.int .u64 0, .int .u64 0, .bool false, .slice none 0 0] s r new → K r.p r.n r.c w') : vappend Tryz.prog 47 w s.p s.n s.c q.p q.n K :=
  vappend_mk (fun F h => (vz47 F).mp h) cells47 bytes47 (by decide) rfl hs hq ho (by omega) hK
theorem app54 (hs : Sl w 54 11 s vs) (hq : Sl w 54 11 q new) (ho : ∀ v ∈ new, isOne v = true) (hbd : s.n + q.n ≤ 1000000000)
    (hK : ∀ (r : SV) (w' : World), Sl w' 54 11 r (vs ++ new) → r.n = s.n + q.n →
      Grow w w' 54 11 #[.int .i64 0, .int .i64 0, .int .i64 0, .int .u64 0, .int .u64 0, .int .u64 0, .int .u64 0, .bool false, .slice none 0 0, .slice none 0 0, .slice none 0 0] s r new → K r.p r.n r.c w') : vappend Tryz.prog 54 w s.p s.n s.c q.p q.n K :=
  vappend_mk (fun F h => (vz54 F).mp h) cells54 bytes54 (by decide) rfl hs hq ho (by omega) hK
theorem app64 (hs : Sl w 64 4 s vs) (hq : Sl w 64 4 q new) (ho : ∀ v ∈ new, isOne v = true) (hbd : s.n + q.n ≤ 1000000000)
    (hK : ∀ (r : SV) (w' : World), Sl w' 64 4 r (vs ++ new) → r.n = s.n + q.n → Grow w w' 64 4 #[.int .i64 0, .slice none 0 0, .int .i64 0, .int .i64 0] s r new → K r.p r.n r.c w') : vappend Tryz.prog 64 w s.p s.n s.c q.p q.n K :=
  vappend_mk (fun F h => (vz64 F).mp h) cells64 bytes64 (by decide) rfl hs hq ho (by omega) hK
end

end Rx
end Go.Proofs.YtkoipeddfbeliaaGreat

/-
  PRINTED BY wip/gen.py: what the functions ask and do, one by one.
-/
namespace Go.Proofs.YtkoipeddfbeliaaGreat
namespace Rx
open Go.RowKit
set_option maxRecDepth 100000
set_option linter.unusedVariables false

/-- slices.Clone[[]int,int] -/
def F47 (x0 : Option Addr) (x0n x0c : Nat) (w : World) (R : Value → World → Prop) : Prop :=
 vif (x0.isNone)
 (R (.slice Option.none 0 0) w)
 ((#[.int .i64 0] : Array Value).size = 1 ∧ vnew w (.cells #[] 3) fun a1 w2 => vappend Tryz.prog 3 w2 (some a1) 0 0 x0 x0n fun s3 s3n s3c w4 => R (.slice s3 s3n s3c) w4)

def A47 : Ann := .seq (.leaf) (.seq (.seq (.leaf) (.two (.seq (.leaf) (.leaf)) (.leaf))) (.seq (.leaf) (.leaf)))

theorem e47 (x0 : Option Addr) (x0n x0c : Nat) (w : World) (R : Value → World → Prop) : F47 x0 x0n x0c w R = vfun Tryz.prog Tryz.f47 A47 [.slice x0 x0n x0c] w R := by kernel_rfl
theorem c47 (x0 : Option Addr) (x0n x0c : Nat) (w : World) {R : Value → World → Prop} (h : F47 x0 x0n x0c w R) : Calls Tryz.prog 47 #[.slice x0 x0n x0c] w fun e w' => ∃ v, e = .returned v ∧ R v w' :=
  calls_of_vfun (an := A47) mixed Tryz.func47 (by kernel_rfl) (by kernel_rfl) ((e47 x0 x0n x0c w R).mp h)

/-- slices.Clone[[]byte,byte] -/
def F56 (x0 : Option Addr) (x0n x0c : Nat) (w : World) (R : Value → World → Prop) : Prop :=
 vif (x0.isNone)
 (R (.slice Option.none 0 0) w)
 ((#[.int .u8 0] : Array Value).size = 1 ∧ vnew w (.cells #[] 5) fun a1 w2 => vappend Tryz.prog 5 w2 (some a1) 0 0 x0 x0n fun s3 s3n s3c w4 => R (.slice s3 s3n s3c) w4)

def A56 : Ann := .seq (.leaf) (.seq (.seq (.leaf) (.two (.seq (.leaf) (.leaf)) (.leaf))) (.seq (.leaf) (.leaf)))

theorem e56 (x0 : Option Addr) (x0n x0c : Nat) (w : World) (R : Value → World → Prop) : F56 x0 x0n x0c w R = vfun Tryz.prog Tryz.f56 A56 [.slice x0 x0n x0c] w R := by kernel_rfl
theorem c56 (x0 : Option Addr) (x0n x0c : Nat) (w : World) {R : Value → World → Prop} (h : F56 x0 x0n x0c w R) : Calls Tryz.prog 56 #[.slice x0 x0n x0c] w fun e w' => ∃ v, e = .returned v ∧ R v w' :=
  calls_of_vfun (an := A56) mixed Tryz.func56 (by kernel_rfl) (by kernel_rfl) ((e56 x0 x0n x0c w R).mp h)

/-- slices.Contains[[]int,int] -/
def F59 (x0 : Option Addr) (x0n x0c : Nat) (x1 : Int) (w : World) (R : Value → World → Prop) : Prop :=
 Calls Tryz.prog 89 #[.slice x0 x0n x0c, .int .i64 (x1)] w fun e1 w2 => ∃ (i3 : Int), e1 = .returned (.int .i64 (i3)) ∧ R (.bool (decide ((i3 : Int) ≥ 0))) w2

def A59 : Ann := .seq (.leaf) (.seq (.leaf) (.leaf))

theorem e59 (x0 : Option Addr) (x0n x0c : Nat) (x1 : Int) (w : World) (R : Value → World → Prop) : F59 x0 x0n x0c x1 w R = vfun Tryz.prog Tryz.f59 A59 [.slice x0 x0n x0c, .int .i64 (x1)] w R := by kernel_rfl
theorem c59 (x0 : Option Addr) (x0n x0c : Nat) (x1 : Int) (w : World) {R : Value → World → Prop} (h : F59 x0 x0n x0c x1 w R) : Calls Tryz.prog 59 #[.slice x0 x0n x0c, .int .i64 (x1)] w fun e w' => ∃ v, e = .returned v ∧ R v w' :=
  calls_of_vfun (an := A59) mixed Tryz.func59 (by kernel_rfl) (by kernel_rfl) ((e59 x0 x0n x0c x1 w R).mp h)

/-- slices.ContainsFunc[[]compline/api.Entry,compline/api.Entry] -/
def F63 (x0 : Option Addr) (x0n x0c : Nat) (x1 : Value) (w : World) (R : Value → World → Prop) : Prop :=
 Calls Tryz.prog 91 #[.slice x0 x0n x0c, x1] w fun e1 w2 => ∃ (i3 : Int), e1 = .returned (.int .i64 (i3)) ∧ R (.bool (decide ((i3 : Int) ≥ 0))) w2

def A63 : Ann := .seq (.leaf) (.seq (.leaf) (.leaf))

theorem e63 (x0 : Option Addr) (x0n x0c : Nat) (x1 : Value) (w : World) (R : Value → World → Prop) : F63 x0 x0n x0c x1 w R = vfun Tryz.prog Tryz.f63 A63 [.slice x0 x0n x0c, x1] w R := by kernel_rfl
theorem c63 (x0 : Option Addr) (x0n x0c : Nat) (x1 : Value) (w : World) {R : Value → World → Prop} (h : F63 x0 x0n x0c x1 w R) : Calls Tryz.prog 63 #[.slice x0 x0n x0c, x1] w fun e w' => ∃ v, e = .returned v ∧ R v w' :=
  calls_of_vfun (an := A63) mixed Tryz.func63 (by kernel_rfl) (by kernel_rfl) ((e63 x0 x0n x0c x1 w R).mp h)

/-- slices.Clone[[]compline/api.Entry,compline/api.Entry] -/
def F86 (x0 : Option Addr) (x0n x0c : Nat) (w : World) (R : Value → World → Prop) : Prop :=
 vif (x0.isNone)
 (R (.slice Option.none 0 0) w)
 ((#[.int .u64 0, .int .u64 0, .bool false, .slice Option.none 0 0] : Array Value).size = 4 ∧ vnew w (.cells #[] 47) fun a1 w2 => vappend Tryz.prog 47 w2 (some a1) 0 0 x0 x0n fun s3 s3n s3c w4 => R (.slice s3 s3n s3c) w4)

def A86 : Ann := .seq (.leaf) (.seq (.seq (.leaf) (.two (.seq (.leaf) (.leaf)) (.leaf))) (.seq (.leaf) (.leaf)))

theorem e86 (x0 : Option Addr) (x0n x0c : Nat) (w : World) (R : Value → World → Prop) : F86 x0 x0n x0c w R = vfun Tryz.prog Tryz.f86 A86 [.slice x0 x0n x0c] w R := by kernel_rfl
theorem c86 (x0 : Option Addr) (x0n x0c : Nat) (w : World) {R : Value → World → Prop} (h : F86 x0 x0n x0c w R) : Calls Tryz.prog 86 #[.slice x0 x0n x0c] w fun e w' => ∃ v, e = .returned v ∧ R v w' :=
  calls_of_vfun (an := A86) mixed Tryz.func86 (by kernel_rfl) (by kernel_rfl) ((e86 x0 x0n x0c w R).mp h)

/-- slices.DeleteFunc[[]int,int] -/
def F87 (x0 : Option Addr) (x0n x0c : Nat) (x1 : Value) (w : World) (R : Value → World → Prop) : Prop :=
 Calls Tryz.prog 107 #[.slice x0 x0n x0c, x1] w fun e1 w2 => ∃ (i3 : Int), e1 = .returned (.int .i64 (i3)) ∧ vif ((i3 : Int) == (-1))
 (R (.slice x0 x0n x0c) w2)
 (∃ (I4 : List Value → World → Prop) (μ5 : List Value → World → Nat), (I4 [.int .i64 (i3), .int .i64 (IntKind.i64.wrap (i3 + 1))] w2)
 ∧ (∀ (i6 : Int), ∀ (i7 : Int), ∀ w8, I4 [.int .i64 (i6), .int .i64 (i7)] w8 → vif (decide ((i7 : Int) < (x0n : Nat)))
 (vidx x0 x0n i7 fun a9 => ∃ (i10 : Int), w8.cell? (a9.add ((i7 : Int).toNat * 1)) = some (.int .i64 (i10)) ∧ vcallv Tryz.prog x1 [.int .i64 (i10)] w8 fun e11 w12 => ∃ (b13 : Bool), e11 = .returned (.bool (b13)) ∧ vif (!b13)
 (vidx x0 x0n i6 fun a14 => vstore1 w12 (a14.add ((i6 : Int).toNat * 1)) (.int .i64 (i10)) fun w15 => I4 [.int .i64 (IntKind.i64.wrap (i6 + 1)), .int .i64 (IntKind.i64.wrap (i7 + 1))] w15 ∧ μ5 [.int .i64 (IntKind.i64.wrap (i6 + 1)), .int .i64 (IntKind.i64.wrap (i7 + 1))] w15 < μ5 [.int .i64 (i6), .int .i64 (i7)] w8)
 (I4 [.int .i64 (i6), .int .i64 (IntKind.i64.wrap (i7 + 1))] w12 ∧ μ5 [.int .i64 (i6), .int .i64 (IntKind.i64.wrap (i7 + 1))] w12 < μ5 [.int .i64 (i6), .int .i64 (i7)] w8))
 (vslice 1 x0 x0n x0c (some (.int .i64 (i6))) none none fun s16 s16n s16c => vclear Tryz.prog 3 w8 s16 s16n fun w17 => vslice 1 x0 x0n x0c none (some (.int .i64 (i6))) none fun s18 s18n s18c => R (.slice s18 s18n s18c) w17)))

def A87 : Ann := .seq (.leaf) (.seq (.leaf) (.seq (.seq (.leaf) (.two (.seq (.leaf) (.leaf)) (.leaf))) (.seq (.seq (.leaf) (.one (.loop [(5, .int .i64), (6, .int .i64)] (.seq (.seq (.leaf) (.two (.leaf) (.leaf))) (.seq (.one (.seq (.leaf) (.seq (.leaf) (.two (.seq (.leaf) (.leaf)) (.leaf))))) (.leaf)))))) (.seq (.leaf) (.seq (.leaf) (.leaf))))))

theorem e87 (x0 : Option Addr) (x0n x0c : Nat) (x1 : Value) (w : World) (R : Value → World → Prop) : F87 x0 x0n x0c x1 w R = vfun Tryz.prog Tryz.f87 A87 [.slice x0 x0n x0c, x1] w R := by kernel_rfl
theorem c87 (x0 : Option Addr) (x0n x0c : Nat) (x1 : Value) (w : World) {R : Value → World → Prop} (h : F87 x0 x0n x0c x1 w R) : Calls Tryz.prog 87 #[.slice x0 x0n x0c, x1] w fun e w' => ∃ v, e = .returned v ∧ R v w' :=
  calls_of_vfun (an := A87) mixed Tryz.func87 (by kernel_rfl) (by kernel_rfl) ((e87 x0 x0n x0c x1 w R).mp h)

/-- slices.Index[[]int,int] -/
def F89 (x0 : Option Addr) (x0n x0c : Nat) (x1 : Int) (w : World) (R : Value → World → Prop) : Prop :=
 ∃ (I1 : List Value → World → Prop) (μ2 : List Value → World → Nat), (I1 [.int .i64 0] w)
 ∧ (∀ (i3 : Int), ∀ w4, I1 [.int .i64 (i3)] w4 → vif (decide ((i3 : Int) < (x0n : Nat)))
 (vidx x0 x0n i3 fun a5 => ∃ (i6 : Int), w4.cell? (a5.add ((i3 : Int).toNat * 1)) = some (.int .i64 (i6)) ∧ vif ((x1 : Int) == i6)
 (R (.int .i64 (i3)) w4)
 (I1 [.int .i64 (IntKind.i64.wrap (i3 + 1))] w4 ∧ μ2 [.int .i64 (IntKind.i64.wrap (i3 + 1))] w4 < μ2 [.int .i64 (i3)] w4))
 (R (.int .i64 ((-1))) w4))

def A89 : Ann := .seq (.leaf) (.seq (.seq (.leaf) (.one (.loop [(8, .int .i64)] (.seq (.leaf) (.seq (.two (.leaf) (.leaf)) (.seq (.one (.seq (.leaf) (.seq (.leaf) (.two (.seq (.leaf) (.leaf)) (.leaf))))) (.leaf))))))) (.seq (.leaf) (.leaf)))

theorem e89 (x0 : Option Addr) (x0n x0c : Nat) (x1 : Int) (w : World) (R : Value → World → Prop) : F89 x0 x0n x0c x1 w R = vfun Tryz.prog Tryz.f89 A89 [.slice x0 x0n x0c, .int .i64 (x1)] w R := by kernel_rfl
theorem c89 (x0 : Option Addr) (x0n x0c : Nat) (x1 : Int) (w : World) {R : Value → World → Prop} (h : F89 x0 x0n x0c x1 w R) : Calls Tryz.prog 89 #[.slice x0 x0n x0c, .int .i64 (x1)] w fun e w' => ∃ v, e = .returned v ∧ R v w' :=
  calls_of_vfun (an := A89) mixed Tryz.func89 (by kernel_rfl) (by kernel_rfl) ((e89 x0 x0n x0c x1 w R).mp h)

/-- slices.IndexFunc[[]compline/api.Entry,compline/api.Entry] -/
def F91 (x0 : Option Addr) (x0n x0c : Nat) (x1 : Value) (w : World) (R : Value → World → Prop) : Prop :=
 ∃ (I1 : List Value → World → Prop) (μ2 : List Value → World → Nat), (I1 [.int .i64 0] w)
 ∧ (∀ (i3 : Int), ∀ w4, I1 [.int .i64 (i3)] w4 → vif (decide ((i3 : Int) < (x0n : Nat)))
 (vidx x0 x0n i3 fun a5 => vcells 4 w4 (a5.add ((i3 : Int).toNat * 4)) fun g6 => vcallv Tryz.prog x1 [.agg g6] w4 fun e7 w8 => ∃ (b9 : Bool), e7 = .returned (.bool (b9)) ∧ vif (b9)
 (R (.int .i64 (i3)) w8)
 (I1 [.int .i64 (IntKind.i64.wrap (i3 + 1))] w8 ∧ μ2 [.int .i64 (IntKind.i64.wrap (i3 + 1))] w8 < μ2 [.int .i64 (i3)] w4))
 (R (.int .i64 ((-1))) w4))

def A91 : Ann := .seq (.leaf) (.seq (.seq (.leaf) (.one (.loop [(8, .int .i64)] (.seq (.leaf) (.seq (.two (.leaf) (.leaf)) (.seq (.one (.seq (.leaf) (.seq (.leaf) (.two (.seq (.leaf) (.leaf)) (.leaf))))) (.leaf))))))) (.seq (.leaf) (.leaf)))

theorem e91 (x0 : Option Addr) (x0n x0c : Nat) (x1 : Value) (w : World) (R : Value → World → Prop) : F91 x0 x0n x0c x1 w R = vfun Tryz.prog Tryz.f91 A91 [.slice x0 x0n x0c, x1] w R := by kernel_rfl
theorem c91 (x0 : Option Addr) (x0n x0c : Nat) (x1 : Value) (w : World) {R : Value → World → Prop} (h : F91 x0 x0n x0c x1 w R) : Calls Tryz.prog 91 #[.slice x0 x0n x0c, x1] w fun e w' => ∃ v, e = .returned v ∧ R v w' :=
  calls_of_vfun (an := A91) mixed Tryz.func91 (by kernel_rfl) (by kernel_rfl) ((e91 x0 x0n x0c x1 w R).mp h)

/-- slices.Clip[[]int,int] -/
def F106 (x0 : Option Addr) (x0n x0c : Nat) (w : World) (R : Value → World → Prop) : Prop :=
 vslice 1 x0 x0n x0c none (some (.int .i64 ((x0n : Nat)))) (some (.int .i64 ((x0n : Nat)))) fun s1 s1n s1c => R (.slice s1 s1n s1c) w

def A106 : Ann := .seq (.leaf) (.seq (.leaf) (.leaf))

theorem e106 (x0 : Option Addr) (x0n x0c : Nat) (w : World) (R : Value → World → Prop) : F106 x0 x0n x0c w R = vfun Tryz.prog Tryz.f106 A106 [.slice x0 x0n x0c] w R := by kernel_rfl
theorem c106 (x0 : Option Addr) (x0n x0c : Nat) (w : World) {R : Value → World → Prop} (h : F106 x0 x0n x0c w R) : Calls Tryz.prog 106 #[.slice x0 x0n x0c] w fun e w' => ∃ v, e = .returned v ∧ R v w' :=
  calls_of_vfun (an := A106) mixed Tryz.func106 (by kernel_rfl) (by kernel_rfl) ((e106 x0 x0n x0c w R).mp h)

/-- slices.IndexFunc[[]int,int] -/
def F107 (x0 : Option Addr) (x0n x0c : Nat) (x1 : Value) (w : World) (R : Value → World → Prop) : Prop :=
 ∃ (I1 : List Value → World → Prop) (μ2 : List Value → World → Nat), (I1 [.int .i64 0] w)
 ∧ (∀ (i3 : Int), ∀ w4, I1 [.int .i64 (i3)] w4 → vif (decide ((i3 : Int) < (x0n : Nat)))
 (vidx x0 x0n i3 fun a5 => ∃ (i6 : Int), w4.cell? (a5.add ((i3 : Int).toNat * 1)) = some (.int .i64 (i6)) ∧ vcallv Tryz.prog x1 [.int .i64 (i6)] w4 fun e7 w8 => ∃ (b9 : Bool), e7 = .returned (.bool (b9)) ∧ vif (b9)
 (R (.int .i64 (i3)) w8)
 (I1 [.int .i64 (IntKind.i64.wrap (i3 + 1))] w8 ∧ μ2 [.int .i64 (IntKind.i64.wrap (i3 + 1))] w8 < μ2 [.int .i64 (i3)] w4))
 (R (.int .i64 ((-1))) w4))

def A107 : Ann := .seq (.leaf) (.seq (.seq (.leaf) (.one (.loop [(8, .int .i64)] (.seq (.leaf) (.seq (.two (.leaf) (.leaf)) (.seq (.one (.seq (.leaf) (.seq (.leaf) (.two (.seq (.leaf) (.leaf)) (.leaf))))) (.leaf))))))) (.seq (.leaf) (.leaf)))

theorem e107 (x0 : Option Addr) (x0n x0c : Nat) (x1 : Value) (w : World) (R : Value → World → Prop) : F107 x0 x0n x0c x1 w R = vfun Tryz.prog Tryz.f107 A107 [.slice x0 x0n x0c, x1] w R := by kernel_rfl
theorem c107 (x0 : Option Addr) (x0n x0c : Nat) (x1 : Value) (w : World) {R : Value → World → Prop} (h : F107 x0 x0n x0c x1 w R) : Calls Tryz.prog 107 #[.slice x0 x0n x0c, x1] w fun e w' => ∃ v, e = .returned v ∧ R v w' :=
  calls_of_vfun (an := A107) mixed Tryz.func107 (by kernel_rfl) (by kernel_rfl) ((e107 x0 x0n x0c x1 w R).mp h)

/-- slices.Sort[[]uint64,uint64] -/
def F109 (x0 : Option Addr) (x0n x0c : Nat) (w : World) (R : Value → World → Prop) : Prop :=
 Calls Tryz.prog 118 #[.int .u64 (IntKind.u64.wrap (x0n : Nat))] w fun e1 w2 => ∃ (i3 : Int), e1 = .returned (.int .i64 (i3)) ∧ Calls Tryz.prog 117 #[.slice x0 x0n x0c, .int .i64 0, .int .i64 ((x0n : Nat)), .int .i64 (i3)] w2 fun e4 w5 => e4 = .returned (.tuple #[]) ∧ R (.tuple #[]) w5

def A109 : Ann := .seq (.leaf) (.leaf)

theorem e109 (x0 : Option Addr) (x0n x0c : Nat) (w : World) (R : Value → World → Prop) : F109 x0 x0n x0c w R = vfun Tryz.prog Tryz.f109 A109 [.slice x0 x0n x0c] w R := by kernel_rfl
theorem c109 (x0 : Option Addr) (x0n x0c : Nat) (w : World) {R : Value → World → Prop} (h : F109 x0 x0n x0c w R) : Calls Tryz.prog 109 #[.slice x0 x0n x0c] w fun e w' => ∃ v, e = .returned v ∧ R v w' :=
  calls_of_vfun (an := A109) mixed Tryz.func109 (by kernel_rfl) (by kernel_rfl) ((e109 x0 x0n x0c w R).mp h)

/-- slices.pdqsortOrdered[uint64] -/
def F117 (x0 : Option Addr) (x0n x0c : Nat) (x1 : Int) (x2 : Int) (x3 : Int) (w : World) (R : Value → World → Prop) : Prop :=
 ∃ (I1 : List Value → World → Prop) (μ2 : List Value → World → Nat), (I1 [.int .i64 (x1), .int .i64 (x2), .int .i64 (x3), .bool true, .bool true] w)
 ∧ (∀ (i3 : Int), ∀ (i4 : Int), ∀ (i5 : Int), ∀ (b6 : Bool), ∀ (b7 : Bool), ∀ w8, I1 [.int .i64 (i3), .int .i64 (i4), .int .i64 (i5), .bool (b6), .bool (b7)] w8 → vif (decide (((IntKind.i64.wrap (i4 - i3)) : Int) ≤ 12))
 (Calls Tryz.prog 124 #[.slice x0 x0n x0c, .int .i64 (i3), .int .i64 (i4)] w8 fun e9 w10 => e9 = .returned (.tuple #[]) ∧ R (.tuple #[]) w10)
 (vif ((i5 : Int) == 0)
 (Calls Tryz.prog 125 #[.slice x0 x0n x0c, .int .i64 (i3), .int .i64 (i4)] w8 fun e11 w12 => e11 = .returned (.tuple #[]) ∧ R (.tuple #[]) w12)
 (∃ J13 : List Value → World → Prop, (vif (!b6)
 (Calls Tryz.prog 126 #[.slice x0 x0n x0c, .int .i64 (i3), .int .i64 (i4)] w8 fun e14 w15 => e14 = .returned (.tuple #[]) ∧ J13 [.int .i64 (IntKind.i64.wrap (i5 - 1))] w15)
 (J13 [.int .i64 (i5)] w8))
 ∧ (∀ (i16 : Int), ∀ w17, J13 [.int .i64 (i16)] w17 → Calls Tryz.prog 127 #[.slice x0 x0n x0c, .int .i64 (i3), .int .i64 (i4)] w17 fun e18 w19 => ∃ (i20 : Int), ∃ (i21 : Int), e18 = .returned (.tuple #[.int .i64 (i20), .int .i64 (i21)]) ∧ ∃ J22 : List Value → World → Prop, (vif ((i21 : Int) == 2)
 (Calls Tryz.prog 128 #[.slice x0 x0n x0c, .int .i64 (i3), .int .i64 (i4)] w19 fun e23 w24 => e23 = .returned (.tuple #[]) ∧ J22 [.int .i64 (IntKind.i64.wrap ((IntKind.i64.wrap (i4 - 1)) - (IntKind.i64.wrap (i20 - i3)))), .int .i64 1] w24)
 (J22 [.int .i64 (i20), .int .i64 (i21)] w19))
 ∧ (∀ (i25 : Int), ∀ (i26 : Int), ∀ w27, J22 [.int .i64 (i25), .int .i64 (i26)] w27 → ∃ J28 : List Value → World → Prop, (vif (b6)
 (vif (b7)
 (vif ((i26 : Int) == 1)
 (Calls Tryz.prog 129 #[.slice x0 x0n x0c, .int .i64 (i3), .int .i64 (i4)] w27 fun e29 w30 => ∃ (b31 : Bool), e29 = .returned (.bool (b31)) ∧ vif (b31)
 (R (.tuple #[]) w30)
 (J28 [] w30))
 (J28 [] w27))
 (J28 [] w27))
 (J28 [] w27))
 ∧ (∀ w32, J28 [] w32 → ∃ J33 : List Value → World → Prop, (vdraw w32 fun w34 => vif (decide ((i3 : Int) > 0))
 (vidx x0 x0n (IntKind.i64.wrap (i3 - 1)) fun a35 => vidx x0 x0n i25 fun a36 => ∃ (i37 : Int), w34.cell? (a35.add ((IntKind.i64.wrap (i3 - 1) : Int).toNat * 1)) = some (.int .u64 (i37)) ∧ ∃ (i38 : Int), w34.cell? (a36.add ((i25 : Int).toNat * 1)) = some (.int .u64 (i38)) ∧ Calls Tryz.prog 130 #[.int .u64 (i37), .int .u64 (i38)] w34 fun e39 w40 => ∃ (b41 : Bool), e39 = .returned (.bool (b41)) ∧ vif (!b41)
 (Calls Tryz.prog 131 #[.slice x0 x0n x0c, .int .i64 (i3), .int .i64 (i4), .int .i64 (i25)] w40 fun e42 w43 => ∃ (i44 : Int), e42 = .returned (.int .i64 (i44)) ∧ I1 [.int .i64 (i44), .int .i64 (i4), .int .i64 (i16), .bool (b6), .bool (b7)] w43 ∧ μ2 [.int .i64 (i44), .int .i64 (i4), .int .i64 (i16), .bool (b6), .bool (b7)] w43 < μ2 [.int .i64 (i3), .int .i64 (i4), .int .i64 (i5), .bool (b6), .bool (b7)] w8)
 (J33 [.int .i64 (i3)] w40))
 (J33 [.int .i64 (i3)] w34))
 ∧ (∀ (i45 : Int), ∀ w46, J33 [.int .i64 (i45)] w46 → Calls Tryz.prog 132 #[.slice x0 x0n x0c, .int .i64 (i45), .int .i64 (i4), .int .i64 (i25)] w46 fun e47 w48 => ∃ (i49 : Int), ∃ (b50 : Bool), e47 = .returned (.tuple #[.int .i64 (i49), .bool (b50)]) ∧ vnz 8 (vif (decide (((IntKind.i64.wrap (i49 - i45)) : Int) < (IntKind.i64.wrap (i4 - i49))))
 (Calls Tryz.prog 117 #[.slice x0 x0n x0c, .int .i64 (i45), .int .i64 (i49), .int .i64 (i16)] w48 fun e51 w52 => e51 = .returned (.tuple #[]) ∧ I1 [.int .i64 (IntKind.i64.wrap (i49 + 1)), .int .i64 (i4), .int .i64 (i16), .bool (decide (((IntKind.i64.wrap (i49 - i45)) : Int) ≥ (IntKind.i64.wrap (((IntKind.i64.wrap (i4 - i3)) : Int).tdiv 8)))), .bool (b50)] w52 ∧ μ2 [.int .i64 (IntKind.i64.wrap (i49 + 1)), .int .i64 (i4), .int .i64 (i16), .bool (decide (((IntKind.i64.wrap (i49 - i45)) : Int) ≥ (IntKind.i64.wrap (((IntKind.i64.wrap (i4 - i3)) : Int).tdiv 8)))), .bool (b50)] w52 < μ2 [.int .i64 (i3), .int .i64 (i4), .int .i64 (i5), .bool (b6), .bool (b7)] w8)
 (Calls Tryz.prog 117 #[.slice x0 x0n x0c, .int .i64 (IntKind.i64.wrap (i49 + 1)), .int .i64 (i4), .int .i64 (i16)] w48 fun e53 w54 => e53 = .returned (.tuple #[]) ∧ I1 [.int .i64 (i45), .int .i64 (i49), .int .i64 (i16), .bool (decide (((IntKind.i64.wrap (i4 - i49)) : Int) ≥ (IntKind.i64.wrap (((IntKind.i64.wrap (i4 - i3)) : Int).tdiv 8)))), .bool (b50)] w54 ∧ μ2 [.int .i64 (i45), .int .i64 (i49), .int .i64 (i16), .bool (decide (((IntKind.i64.wrap (i4 - i49)) : Int) ≥ (IntKind.i64.wrap (((IntKind.i64.wrap (i4 - i3)) : Int).tdiv 8)))), .bool (b50)] w54 < μ2 [.int .i64 (i3), .int .i64 (i4), .int .i64 (i5), .bool (b6), .bool (b7)] w8)))))))))

def A117 : Ann := .seq (.leaf) (.seq (.leaf) (.one (.loop [(1, .int .i64), (2, .int .i64), (3, .int .i64), (8, .bool), (9, .bool)] (.one (.seq (.leaf) (.seq (.seq (.leaf) (.two (.seq (.leaf) (.leaf)) (.leaf))) (.seq (.seq (.leaf) (.two (.seq (.leaf) (.leaf)) (.leaf))) (.cut [(3, .int .i64)] (.seq (.leaf) (.two (.seq (.leaf) (.leaf)) (.leaf))) (.seq (.leaf) (.cut [(11, .int .i64), (12, .int .i64)] (.seq (.leaf) (.two (.seq (.leaf) (.seq (.leaf) (.leaf))) (.leaf))) (.cut [] (.seq (.leaf) (.two (.seq (.leaf) (.two (.leaf) (.leaf))) (.leaf))) (.cut [(1, .int .i64)] (.seq (.ord (.op 0 (.op 1 (.op 2 (.op 3 (.op 4 (.op 5 (.op 6 (.op 8 (.op 9 (.op 10 (.op 7 (.op 11 (.op 12 (.op 13 (.op 14 .done)))))))))))))))) (.two (.seq (.leaf) (.seq (.leaf) (.leaf))) (.leaf))) (.seq (.leaf) (.seq (.leaf) (.seq (.leaf) (.seq (.leaf) (.seq (.leaf) (.two (.seq (.leaf) (.seq (.leaf) (.leaf))) (.seq (.leaf) (.seq (.leaf) (.leaf)))))))))))))))))))))

theorem e117 (x0 : Option Addr) (x0n x0c : Nat) (x1 : Int) (x2 : Int) (x3 : Int) (w : World) (R : Value → World → Prop) : F117 x0 x0n x0c x1 x2 x3 w R = vfun Tryz.prog Tryz.f117 A117 [.slice x0 x0n x0c, .int .i64 (x1), .int .i64 (x2), .int .i64 (x3)] w R := by kernel_rfl
theorem c117 (x0 : Option Addr) (x0n x0c : Nat) (x1 : Int) (x2 : Int) (x3 : Int) (w : World) {R : Value → World → Prop} (h : F117 x0 x0n x0c x1 x2 x3 w R) : Calls Tryz.prog 117 #[.slice x0 x0n x0c, .int .i64 (x1), .int .i64 (x2), .int .i64 (x3)] w fun e w' => ∃ v, e = .returned v ∧ R v w' :=
  calls_of_vfun (an := A117) mixed Tryz.func117 (by kernel_rfl) (by kernel_rfl) ((e117 x0 x0n x0c x1 x2 x3 w R).mp h)

/-- slices.insertionSortOrdered[uint64] -/
def F124 (x0 : Option Addr) (x0n x0c : Nat) (x1 : Int) (x2 : Int) (w : World) (R : Value → World → Prop) : Prop :=
 ∃ (I1 : List Value → World → Prop) (μ2 : List Value → World → Nat), (I1 [.int .i64 (IntKind.i64.wrap (x1 + 1))] w)
 ∧ (∀ (i3 : Int), ∀ w4, I1 [.int .i64 (i3)] w4 → vif (decide ((i3 : Int) < x2))
 (∃ (I5 : List Value → World → Prop) (μ6 : List Value → World → Nat), (I5 [.int .i64 (i3)] w4)
 ∧ (∀ (i7 : Int), ∀ w8, I5 [.int .i64 (i7)] w8 → ∃ J9 : List Value → World → Prop, (vdraw w8 fun w10 => vif (decide ((i7 : Int) > x1))
 (vidx x0 x0n i7 fun a11 => vidx x0 x0n (IntKind.i64.wrap (i7 - 1)) fun a12 => ∃ (i13 : Int), w10.cell? (a11.add ((i7 : Int).toNat * 1)) = some (.int .u64 (i13)) ∧ ∃ (i14 : Int), w10.cell? (a12.add ((IntKind.i64.wrap (i7 - 1) : Int).toNat * 1)) = some (.int .u64 (i14)) ∧ Calls Tryz.prog 130 #[.int .u64 (i13), .int .u64 (i14)] w10 fun e15 w16 => ∃ (b17 : Bool), e15 = .returned (.bool (b17)) ∧ vif (b17)
 (J9 [] w16)
 (I1 [.int .i64 (IntKind.i64.wrap (i3 + 1))] w16 ∧ μ2 [.int .i64 (IntKind.i64.wrap (i3 + 1))] w16 < μ2 [.int .i64 (i3)] w4))
 (I1 [.int .i64 (IntKind.i64.wrap (i3 + 1))] w10 ∧ μ2 [.int .i64 (IntKind.i64.wrap (i3 + 1))] w10 < μ2 [.int .i64 (i3)] w4))
 ∧ (∀ w18, J9 [] w18 → vdraw w18 fun w19 => vidx x0 x0n (IntKind.i64.wrap (i7 - 1)) fun a20 => vidx x0 x0n i7 fun a21 => ∃ (i22 : Int), w19.cell? (a20.add ((IntKind.i64.wrap (i7 - 1) : Int).toNat * 1)) = some (.int .u64 (i22)) ∧ ∃ (i23 : Int), w19.cell? (a21.add ((i7 : Int).toNat * 1)) = some (.int .u64 (i23)) ∧ vidx x0 x0n i7 fun a24 => vstore1 w19 (a24.add ((i7 : Int).toNat * 1)) (.int .u64 (i22)) fun w25 => vidx x0 x0n (IntKind.i64.wrap (i7 - 1)) fun a26 => vstore1 w25 (a26.add ((IntKind.i64.wrap (i7 - 1) : Int).toNat * 1)) (.int .u64 (i23)) fun w27 => I5 [.int .i64 (IntKind.i64.wrap (i7 - 1))] w27 ∧ μ6 [.int .i64 (IntKind.i64.wrap (i7 - 1))] w27 < μ6 [.int .i64 (i7)] w8)))
 (R (.tuple #[]) w4))

def A124 : Ann := .seq (.leaf) (.one (.loop [(6, .int .i64)] (.seq (.seq (.leaf) (.two (.leaf) (.leaf))) (.seq (.one (.seq (.leaf) (.one (.loop [(7, .int .i64)] (.cut [] (.seq (.ord (.op 0 (.op 1 (.op 2 (.op 3 (.op 4 (.op 5 (.op 6 (.op 8 (.op 9 (.op 10 (.op 11 (.op 7 (.op 12 (.op 13 (.op 14 .done)))))))))))))))) (.two (.leaf) (.leaf))) (.seq (.one (.ord (.op 0 (.op 1 (.op 2 (.op 3 (.op 4 (.op 5 (.op 6 (.op 7 (.op 8 (.op 10 (.op 11 (.op 12 (.op 9 (.op 13 (.op 14 (.op 15 (.op 16 (.op 17 .done)))))))))))))))))))) (.leaf))))))) (.leaf)))))

theorem e124 (x0 : Option Addr) (x0n x0c : Nat) (x1 : Int) (x2 : Int) (w : World) (R : Value → World → Prop) : F124 x0 x0n x0c x1 x2 w R = vfun Tryz.prog Tryz.f124 A124 [.slice x0 x0n x0c, .int .i64 (x1), .int .i64 (x2)] w R := by kernel_rfl
theorem c124 (x0 : Option Addr) (x0n x0c : Nat) (x1 : Int) (x2 : Int) (w : World) {R : Value → World → Prop} (h : F124 x0 x0n x0c x1 x2 w R) : Calls Tryz.prog 124 #[.slice x0 x0n x0c, .int .i64 (x1), .int .i64 (x2)] w fun e w' => ∃ v, e = .returned v ∧ R v w' :=
  calls_of_vfun (an := A124) mixed Tryz.func124 (by kernel_rfl) (by kernel_rfl) ((e124 x0 x0n x0c x1 x2 w R).mp h)

/-- math/bits.Len -/
def F118 (x0 : Int) (w : World) (R : Value → World → Prop) : Prop :=
 Calls Tryz.prog 134 #[.int .u64 (x0)] w fun e1 w2 => ∃ (i3 : Int), e1 = .returned (.int .i64 (i3)) ∧ R (.int .i64 (i3)) w2

def A118 : Ann := .seq (.leaf) (.seq (.two (.seq (.leaf) (.leaf)) (.leaf)) (.seq (.leaf) (.leaf)))

theorem e118 (x0 : Int) (w : World) (R : Value → World → Prop) : F118 x0 w R = vfun Tryz.prog Tryz.f118 A118 [.int .u64 (x0)] w R := by kernel_rfl
theorem c118 (x0 : Int) (w : World) {R : Value → World → Prop} (h : F118 x0 w R) : Calls Tryz.prog 118 #[.int .u64 (x0)] w fun e w' => ∃ v, e = .returned v ∧ R v w' :=
  calls_of_vfun (an := A118) mixed Tryz.func118 (by kernel_rfl) (by kernel_rfl) ((e118 x0 w R).mp h)

/-- cmp.Less[uint64] -/
def F130 (x0 : Int) (x1 : Int) (w : World) (R : Value → World → Prop) : Prop :=
 Calls Tryz.prog 147 #[.int .u64 (x0)] w fun e1 w2 => ∃ (b3 : Bool), e1 = .returned (.bool (b3)) ∧ vif (b3)
 (Calls Tryz.prog 147 #[.int .u64 (x1)] w2 fun e4 w5 => ∃ (b6 : Bool), e4 = .returned (.bool (b6)) ∧ vif (!b6)
 (R (.bool true) w5)
 (R (.bool (decide ((x0 : Int) < x1))) w5))
 (R (.bool (decide ((x0 : Int) < x1))) w2)

def A130 : Ann := .seq (.leaf) (.seq (.leaf) (.leaf))

theorem e130 (x0 : Int) (x1 : Int) (w : World) (R : Value → World → Prop) : F130 x0 x1 w R = vfun Tryz.prog Tryz.f130 A130 [.int .u64 (x0), .int .u64 (x1)] w R := by kernel_rfl
theorem c130 (x0 : Int) (x1 : Int) (w : World) {R : Value → World → Prop} (h : F130 x0 x1 w R) : Calls Tryz.prog 130 #[.int .u64 (x0), .int .u64 (x1)] w fun e w' => ∃ v, e = .returned v ∧ R v w' :=
  calls_of_vfun (an := A130) mixed Tryz.func130 (by kernel_rfl) (by kernel_rfl) ((e130 x0 x1 w R).mp h)

/-- math/bits.Len32 -/
def F133 (x0 : Int) (w : World) (R : Value → World → Prop) : Prop :=
 vif (decide ((x0 : Int) ≥ 65536))
 (0 ≤ (16 : Int) ∧ vif (decide ((((x0 : Int).fdiv (2 ^ (min (16 : Int).toNat 32))) : Int) ≥ 256))
 (0 ≤ (8 : Int) ∧ 0 ≤ (IntKind.u8.wrap ((((x0 : Int).fdiv (2 ^ (min (16 : Int).toNat 32))) : Int).fdiv (2 ^ (min (8 : Int).toNat 32))) : Int) ∧ ∃ (c1 : UInt8), (⟨#[0, 1, 2, 2, 3, 3, 3, 3, 4, 4, 4, 4, 4, 4, 4, 4, 5, 5, 5, 5, 5, 5, 5, 5, 5, 5, 5, 5, 5, 5, 5, 5, 6, 6, 6, 6, 6, 6, 6, 6, 6, 6, 6, 6, 6, 6, 6, 6, 6, 6, 6, 6, 6, 6, 6, 6, 6, 6, 6, 6, 6, 6, 6, 6, 7, 7, 7, 7, 7, 7, 7, 7, 7, 7, 7, 7, 7, 7, 7, 7, 7, 7, 7, 7, 7, 7, 7, 7, 7, 7, 7, 7, 7, 7, 7, 7, 7, 7, 7, 7, 7, 7, 7, 7, 7, 7, 7, 7, 7, 7, 7, 7, 7, 7, 7, 7, 7, 7, 7, 7, 7, 7, 7, 7, 7, 7, 7, 7, 8, 8, 8, 8, 8, 8, 8, 8, 8, 8, 8, 8, 8, 8, 8, 8, 8, 8, 8, 8, 8, 8, 8, 8, 8, 8, 8, 8, 8, 8, 8, 8, 8, 8, 8, 8, 8, 8, 8, 8, 8, 8, 8, 8, 8, 8, 8, 8, 8, 8, 8, 8, 8, 8, 8, 8, 8, 8, 8, 8, 8, 8, 8, 8, 8, 8, 8, 8, 8, 8, 8, 8, 8, 8, 8, 8, 8, 8, 8, 8, 8, 8, 8, 8, 8, 8, 8, 8, 8, 8, 8, 8, 8, 8, 8, 8, 8, 8, 8, 8, 8, 8, 8, 8, 8, 8, 8, 8, 8, 8, 8, 8, 8, 8, 8, 8, 8, 8, 8, 8, 8, 8, 8, 8, 8, 8, 8, 8]⟩ : ByteArray)[(IntKind.u8.wrap ((((x0 : Int).fdiv (2 ^ (min (16 : Int).toNat 32))) : Int).fdiv (2 ^ (min (8 : Int).toNat 32))) : Int).toNat]? = some c1 ∧ R (.int .i64 (IntKind.i64.wrap ((IntKind.i64.wrap (16 + 8)) + (IntKind.i64.wrap (c1.toNat : Int))))) w)
 (0 ≤ (IntKind.u8.wrap ((x0 : Int).fdiv (2 ^ (min (16 : Int).toNat 32))) : Int) ∧ ∃ (c2 : UInt8), (⟨#[0, 1, 2, 2, 3, 3, 3, 3, 4, 4, 4, 4, 4, 4, 4, 4, 5, 5, 5, 5, 5, 5, 5, 5, 5, 5, 5, 5, 5, 5, 5, 5, 6, 6, 6, 6, 6, 6, 6, 6, 6, 6, 6, 6, 6, 6, 6, 6, 6, 6, 6, 6, 6, 6, 6, 6, 6, 6, 6, 6, 6, 6, 6, 6, 7, 7, 7, 7, 7, 7, 7, 7, 7, 7, 7, 7, 7, 7, 7, 7, 7, 7, 7, 7, 7, 7, 7, 7, 7, 7, 7, 7, 7, 7, 7, 7, 7, 7, 7, 7, 7, 7, 7, 7, 7, 7, 7, 7, 7, 7, 7, 7, 7, 7, 7, 7, 7, 7, 7, 7, 7, 7, 7, 7, 7, 7, 7, 7, 8, 8, 8, 8, 8, 8, 8, 8, 8, 8, 8, 8, 8, 8, 8, 8, 8, 8, 8, 8, 8, 8, 8, 8, 8, 8, 8, 8, 8, 8, 8, 8, 8, 8, 8, 8, 8, 8, 8, 8, 8, 8, 8, 8, 8, 8, 8, 8, 8, 8, 8, 8, 8, 8, 8, 8, 8, 8, 8, 8, 8, 8, 8, 8, 8, 8, 8, 8, 8, 8, 8, 8, 8, 8, 8, 8, 8, 8, 8, 8, 8, 8, 8, 8, 8, 8, 8, 8, 8, 8, 8, 8, 8, 8, 8, 8, 8, 8, 8, 8, 8, 8, 8, 8, 8, 8, 8, 8, 8, 8, 8, 8, 8, 8, 8, 8, 8, 8, 8, 8, 8, 8, 8, 8, 8, 8, 8, 8]⟩ : ByteArray)[(IntKind.u8.wrap ((x0 : Int).fdiv (2 ^ (min (16 : Int).toNat 32))) : Int).toNat]? = some c2 ∧ R (.int .i64 (IntKind.i64.wrap (16 + (IntKind.i64.wrap (c2.toNat : Int))))) w))
 (vif (decide ((x0 : Int) ≥ 256))
 (0 ≤ (8 : Int) ∧ 0 ≤ (IntKind.u8.wrap ((x0 : Int).fdiv (2 ^ (min (8 : Int).toNat 32))) : Int) ∧ ∃ (c3 : UInt8), (⟨#[0, 1, 2, 2, 3, 3, 3, 3, 4, 4, 4, 4, 4, 4, 4, 4, 5, 5, 5, 5, 5, 5, 5, 5, 5, 5, 5, 5, 5, 5, 5, 5, 6, 6, 6, 6, 6, 6, 6, 6, 6, 6, 6, 6, 6, 6, 6, 6, 6, 6, 6, 6, 6, 6, 6, 6, 6, 6, 6, 6, 6, 6, 6, 6, 7, 7, 7, 7, 7, 7, 7, 7, 7, 7, 7, 7, 7, 7, 7, 7, 7, 7, 7, 7, 7, 7, 7, 7, 7, 7, 7, 7, 7, 7, 7, 7, 7, 7, 7, 7, 7, 7, 7, 7, 7, 7, 7, 7, 7, 7, 7, 7, 7, 7, 7, 7, 7, 7, 7, 7, 7, 7, 7, 7, 7, 7, 7, 7, 8, 8, 8, 8, 8, 8, 8, 8, 8, 8, 8, 8, 8, 8, 8, 8, 8, 8, 8, 8, 8, 8, 8, 8, 8, 8, 8, 8, 8, 8, 8, 8, 8, 8, 8, 8, 8, 8, 8, 8, 8, 8, 8, 8, 8, 8, 8, 8, 8, 8, 8, 8, 8, 8, 8, 8, 8, 8, 8, 8, 8, 8, 8, 8, 8, 8, 8, 8, 8, 8, 8, 8, 8, 8, 8, 8, 8, 8, 8, 8, 8, 8, 8, 8, 8, 8, 8, 8, 8, 8, 8, 8, 8, 8, 8, 8, 8, 8, 8, 8, 8, 8, 8, 8, 8, 8, 8, 8, 8, 8, 8, 8, 8, 8, 8, 8, 8, 8, 8, 8, 8, 8, 8, 8, 8, 8, 8, 8]⟩ : ByteArray)[(IntKind.u8.wrap ((x0 : Int).fdiv (2 ^ (min (8 : Int).toNat 32))) : Int).toNat]? = some c3 ∧ R (.int .i64 (IntKind.i64.wrap ((IntKind.i64.wrap (0 + 8)) + (IntKind.i64.wrap (c3.toNat : Int))))) w)
 (0 ≤ (IntKind.u8.wrap x0 : Int) ∧ ∃ (c4 : UInt8), (⟨#[0, 1, 2, 2, 3, 3, 3, 3, 4, 4, 4, 4, 4, 4, 4, 4, 5, 5, 5, 5, 5, 5, 5, 5, 5, 5, 5, 5, 5, 5, 5, 5, 6, 6, 6, 6, 6, 6, 6, 6, 6, 6, 6, 6, 6, 6, 6, 6, 6, 6, 6, 6, 6, 6, 6, 6, 6, 6, 6, 6, 6, 6, 6, 6, 7, 7, 7, 7, 7, 7, 7, 7, 7, 7, 7, 7, 7, 7, 7, 7, 7, 7, 7, 7, 7, 7, 7, 7, 7, 7, 7, 7, 7, 7, 7, 7, 7, 7, 7, 7, 7, 7, 7, 7, 7, 7, 7, 7, 7, 7, 7, 7, 7, 7, 7, 7, 7, 7, 7, 7, 7, 7, 7, 7, 7, 7, 7, 7, 8, 8, 8, 8, 8, 8, 8, 8, 8, 8, 8, 8, 8, 8, 8, 8, 8, 8, 8, 8, 8, 8, 8, 8, 8, 8, 8, 8, 8, 8, 8, 8, 8, 8, 8, 8, 8, 8, 8, 8, 8, 8, 8, 8, 8, 8, 8, 8, 8, 8, 8, 8, 8, 8, 8, 8, 8, 8, 8, 8, 8, 8, 8, 8, 8, 8, 8, 8, 8, 8, 8, 8, 8, 8, 8, 8, 8, 8, 8, 8, 8, 8, 8, 8, 8, 8, 8, 8, 8, 8, 8, 8, 8, 8, 8, 8, 8, 8, 8, 8, 8, 8, 8, 8, 8, 8, 8, 8, 8, 8, 8, 8, 8, 8, 8, 8, 8, 8, 8, 8, 8, 8, 8, 8, 8, 8, 8, 8]⟩ : ByteArray)[(IntKind.u8.wrap x0 : Int).toNat]? = some c4 ∧ R (.int .i64 (IntKind.i64.wrap (0 + (IntKind.i64.wrap (c4.toNat : Int))))) w))

def A133 : Ann := .seq (.leaf) (.seq (.seq (.leaf) (.two (.seq (.leaf) (.leaf)) (.leaf))) (.seq (.seq (.leaf) (.two (.seq (.leaf) (.leaf)) (.leaf))) (.seq (.leaf) (.leaf))))

theorem e133 (x0 : Int) (w : World) (R : Value → World → Prop) : F133 x0 w R = vfun Tryz.prog Tryz.f133 A133 [.int .u32 (x0)] w R := by kernel_rfl
theorem c133 (x0 : Int) (w : World) {R : Value → World → Prop} (h : F133 x0 w R) : Calls Tryz.prog 133 #[.int .u32 (x0)] w fun e w' => ∃ v, e = .returned v ∧ R v w' :=
  calls_of_vfun (an := A133) mixed Tryz.func133 (by kernel_rfl) (by kernel_rfl) ((e133 x0 w R).mp h)

/-- math/bits.Len64 -/
def F134 (x0 : Int) (w : World) (R : Value → World → Prop) : Prop :=
 ∃ J1 : List Value → World → Prop, (vif (decide ((x0 : Int) ≥ 4294967296))
 (0 ≤ (32 : Int) ∧ J1 [.int .u64 ((x0 : Int).fdiv (2 ^ (min (32 : Int).toNat 64))), .int .i64 32] w)
 (J1 [.int .u64 (x0), .int .i64 0] w))
 ∧ (∀ (i2 : Int), ∀ (i3 : Int), ∀ w4, J1 [.int .u64 (i2), .int .i64 (i3)] w4 → vif (decide ((i2 : Int) ≥ 65536))
 (0 ≤ (16 : Int) ∧ vif (decide ((((i2 : Int).fdiv (2 ^ (min (16 : Int).toNat 64))) : Int) ≥ 256))
 (0 ≤ (8 : Int) ∧ 0 ≤ (IntKind.u8.wrap ((((i2 : Int).fdiv (2 ^ (min (16 : Int).toNat 64))) : Int).fdiv (2 ^ (min (8 : Int).toNat 64))) : Int) ∧ ∃ (c5 : UInt8), (⟨#[0, 1, 2, 2, 3, 3, 3, 3, 4, 4, 4, 4, 4, 4, 4, 4, 5, 5, 5, 5, 5, 5, 5, 5, 5, 5, 5, 5, 5, 5, 5, 5, 6, 6, 6, 6, 6, 6, 6, 6, 6, 6, 6, 6, 6, 6, 6, 6, 6, 6, 6, 6, 6, 6, 6, 6, 6, 6, 6, 6, 6, 6, 6, 6, 7, 7, 7, 7, 7, 7, 7, 7, 7, 7, 7, 7, 7, 7, 7, 7, 7, 7, 7, 7, 7, 7, 7, 7, 7, 7, 7, 7, 7, 7, 7, 7, 7, 7, 7, 7, 7, 7, 7, 7, 7, 7, 7, 7, 7, 7, 7, 7, 7, 7, 7, 7, 7, 7, 7, 7, 7, 7, 7, 7, 7, 7, 7, 7, 8, 8, 8, 8, 8, 8, 8, 8, 8, 8, 8, 8, 8, 8, 8, 8, 8, 8, 8, 8, 8, 8, 8, 8, 8, 8, 8, 8, 8, 8, 8, 8, 8, 8, 8, 8, 8, 8, 8, 8, 8, 8, 8, 8, 8, 8, 8, 8, 8, 8, 8, 8, 8, 8, 8, 8, 8, 8, 8, 8, 8, 8, 8, 8, 8, 8, 8, 8, 8, 8, 8, 8, 8, 8, 8, 8, 8, 8, 8, 8, 8, 8, 8, 8, 8, 8, 8, 8, 8, 8, 8, 8, 8, 8, 8, 8, 8, 8, 8, 8, 8, 8, 8, 8, 8, 8, 8, 8, 8, 8, 8, 8, 8, 8, 8, 8, 8, 8, 8, 8, 8, 8, 8, 8, 8, 8, 8, 8]⟩ : ByteArray)[(IntKind.u8.wrap ((((i2 : Int).fdiv (2 ^ (min (16 : Int).toNat 64))) : Int).fdiv (2 ^ (min (8 : Int).toNat 64))) : Int).toNat]? = some c5 ∧ R (.int .i64 (IntKind.i64.wrap ((IntKind.i64.wrap ((IntKind.i64.wrap (i3 + 16)) + 8)) + (IntKind.i64.wrap (c5.toNat : Int))))) w4)
 (0 ≤ (IntKind.u8.wrap ((i2 : Int).fdiv (2 ^ (min (16 : Int).toNat 64))) : Int) ∧ ∃ (c6 : UInt8), (⟨#[0, 1, 2, 2, 3, 3, 3, 3, 4, 4, 4, 4, 4, 4, 4, 4, 5, 5, 5, 5, 5, 5, 5, 5, 5, 5, 5, 5, 5, 5, 5, 5, 6, 6, 6, 6, 6, 6, 6, 6, 6, 6, 6, 6, 6, 6, 6, 6, 6, 6, 6, 6, 6, 6, 6, 6, 6, 6, 6, 6, 6, 6, 6, 6, 7, 7, 7, 7, 7, 7, 7, 7, 7, 7, 7, 7, 7, 7, 7, 7, 7, 7, 7, 7, 7, 7, 7, 7, 7, 7, 7, 7, 7, 7, 7, 7, 7, 7, 7, 7, 7, 7, 7, 7, 7, 7, 7, 7, 7, 7, 7, 7, 7, 7, 7, 7, 7, 7, 7, 7, 7, 7, 7, 7, 7, 7, 7, 7, 8, 8, 8, 8, 8, 8, 8, 8, 8, 8, 8, 8, 8, 8, 8, 8, 8, 8, 8, 8, 8, 8, 8, 8, 8, 8, 8, 8, 8, 8, 8, 8, 8, 8, 8, 8, 8, 8, 8, 8, 8, 8, 8, 8, 8, 8, 8, 8, 8, 8, 8, 8, 8, 8, 8, 8, 8, 8, 8, 8, 8, 8, 8, 8, 8, 8, 8, 8, 8, 8, 8, 8, 8, 8, 8, 8, 8, 8, 8, 8, 8, 8, 8, 8, 8, 8, 8, 8, 8, 8, 8, 8, 8, 8, 8, 8, 8, 8, 8, 8, 8, 8, 8, 8, 8, 8, 8, 8, 8, 8, 8, 8, 8, 8, 8, 8, 8, 8, 8, 8, 8, 8, 8, 8, 8, 8, 8, 8]⟩ : ByteArray)[(IntKind.u8.wrap ((i2 : Int).fdiv (2 ^ (min (16 : Int).toNat 64))) : Int).toNat]? = some c6 ∧ R (.int .i64 (IntKind.i64.wrap ((IntKind.i64.wrap (i3 + 16)) + (IntKind.i64.wrap (c6.toNat : Int))))) w4))
 (vif (decide ((i2 : Int) ≥ 256))
 (0 ≤ (8 : Int) ∧ 0 ≤ (IntKind.u8.wrap ((i2 : Int).fdiv (2 ^ (min (8 : Int).toNat 64))) : Int) ∧ ∃ (c7 : UInt8), (⟨#[0, 1, 2, 2, 3, 3, 3, 3, 4, 4, 4, 4, 4, 4, 4, 4, 5, 5, 5, 5, 5, 5, 5, 5, 5, 5, 5, 5, 5, 5, 5, 5, 6, 6, 6, 6, 6, 6, 6, 6, 6, 6, 6, 6, 6, 6, 6, 6, 6, 6, 6, 6, 6, 6, 6, 6, 6, 6, 6, 6, 6, 6, 6, 6, 7, 7, 7, 7, 7, 7, 7, 7, 7, 7, 7, 7, 7, 7, 7, 7, 7, 7, 7, 7, 7, 7, 7, 7, 7, 7, 7, 7, 7, 7, 7, 7, 7, 7, 7, 7, 7, 7, 7, 7, 7, 7, 7, 7, 7, 7, 7, 7, 7, 7, 7, 7, 7, 7, 7, 7, 7, 7, 7, 7, 7, 7, 7, 7, 8, 8, 8, 8, 8, 8, 8, 8, 8, 8, 8, 8, 8, 8, 8, 8, 8, 8, 8, 8, 8, 8, 8, 8, 8, 8, 8, 8, 8, 8, 8, 8, 8, 8, 8, 8, 8, 8, 8, 8, 8, 8, 8, 8, 8, 8, 8, 8, 8, 8, 8, 8, 8, 8, 8, 8, 8, 8, 8, 8, 8, 8, 8, 8, 8, 8, 8, 8, 8, 8, 8, 8, 8, 8, 8, 8, 8, 8, 8, 8, 8, 8, 8, 8, 8, 8, 8, 8, 8, 8, 8, 8, 8, 8, 8, 8, 8, 8, 8, 8, 8, 8, 8, 8, 8, 8, 8, 8, 8, 8, 8, 8, 8, 8, 8, 8, 8, 8, 8, 8, 8, 8, 8, 8, 8, 8, 8, 8]⟩ : ByteArray)[(IntKind.u8.wrap ((i2 : Int).fdiv (2 ^ (min (8 : Int).toNat 64))) : Int).toNat]? = some c7 ∧ R (.int .i64 (IntKind.i64.wrap ((IntKind.i64.wrap (i3 + 8)) + (IntKind.i64.wrap (c7.toNat : Int))))) w4)
 (0 ≤ (IntKind.u8.wrap i2 : Int) ∧ ∃ (c8 : UInt8), (⟨#[0, 1, 2, 2, 3, 3, 3, 3, 4, 4, 4, 4, 4, 4, 4, 4, 5, 5, 5, 5, 5, 5, 5, 5, 5, 5, 5, 5, 5, 5, 5, 5, 6, 6, 6, 6, 6, 6, 6, 6, 6, 6, 6, 6, 6, 6, 6, 6, 6, 6, 6, 6, 6, 6, 6, 6, 6, 6, 6, 6, 6, 6, 6, 6, 7, 7, 7, 7, 7, 7, 7, 7, 7, 7, 7, 7, 7, 7, 7, 7, 7, 7, 7, 7, 7, 7, 7, 7, 7, 7, 7, 7, 7, 7, 7, 7, 7, 7, 7, 7, 7, 7, 7, 7, 7, 7, 7, 7, 7, 7, 7, 7, 7, 7, 7, 7, 7, 7, 7, 7, 7, 7, 7, 7, 7, 7, 7, 7, 8, 8, 8, 8, 8, 8, 8, 8, 8, 8, 8, 8, 8, 8, 8, 8, 8, 8, 8, 8, 8, 8, 8, 8, 8, 8, 8, 8, 8, 8, 8, 8, 8, 8, 8, 8, 8, 8, 8, 8, 8, 8, 8, 8, 8, 8, 8, 8, 8, 8, 8, 8, 8, 8, 8, 8, 8, 8, 8, 8, 8, 8, 8, 8, 8, 8, 8, 8, 8, 8, 8, 8, 8, 8, 8, 8, 8, 8, 8, 8, 8, 8, 8, 8, 8, 8, 8, 8, 8, 8, 8, 8, 8, 8, 8, 8, 8, 8, 8, 8, 8, 8, 8, 8, 8, 8, 8, 8, 8, 8, 8, 8, 8, 8, 8, 8, 8, 8, 8, 8, 8, 8, 8, 8, 8, 8, 8, 8]⟩ : ByteArray)[(IntKind.u8.wrap i2 : Int).toNat]? = some c8 ∧ R (.int .i64 (IntKind.i64.wrap (i3 + (IntKind.i64.wrap (c8.toNat : Int))))) w4)))

def A134 : Ann := .seq (.leaf) (.cut [(0, .int .u64), (2, .int .i64)] (.seq (.leaf) (.two (.seq (.leaf) (.leaf)) (.leaf))) (.seq (.seq (.leaf) (.two (.seq (.leaf) (.leaf)) (.leaf))) (.seq (.seq (.leaf) (.two (.seq (.leaf) (.leaf)) (.leaf))) (.seq (.leaf) (.leaf)))))

theorem e134 (x0 : Int) (w : World) (R : Value → World → Prop) : F134 x0 w R = vfun Tryz.prog Tryz.f134 A134 [.int .u64 (x0)] w R := by kernel_rfl
theorem c134 (x0 : Int) (w : World) {R : Value → World → Prop} (h : F134 x0 w R) : Calls Tryz.prog 134 #[.int .u64 (x0)] w fun e w' => ∃ v, e = .returned v ∧ R v w' :=
  calls_of_vfun (an := A134) mixed Tryz.func134 (by kernel_rfl) (by kernel_rfl) ((e134 x0 w R).mp h)

/-- cmp.isNaN[uint64] -/
def F147 (x0 : Int) (w : World) (R : Value → World → Prop) : Prop :=
 R (.bool ((x0 : Int) != x0)) w

def A147 : Ann := .seq (.leaf) (.seq (.leaf) (.leaf))

theorem e147 (x0 : Int) (w : World) (R : Value → World → Prop) : F147 x0 w R = vfun Tryz.prog Tryz.f147 A147 [.int .u64 (x0)] w R := by kernel_rfl
theorem c147 (x0 : Int) (w : World) {R : Value → World → Prop} (h : F147 x0 w R) : Calls Tryz.prog 147 #[.int .u64 (x0)] w fun e w' => ∃ v, e = .returned v ∧ R v w' :=
  calls_of_vfun (an := A147) mixed Tryz.func147 (by kernel_rfl) (by kernel_rfl) ((e147 x0 w R).mp h)


end Rx
end Go.Proofs.YtkoipeddfbeliaaGreat

/-
  The small functions over slices.
-/
namespace Go.Proofs.YtkoipeddfbeliaaGreat
namespace Rx
open Go.RowKit
set_option maxRecDepth 100000

theorem wi {n : Int} (h0 : -9223372036854775808 ≤ n) (h1 : n ≤ 9223372036854775807) : IntKind.i64.wrap n = n := by rw [IntKind.wrap_i64]; omega
theorem wu {n : Int} (h0 : 0 ≤ n) (h1 : n ≤ 18446744073709551615) : IntKind.u64.wrap n = n := by rw [IntKind.wrap_u64]; omega

/-- what a function's condition gives, seen by its caller -/
theorem ret {k : FuncId} {args : Array Value} {w : World} {R : Value → World → Prop} {Q : Ending → World → Prop} (h : Calls Tryz.prog k args w fun e w' => ∃ v, e = .returned v ∧ R v w')
    (g : ∀ v w', R v w' → Q (.returned v) w') : Calls Tryz.prog k args w Q := h.mono fun _ w' ⟨v, he, hr⟩ => he ▸ g v w' hr

def iv (n : Nat) : Value := .int .i64 (n : Int)
def uv (n : Nat) : Value := .int .u64 (n : Int)

/-- numbers, and bytes -/
def Ints (w : World) (s : SV) (l : List Nat) : Prop := Sl w 3 1 s (l.map iv)
def Bytes (w : World) (s : SV) (l : List UInt8) : Prop := Sl w 5 1 s (byteVals l)

theorem Ints.n {w : World} {s : SV} {l : List Nat} (h : Ints w s l) : s.n = l.length := by have := Sl.len h; simp at this; exact this.symm
theorem Bytes.n {w : World} {s : SV} {l : List UInt8} (h : Bytes w s l) : s.n = l.length := by have := Sl.len h; simp [byteVals] at this; exact this.symm

theorem one_iv (l : List Nat) : ∀ v ∈ l.map iv, isOne v = true := by simp [iv, isOne]
theorem one_bytes (l : List UInt8) : ∀ v ∈ byteVals l, isOne v = true := by simp [byteVals, isOne]

section
variable {w : World} {s : SV} {vs : List Value}

/-- a copy -/
theorem clone47 (hs : Sl w 3 1 s vs) (ho : ∀ v ∈ vs, isOne v = true) (hn : s.n ≤ 1000000000) :
    Calls Tryz.prog 47 #[.slice s.p s.n s.c] w fun e w' => ∃ r : SV, e = .returned (.slice r.p r.n r.c) ∧ Ex w w' ∧ Sl w' 3 1 r vs ∧ ∀ x ∈ r.own, w.heap.size ≤ x := by
  refine ret (R := fun v w' => ∃ r : SV, v = .slice r.p r.n r.c ∧ Ex w w' ∧ Sl w' 3 1 r vs ∧ ∀ x ∈ r.own, w.heap.size ≤ x) (c47 s.p s.n s.c w ?_) (fun v w' ⟨r, hr, h⟩ => ⟨r, by rw [hr], h⟩)
  refine vif_mk (fun h => ?_) (fun h => ⟨rfl, vnew_mk fun w1 h1 h2 h3 => ?_⟩)
  · have hp : s.p = none := by simpa using h
    have h0 := hs.nil hp
    have : vs = [] := List.eq_nil_of_length_eq_zero (by rw [hs.len, h0.1])
    subst this
    exact ⟨.nil, rfl, Ex.refl _, Sl.zero _ _ _, by simp [SV.own, SV.nil]⟩
  · refine app3 (s := ⟨some ⟨w.heap.size, 0, none⟩, 0, 0⟩) (q := s) (vs := []) (new := vs) (Sl.of_blk h3 rfl) (hs.ex h1) ho (by simpa using hn) fun r w' hr hn' g => ?_
    have := g.ex h1 (by simp [SV.own])
    exact ⟨r, rfl, this.1, by simpa using hr, this.2⟩

theorem clone56 (hs : Sl w 5 1 s vs) (ho : ∀ v ∈ vs, isOne v = true) (hn : s.n ≤ 1000000000) :
    Calls Tryz.prog 56 #[.slice s.p s.n s.c] w fun e w' => ∃ r : SV, e = .returned (.slice r.p r.n r.c) ∧ Ex w w' ∧ Sl w' 5 1 r vs ∧ ∀ x ∈ r.own, w.heap.size ≤ x := by
  refine ret (R := fun v w' => ∃ r : SV, v = .slice r.p r.n r.c ∧ Ex w w' ∧ Sl w' 5 1 r vs ∧ ∀ x ∈ r.own, w.heap.size ≤ x) (c56 s.p s.n s.c w ?_) (fun v w' ⟨r, hr, h⟩ => ⟨r, by rw [hr], h⟩)
  refine vif_mk (fun h => ?_) (fun h => ⟨rfl, vnew_mk fun w1 h1 h2 h3 => ?_⟩)
  · have hp : s.p = none := by simpa using h
    have h0 := hs.nil hp
    have : vs = [] := List.eq_nil_of_length_eq_zero (by rw [hs.len, h0.1])
    subst this
    exact ⟨.nil, rfl, Ex.refl _, Sl.zero _ _ _, by simp [SV.own, SV.nil]⟩
  · refine app5 (s := ⟨some ⟨w.heap.size, 0, none⟩, 0, 0⟩) (q := s) (vs := []) (new := vs) (Sl.of_blk h3 rfl) (hs.ex h1) ho (by simpa using hn) fun r w' hr hn' g => ?_
    have := g.ex h1 (by simp [SV.own])
    exact ⟨r, rfl, this.1, by simpa using hr, this.2⟩

/-- what lies behind the length of a row of entries is as new -/
def Tail (w : World) (s : SV) : Prop := ∀ a, s.p = some a → (∃ g, a.off = 4 * g) ∧ ∀ cs, Blk w a.block cs 47 → ∀ i, s.n ≤ i → i < s.c → cs[a.off + i * 4]? = some (.int .u64 0)

theorem clone86 (hs : Sl w 47 4 s vs) (ho : ∀ v ∈ vs, isOne v = true) (hn : s.n ≤ 1000000000) :
    Calls Tryz.prog 86 #[.slice s.p s.n s.c] w fun e w' => ∃ r : SV, e = .returned (.slice r.p r.n r.c) ∧ Ex w w' ∧ Sl w' 47 4 r vs ∧ Tail w' r ∧ ∀ x ∈ r.own, w.heap.size ≤ x := by
  refine ret (R := fun v w' => ∃ r : SV, v = .slice r.p r.n r.c ∧ Ex w w' ∧ Sl w' 47 4 r vs ∧ Tail w' r ∧ ∀ x ∈ r.own, w.heap.size ≤ x) (c86 s.p s.n s.c w ?_) (fun v w' ⟨r, hr, h⟩ => ⟨r, by rw [hr], h⟩)
  refine vif_mk (fun h => ?_) (fun h => ⟨rfl, vnew_mk fun w1 h1 h2 h3 => ?_⟩)
  · have hp : s.p = none := by simpa using h
    have h0 := hs.nil hp
    have : vs = [] := List.eq_nil_of_length_eq_zero (by rw [hs.len, h0.1])
    subst this
    exact ⟨.nil, rfl, Ex.refl _, Sl.zero _ _ _, fun a ha => by simp [SV.nil] at ha, by simp [SV.own, SV.nil]⟩
  · refine app47 (s := ⟨some ⟨w.heap.size, 0, none⟩, 0, 0⟩) (q := s) (vs := []) (new := vs) (Sl.of_blk h3 rfl) (hs.ex h1) ho (by simpa using hn) fun r w' hr hn' g => ?_
    have hh := g.ex h1 (by simp [SV.own])
    refine ⟨r, rfl, hh.1, by simpa using hr, fun a ha => ?_, hh.2⟩
    cases g with
    | here b cs hp hb hw hr' hc hn2 =>
      simp at hp; subst hp
      rw [hr'] at ha; simp at ha; subst ha
      simp only at hn2 hc
      exact ⟨⟨0, rfl⟩, fun cs _ i hi1 hi2 => by omega⟩
    | stay hp hr' hw => simp at hp
    | fresh hr' hw cs hb ht =>
      rw [hr'] at ha; simp at ha; subst ha
      refine ⟨⟨0, rfl⟩, fun cs' hb' i hi1 hi2 => ?_⟩
      obtain ⟨rfl, _⟩ := hb.same hb'
      have := ht i hi1 hi2 0 (by decide)
      simpa using this

/-- where a number stands -/
theorem index89 {l : List Nat} (hs : Ints w s l) (hn : s.n ≤ 1000000000) (x : Nat) :
    Calls Tryz.prog 89 #[.slice s.p s.n s.c, .int .i64 (x : Int)] w fun e w' => ∃ i : Int, e = .returned (.int .i64 i) ∧ w' = w ∧ (0 ≤ i ↔ x ∈ l) := by
  refine ret (R := fun v w' => ∃ i : Int, v = .int .i64 i ∧ w' = w ∧ (0 ≤ i ↔ x ∈ l)) (c89 s.p s.n s.c x w ?_) (fun v w' ⟨r, hr, h⟩ => ⟨r, by rw [hr], h⟩)
  refine ⟨fun vs w' => ∃ i : Nat, vs = [iv i] ∧ w' = w ∧ i ≤ l.length ∧ x ∉ l.take i, fun vs _ => match vs with | [.int _ i] => (s.n - i).toNat | _ => 0, ⟨0, rfl, rfl, Nat.zero_le _, by simp⟩, ?_⟩
  rintro i3 w4 ⟨i, hi, rfl, hle, hno⟩
  simp only [iv, List.cons.injEq, Value.int.injEq, and_true, true_and] at hi
  subst hi
  have hsn := hs.n
  refine vif_mk (fun h => ?_) (fun h => ?_)
  · have hlt : i < l.length := by simp at h; omega
    refine Sl.idx hs (by omega) (by omega) fun a cs ha h1 h2 h3 h4 => ?_
    have hv := h4 i (iv l[i]) (by simp [hlt])
    refine ⟨l[i], ?_, vif_mk (fun he => ?_) (fun he => ?_)⟩
    · rw [addr_eta h1, add_mk, h2.cell]; simpa [iv] using hv
    · simp at he
      refine ⟨i, rfl, rfl, ⟨fun _ => ?_, fun _ => by omega⟩⟩
      have : x = l[i] := by exact_mod_cast he
      rw [this]; exact List.getElem_mem hlt
    · simp at he
      rw [wi (by omega) (by omega)]
      refine ⟨⟨i + 1, by simp [iv], rfl, hlt, ?_⟩, by simp only; omega⟩
      rw [List.take_succ_eq_append_getElem hlt]
      simp only [List.mem_append, List.mem_singleton]
      rintro (hh | hh)
      · exact hno hh
      · exact he (by exact_mod_cast hh)
  · refine ⟨-1, rfl, rfl, ⟨fun h => by omega, fun hx => ?_⟩⟩
    simp at h
    rw [List.take_of_length_le (by omega)] at hno
    exact absurd hx hno

theorem contains59 {l : List Nat} (hs : Ints w s l) (hn : s.n ≤ 1000000000) (x : Nat) :
    Calls Tryz.prog 59 #[.slice s.p s.n s.c, .int .i64 (x : Int)] w fun e w' => e = .returned (.bool (decide (x ∈ l))) ∧ w' = w := by
  refine ret (R := fun v w' => v = .bool (decide (x ∈ l)) ∧ w' = w) (c59 s.p s.n s.c x w ?_) (fun v w' ⟨hr, h⟩ => ⟨by rw [hr], h⟩)
  refine (index89 hs hn x).mono ?_
  rintro _ _ ⟨i, rfl, rfl, h⟩
  refine ⟨i, rfl, ?_, rfl⟩
  simp [h]

theorem isNaN147 (x : Int) : Calls Tryz.prog 147 #[.int .u64 x] w fun e w' => e = .returned (.bool false) ∧ w' = w := by
  refine ret (R := fun v w' => v = .bool false ∧ w' = w) (c147 x w ?_) (fun v w' ⟨hr, h⟩ => ⟨by rw [hr], h⟩)
  exact ⟨by simp, rfl⟩

theorem less130 (x y : Int) : Calls Tryz.prog 130 #[.int .u64 x, .int .u64 y] w fun e w' => e = .returned (.bool (decide (x < y))) ∧ w' = w := by
  refine ret (R := fun v w' => v = .bool (decide (x < y)) ∧ w' = w) (c130 x y w ?_) (fun v w' ⟨hr, h⟩ => ⟨by rw [hr], h⟩)
  refine (isNaN147 x).mono ?_
  rintro _ _ ⟨rfl, rfl⟩
  exact ⟨false, rfl, rfl, rfl⟩

theorem clip106 {l : List Nat} (hs : Ints w s l) (hn : s.n ≤ 1000000000) :
    Calls Tryz.prog 106 #[.slice s.p s.n s.c] w fun e w' => ∃ r : SV, e = .returned (.slice r.p r.n r.c) ∧ w' = w ∧ Ints w r l ∧ ∀ x ∈ r.own, x ∈ s.own := by
  refine ret (R := fun v w' => ∃ r : SV, v = .slice r.p r.n r.c ∧ w' = w ∧ Ints w r l ∧ ∀ x ∈ r.own, x ∈ s.own) (c106 s.p s.n s.c w ?_) (fun v w' ⟨r, hr, h⟩ => ⟨r, by rw [hr], h⟩)
  have hc := Sl.cap hs
  refine vslice_mk 0 s.n s.n (fun G h => h) (fun G h => ⟨by omega, by omega, by simpa using h⟩) (fun G h => ⟨by omega, by omega, by simpa using h⟩) (.inr (by simp)) (by simp) ?_
  have := Sl.cut hs (Nat.zero_le s.n) (Nat.le_refl _) (Nat.le_refl _) hc
  have hl := Sl.len hs
  rw [List.take_of_length_le (by simp at hl ⊢; omega)] at this
  refine ⟨s.cut 1 0 s.n s.n, rfl, rfl, by simpa [Ints] using this, fun x hx => ?_⟩
  rw [SV.mem_own] at hx ⊢
  obtain ⟨a, ha, hb⟩ := hx
  simp only [SV.cut] at ha
  split at ha
  · exact ⟨a, ha, hb⟩
  · cases hp : s.p with
    | none => simp [hp] at ha
    | some b =>
      obtain ⟨h1, _⟩ := Sl.at_ hs b hp
      rw [hp, addr_eta h1] at ha
      simp at ha
      exact ⟨b, rfl, by rw [← hb, ← ha]⟩
end

end Rx
end Go.Proofs.YtkoipeddfbeliaaGreat

/-
  IndexFunc, DeleteFunc.
-/
namespace Go.Proofs.YtkoipeddfbeliaaGreat
namespace Rx
open Go.RowKit
set_option maxRecDepth 100000

theorem vcallv_mk {P : Program} {g : FuncId} {cap : Array Value} {args : List Value} {w : World} {R : Ending → World → Prop} (hg : goodFn P g = true) (h : Calls P g (args ++ cap.toList).toArray w R) : vcallv P (.func (.func g) #[] cap) args w R := by
  show vcalld P g ([] ++ (args ++ cap.toList)) w R
  unfold vcalld
  rw [hg]; exact h

section
variable {w : World} {s : SV} {l : List Nat} {f : Value} {q : Nat → Bool}

/-- the first that is such -/
theorem index107 (hs : Ints w s l) (hn : s.n ≤ 1000000000) (hf : ∀ x ∈ l, vcallv Tryz.prog f [iv x] w fun e w' => e = .returned (.bool (q x)) ∧ w' = w) :
    Calls Tryz.prog 107 #[.slice s.p s.n s.c, f] w fun e w' => w' = w ∧ ((e = .returned (.int .i64 (-1)) ∧ ∀ x ∈ l, q x = false) ∨ ∃ i : Nat, e = .returned (.int .i64 i) ∧ i < l.length ∧ (∀ x ∈ l.take i, q x = false) ∧ ∀ x, l[i]? = some x → q x = true) := by
  refine ret (R := fun v w' => w' = w ∧ ((v = (.int .i64 (-1)) ∧ ∀ x ∈ l, q x = false) ∨ ∃ i : Nat, v = (.int .i64 i) ∧ i < l.length ∧ (∀ x ∈ l.take i, q x = false) ∧ ∀ x, l[i]? = some x → q x = true)) (c107 s.p s.n s.c f w ?_)
    (fun v w' ⟨hw, h⟩ => ⟨hw, h.elim (fun h => .inl ⟨by rw [h.1], h.2⟩) (fun ⟨i, h1, h2⟩ => .inr ⟨i, by rw [h1], h2⟩)⟩)
  refine ⟨fun vs w' => ∃ i : Nat, vs = [iv i] ∧ w' = w ∧ i ≤ l.length ∧ ∀ x ∈ l.take i, q x = false, fun vs _ => match vs with | [.int _ i] => (s.n - i).toNat | _ => 0, ⟨0, rfl, rfl, Nat.zero_le _, by simp⟩, ?_⟩
  rintro i3 w4 ⟨i, hi, rfl, hle, hno⟩
  simp only [iv, List.cons.injEq, Value.int.injEq, and_true, true_and] at hi
  subst hi
  have hsn := hs.n
  refine vif_mk (fun h => ?_) (fun h => ?_)
  · have hlt : i < l.length := by simp at h; omega
    refine Sl.idx hs (by omega) (by omega) fun a cs ha h1 h2 h3 h4 => ?_
    have hv := h4 i (iv l[i]) (by simp [hlt])
    refine ⟨l[i], ?_, vcallv_mono ?_ (hf l[i] (List.getElem_mem hlt))⟩
    · rw [addr_eta h1, add_mk, h2.cell]; simpa [iv] using hv
    · rintro _ _ ⟨rfl, rfl⟩
      refine ⟨_, rfl, vif_mk (fun he => ?_) (fun he => ?_)⟩
      · exact ⟨rfl, .inr ⟨i, rfl, hlt, hno, fun x hx => by rw [List.getElem?_eq_getElem hlt] at hx; simp at hx; rw [← hx]; exact he⟩⟩
      · rw [wi (by omega) (by omega)]
        refine ⟨⟨i + 1, by simp [iv], rfl, hlt, ?_⟩, by simp only; omega⟩
        rw [List.take_succ_eq_append_getElem hlt]
        intro x hx
        simp only [List.mem_append, List.mem_singleton] at hx
        rcases hx with hx | hx
        · exact hno x hx
        · rw [hx]; exact he
  · refine ⟨rfl, .inl ⟨rfl, ?_⟩⟩
    simp at h
    rw [List.take_of_length_le (by omega)] at hno
    exact hno

/-- a store into a slice of single cells -/
theorem Sl.store {w : World} {ty : TypeId} {s : SV} {vs : List Value} (hs : Sl w ty 1 s vs) {i : Nat} {v : Value} {K : World → Prop} (hi : i < s.n)
    (hK : ∀ w', Sl w' ty 1 s (vs.set i v) → Fr s.own w w' → w'.heap.size = w.heap.size → (ty ≠ 3 ∧ ty ≠ 5 ∧ ty ≠ 47 → Keeps w w') → K w') : vidx s.p s.n (i : Int) fun a => vstore1 w (a.add ((i : Int).toNat * 1)) v K := by
  refine hs.idx (by omega) (by omega) fun a cs ha h1 h2 h3 h4 => ?_
  have hc := hs.cap
  rw [addr_eta h1, add_mk]
  refine vstore1_mk h2 (by simp; omega) fun w' p => hK w' ⟨by simpa using hs.len, hs.cap, hs.nil, fun b hb => ?_⟩ (p.fr (SV.mem_own.2 ⟨a, ha, rfl⟩)) p.size (p.keeps h2)
  rw [ha] at hb; simp at hb; subst hb
  refine ⟨h1, _, p.blk, by simp; omega, fun j u hj => ?_⟩
  simp only [Int.toNat_natCast, Nat.mul_one]
  rw [List.getElem?_set] at hj
  split at hj
  · rename_i hij; subst hij
    split at hj
    · rename_i hlt
      simp at hj; subst hj
      have := hs.len
      simp [show a.off + i < cs.size by omega]
    · cases hj
  · rename_i hij
    rw [Array.getElem?_setIfInBounds_ne (by omega)]
    exact h4 j u hj

/-- a load from a slice of single cells -/
theorem Sl.load {w : World} {ty : TypeId} {s : SV} {vs : List Value} (hs : Sl w ty 1 s vs) {i : Nat} {v : Value} (hv : vs[i]? = some v) {K : Addr → Prop}
    (hK : ∀ a, w.cell? (a.add ((i : Int).toNat * 1)) = some v → K a) : vidx s.p s.n (i : Int) K := by
  have hlt := (List.getElem?_eq_some_iff.1 hv).1
  have := hs.len
  refine hs.idx (by omega) (by omega) fun a cs ha h1 h2 h3 h4 => hK a ?_
  have := h4 i v hv
  rw [addr_eta h1, add_mk, h2.cell]
  simpa using this

theorem vclear3_mk {w : World} {s : SV} {vs : List Value} (hs : Sl w 3 1 s vs) {i : Nat} (hi : i ≤ s.n) {K : World → Prop}
    (hK : ∀ w' us, Sl w' 3 1 s (vs.take i ++ us) → Fr s.own w w' → w'.heap.size = w.heap.size → K w') : vclear Tryz.prog 3 w (s.cut 1 i s.n s.c).p (s.cut 1 i s.n s.c).n K := by
  have hc := hs.cap
  have hl := hs.len
  have hcut := hs.cut (l := i) hi (Nat.le_refl _) hc (Nat.le_refl _)
  refine (vz3 _).mp ⟨fun a ha => ?_, by simp [Value.oneCell'], ?_⟩
  · obtain ⟨h1, cs, h2, h3, _⟩ := hcut.at_ a ha
    have := hcut.cap
    rw [addr_eta h1]
    exact h2.room (by simp; omega)
  · cases ha : (s.cut 1 i s.n s.c).p with
    | none =>
      refine hK w (vs.drop i) (by rw [List.take_append_drop]; exact hs) (Fr.refl _ _) rfl
    | some a =>
      simp only
      have hz : (Builtin.zeroCells #[.int .i64 0] (s.cut 1 i s.n s.c).n).toList.length = s.n - i := by simp [Builtin.zeroCells, SV.cut]
      generalize hus : (Builtin.zeroCells #[.int .i64 0] (s.cut 1 i s.n s.c).n).toList = us at hz
      cases hp : s.p with
      | none => have := hs.nil hp; simp [SV.cut, hp] at ha
      | some b =>
        obtain ⟨h1, cs, h2, h3, h4⟩ := hs.at_ b hp
        have hoff : a = ⟨b.block, b.off + i, none⟩ ∨ us = [] := by
          simp only [SV.cut, hp] at ha
          split at ha
          · right; exact List.eq_nil_of_length_eq_zero (by omega)
          · left; rw [addr_eta h1] at ha; simp at ha; exact ha.symm
        have hput : Put w (putCells w a us 0) b.block (setMany cs.toList (b.off + i) us).toArray 3 := by
          rcases hoff with rfl | rfl
          · simpa using putCells_put (o := b.off + i) us w cs 0 h2
          · exact ⟨by simpa [putCells, setMany] using h2, rfl, rfl, fun _ _ => rfl⟩
        have hle : b.off + i + us.length ≤ cs.toList.length := by simp; omega
        refine hK _ us ⟨by simp; omega, hs.cap, hs.nil, fun b' hb' => ?_⟩ (hput.fr (SV.mem_own.2 ⟨b, hp, rfl⟩)) hput.size
        rw [hp] at hb'; simp at hb'; subst hb'
        refine ⟨h1, _, hput.blk, by simp [setMany_length]; omega, fun j v hj => ?_⟩
        rw [List.getElem?_toArray, setMany_get _ _ _ _ hle]
        rcases Nat.lt_or_ge j i with hji | hji
        · rw [if_neg (by omega)]
          rw [List.getElem?_append_left (by simp; omega), List.getElem?_take_of_lt hji] at hj
          simpa using h4 j v hj
        · rw [List.getElem?_append_right (by simp; omega)] at hj
          have hjl := (List.getElem?_eq_some_iff.1 hj).1
          have hmin : min i vs.length = i := by omega
          simp only [List.length_take, hmin] at hj hjl
          rw [if_pos (by omega), show b.off + j - (b.off + i) = j - i by omega]
          exact hj

/-- those that are not such -/
theorem delete87 {w : World} {s : SV} {l : List Nat} {f : Value} {q : Nat → Bool} (hs : Ints w s l) (hn : s.n ≤ 1000000000)
    (hf : ∀ x ∈ l, ∀ w1, Fr s.own w w1 → w1.heap.size = w.heap.size → vcallv Tryz.prog f [iv x] w1 fun e w' => e = .returned (.bool (q x)) ∧ w' = w1) :
    Calls Tryz.prog 87 #[.slice s.p s.n s.c, f] w fun e w' => ∃ r : SV, e = .returned (.slice r.p r.n r.c) ∧ Ints w' r (l.filter fun x => !q x) ∧ Fr s.own w w' ∧ ∀ x ∈ r.own, x ∈ s.own := by
  refine ret (R := fun v w' => ∃ r : SV, v = .slice r.p r.n r.c ∧ Ints w' r (l.filter fun x => !q x) ∧ Fr s.own w w' ∧ ∀ x ∈ r.own, x ∈ s.own) (c87 s.p s.n s.c f w ?_) (fun v w' ⟨r, hr, h⟩ => ⟨r, by rw [hr], h⟩)
  refine (index107 (q := q) hs hn fun x hx => hf x hx w (Fr.refl _ _) rfl).mono ?_
  have hsn := hs.n
  have hcap := Sl.cap hs
  rintro e w1 ⟨rfl, ⟨rfl, hall⟩ | ⟨i0, rfl, hi0, hno, hyes⟩⟩
  · refine ⟨_, rfl, vif_t (by decide) ⟨s, rfl, ?_, Fr.refl _ _, fun x hx => hx⟩⟩
    rw [List.filter_eq_self.2 (fun x hx => by simp [hall x hx])]
    exact hs
  · refine ⟨_, rfl, vif_f (by simp) ?_⟩
    refine ⟨fun vs w' => ∃ (i j : Nat) (m : List Nat), vs = [iv i, iv j] ∧ Fr s.own w1 w' ∧ w'.heap.size = w1.heap.size ∧ Ints w' s m ∧ m.length = l.length ∧ i ≤ j ∧ j ≤ l.length ∧ m.take i = (l.take j).filter (fun x => !q x) ∧ m.drop j = l.drop j,
      fun vs _ => match vs with | [_, .int _ j] => (s.n - j).toNat | _ => 0, ?_, ?_⟩
    · rw [wi (by omega) (by omega)]
      refine ⟨i0, i0 + 1, l, by simp [iv], Fr.refl _ _, rfl, hs, rfl, by omega, hi0, ?_, rfl⟩
      rw [List.take_succ_eq_append_getElem hi0, List.filter_append, List.filter_eq_self.2 (fun x hx => by simp [hno x hx])]
      have := hyes l[i0] (List.getElem?_eq_getElem hi0)
      simp [this]
    · rintro i6 i7 w8 ⟨i, j, m, hv, hfr, hsz, hm, hml, hij, hjl, ht, hd⟩
      simp only [iv, List.cons.injEq, Value.int.injEq, and_true, true_and] at hv
      obtain ⟨rfl, rfl⟩ := hv
      refine vif_mk (fun h => ?_) (fun h => ?_)
      · have hlt : j < l.length := by simp at h; omega
        have hmj : m[j]? = some l[j] := by
          have : (m.drop j)[0]? = (l.drop j)[0]? := by rw [hd]
          simpa [hlt] using this
        refine Sl.load hm (i := j) (v := iv l[j]) (by simp [hmj]) fun a ha => ⟨l[j], ha, vcallv_mono ?_ (hf l[j] (List.getElem_mem hlt) w8 hfr hsz)⟩
        rintro _ _ ⟨rfl, rfl⟩
        have htk : (l.take (j + 1)).filter (fun x => !q x) = (l.take j).filter (fun x => !q x) ++ (if q l[j] then [] else [l[j]]) := by
          rw [List.take_succ_eq_append_getElem hlt, List.filter_append]
          cases hq : q l[j] <;> simp [hq]
        refine ⟨_, rfl, vif_mk (fun hq => ?_) (fun hq => ?_)⟩
        · simp at hq
          refine Sl.store hm (by omega) fun w' hm' hfr' hsz' _ => ?_
          rw [wi (by omega) (by omega), wi (by omega) (by omega)]
          refine ⟨⟨i + 1, j + 1, m.set i l[j], by simp [iv], ?_, hsz'.trans hsz, ?_, by simpa using hml, by omega, hlt, ?_, ?_⟩, by simp only; omega⟩
          · exact ⟨by omega, hfr'.os.trans hfr.os, fun b hb hbo => by rw [hfr'.rest b (by omega) hbo, hfr.rest b hb hbo]⟩
          · show Sl w' 3 1 s ((m.set i l[j]).map iv)
            rw [List.map_set]; exact hm'
          · rw [htk, hq, ← ht]
            have him : i < m.length := by omega
            rw [List.take_succ_eq_append_getElem (by simpa using him)]
            simp [List.take_set_of_le]
          · rw [List.drop_set_of_lt (by omega)]
            rw [← List.drop_drop, ← List.drop_drop, hd]
        · simp at hq
          rw [wi (by omega) (by omega)]
          refine ⟨⟨i, j + 1, m, by simp [iv], hfr, hsz, hm, hml, by omega, hlt, ?_, ?_⟩, by simp only; omega⟩
          · rw [htk, hq, ← ht]; simp
          · rw [← List.drop_drop, ← List.drop_drop, hd]
      · have hje : j = l.length := by simp at h; omega
        subst hje
        rw [List.take_length] at ht
        refine vslice_mk i s.n s.c (fun G hG => ⟨by omega, by omega, by simpa using hG⟩) (fun G h => h) (fun G h => h) (.inl rfl) (fun _ => rfl) ?_
        refine vclear3_mk hm (i := i) (by omega) fun w' us hw' hfr' hsz' => ?_
        refine vslice_mk 0 i s.c (fun G h => h) (fun G hG => ⟨by omega, by omega, by simpa using hG⟩) (fun G h => h) (.inl rfl) (fun _ => rfl) ?_
        have := hw'.cut (l := 0) (h := i) (m := s.c) (Nat.zero_le _) (by omega) (by omega) (Nat.le_refl _)
        refine ⟨s.cut 1 0 i s.c, rfl, ?_, ⟨by omega, hfr'.os.trans hfr.os, fun b hb hbo => by rw [hfr'.rest b (by omega) hbo, hfr.rest b hb hbo]⟩, fun x hx => ?_⟩
        · have hmi : i ≤ (m.map iv).length := by simp; omega
          simp only [List.drop_zero, Nat.sub_zero, Nat.mul_one] at this
          rw [List.take_append_of_le_length (by simp; omega), List.take_take, Nat.min_self, ← List.map_take, ht] at this
          exact this
        · rw [SV.mem_own] at hx ⊢
          obtain ⟨a, ha, hb⟩ := hx
          simp only [SV.cut] at ha
          split at ha
          · exact ⟨a, ha, hb⟩
          · cases hp : s.p with
            | none => simp [hp] at ha
            | some b =>
              obtain ⟨h1, _⟩ := Sl.at_ hs b hp
              rw [hp, addr_eta h1] at ha
              simp at ha
              exact ⟨b, rfl, by rw [← hb, ← ha]⟩
end

end Rx
end Go.Proofs.YtkoipeddfbeliaaGreat

/-
  Sorting a few numbers.
-/
namespace Go.Proofs.YtkoipeddfbeliaaGreat
namespace Rx
open Go.RowKit
set_option maxRecDepth 100000

theorem Fr.trans {M : List Nat} {a b c : World} (h : Fr M a b) (g : Fr M b c) : Fr M a c :=
  ⟨Nat.le_trans h.size g.size, g.os.trans h.os, fun k hk hm => by rw [g.rest k (Nat.lt_of_lt_of_le hk h.size) hm, h.rest k hk hm]⟩

def U64s (w : World) (s : SV) (l : List Nat) : Prop := Sl w 26 1 s (l.map uv)
theorem U64s.n {w : World} {s : SV} {l : List Nat} (h : U64s w s l) : s.n = l.length := by have := Sl.len h; simp at this; exact this.symm

/-- the order up to a place, but for what stands at j -/
def OrdBut (m : List Nat) (i j : Nat) : Prop := ∀ x y (hy : y < m.length) (_ : x < y), y ≤ i → y ≠ j → m[x]'(by omega) ≤ m[y]

theorem swap_ord {m : List Nat} {i j : Nat} (hj : 0 < j) (hji : j ≤ i) (hi : i < m.length) (h : OrdBut m i j) (hlt : m[j] < m[j - 1]) :
    OrdBut ((m.set j m[j - 1]).set (j - 1) m[j]) i (j - 1) := by
  intro x y hy hxy hyi hyj
  simp only [List.length_set] at hy
  have e : ∀ z (hz : z < m.length), ((m.set j m[j - 1]).set (j - 1) m[j])[z]'(by simpa using hz) = if z = j - 1 then m[j] else if z = j then m[j - 1] else m[z] := by
    intro z hz
    rw [List.getElem_set]
    by_cases h1 : j - 1 = z
    · simp [h1]
    · rw [if_neg h1, if_neg (fun hh => h1 hh.symm), List.getElem_set]
      by_cases h2 : j = z
      · simp [h2]
      · rw [if_neg h2, if_neg (fun hh => h2 hh.symm)]
  rw [e x (by omega), e y hy, if_neg hyj]
  by_cases h1 : y = j
  · subst h1
    rw [if_pos rfl]
    by_cases h2 : x = y - 1
    · rw [if_pos h2]; omega
    · rw [if_neg h2, if_neg (by omega)]
      exact h x (y - 1) (by omega) (by omega) (by omega) (by omega)
  · rw [if_neg h1]
    by_cases h2 : x = j - 1
    · rw [if_pos h2]; exact h j y hy (by omega) hyi h1
    · rw [if_neg h2]
      by_cases h3 : x = j
      · rw [if_pos h3]; exact h (j - 1) y hy (by omega) hyi h1
      · rw [if_neg h3]; exact h x y hy hxy hyi h1

theorem insertion124 {w : World} {s : SV} {l : List Nat} (hs : U64s w s l) (hn : s.n ≤ 1000000000) :
    Calls Tryz.prog 124 #[.slice s.p s.n s.c, .int .i64 0, .int .i64 (s.n : Int)] w fun e w' => e = .returned (.tuple #[]) ∧ ∃ m, U64s w' s m ∧ List.Perm m l ∧ m.Pairwise (· ≤ ·) ∧ Fr s.own w w' := by
  refine ret (R := fun v w' => v = .tuple #[] ∧ ∃ m, U64s w' s m ∧ List.Perm m l ∧ m.Pairwise (· ≤ ·) ∧ Fr s.own w w') (c124 s.p s.n s.c 0 s.n w ?_) (fun v w' ⟨h1, h2⟩ => ⟨by rw [h1], h2⟩)
  have hsn := hs.n
  refine ⟨fun vs w' => ∃ (i : Nat) (m : List Nat), vs = [iv i] ∧ Fr s.own w w' ∧ U64s w' s m ∧ List.Perm m l ∧ 1 ≤ i ∧ ∀ x y (hy : y < m.length) (_ : x < y), y < i → m[x]'(by omega) ≤ m[y],
    fun vs _ => match vs with | [.int _ j] => (s.n - j).toNat | _ => 0, ?_, ?_⟩
  · exact ⟨1, l, by simp [iv, IntKind.wrap_i64], Fr.refl _ _, hs, List.Perm.refl _, by omega, fun x y hy h1 h2 => by omega⟩
  rintro i3 w4 ⟨i, m, hv, hfr, hm, hp, hi1, ho⟩
  simp only [iv, List.cons.injEq, Value.int.injEq, and_true, true_and] at hv
  subst hv
  refine vif_mk (fun h => ?_) (fun h => ?_)
  · have hil : i < s.n := by simp at h; omega
    refine ⟨fun vs w' => ∃ (j : Nat) (m : List Nat), vs = [iv j] ∧ Fr s.own w w' ∧ U64s w' s m ∧ List.Perm m l ∧ j ≤ i ∧ OrdBut m i j, fun vs _ => match vs with | [.int _ j] => j.toNat | _ => 0, ?_, ?_⟩
    · exact ⟨i, m, rfl, hfr, hm, hp, Nat.le_refl _, fun x y hy h1 h2 h3 => ho x y hy h1 (by omega)⟩
    clear hfr hm hp ho
    rintro i7 w8 ⟨j, m, hv, hfr, hm, hp, hji, ho⟩
    simp only [iv, List.cons.injEq, Value.int.injEq, and_true, true_and] at hv
    subst hv
    have hml : m.length = l.length := hp.length_eq
    have hmn := hm.n
    have fin : ∀ w5, Fr s.own w w5 → U64s w5 s m → (j = 0 ∨ ∀ hj : 0 < j, m[j - 1]'(by omega) ≤ m[j]'(by omega)) →
        (∃ (i' : Nat) (m : List Nat), [Value.int .i64 (IntKind.i64.wrap ((i : Int) + 1))] = [iv i'] ∧ Fr s.own w w5 ∧ U64s w5 s m ∧ List.Perm m l ∧ 1 ≤ i' ∧ ∀ x y (hy : y < m.length) (_ : x < y), y < i' → m[x]'(by omega) ≤ m[y]) ∧
        ((s.n : Int) - IntKind.i64.wrap ((i : Int) + 1)).toNat < ((s.n : Int) - i).toNat := by
      intro w5 h1 h2 h3
      rw [wi (by omega) (by omega)]
      refine ⟨⟨i + 1, m, by simp [iv], h1, h2, hp, by omega, fun x y hy hxy hyi => ?_⟩, by omega⟩
      by_cases hyj : y = j
      · subst hyj
        rcases h3 with h3 | h3
        · omega
        · have h4 := h3 (by omega)
          by_cases hx : x = y - 1
          · subst hx; exact h4
          · exact Nat.le_trans (ho x (y - 1) (by omega) (by omega) (by omega) (by omega)) h4
      · exact ho x y hy hxy (by omega) hyj
    refine ⟨fun vs w' => vs = [] ∧ 0 < j ∧ Fr s.own w w' ∧ U64s w' s m ∧ ∃ hj : 0 < j, m[j]'(by omega) < m[j - 1]'(by omega), ?_, ?_⟩
    · refine vdraw_mk fun w10 hx hh => ?_
      have hm' : U64s w10 s m := Sl.ex hm hx
      have hfr' : Fr s.own w w10 := hfr.trans (hx.fr _)
      refine vif_mk (fun h1 => ?_) (fun h1 => ?_)
      · have hj0 : 0 < j := by simp at h1; exact h1
        rw [show ((j : Int) - 1) = ((j - 1 : Nat) : Int) by omega, wi (n := ((j - 1 : Nat) : Int)) (by omega) (by omega)]
        refine Sl.load hm' (i := j) (v := uv (m[j]'(by omega))) (by simp [show j < m.length by omega]) fun a ha => ?_
        refine Sl.load hm' (i := j - 1) (v := uv (m[j - 1]'(by omega))) (by simp [show j - 1 < m.length by omega]) fun b hb => ?_
        refine ⟨_, ha, _, hb, (less130 _ _).mono ?_⟩
        rintro _ _ ⟨rfl, rfl⟩
        refine ⟨_, rfl, vif_mk (fun h2 => ?_) (fun h2 => ?_)⟩
        · exact ⟨rfl, hj0, hfr', hm', hj0, by simpa using h2⟩
        · exact fin _ hfr' hm' (.inr fun _ => by simpa using h2)
      · exact fin _ hfr' hm' (.inl (by simp at h1; omega))
    · rintro w18 ⟨-, hj0, hfr', hm', hj0', hlt⟩
      refine vdraw_mk fun w19 hx hh => ?_
      have hm2 : U64s w19 s m := Sl.ex hm' hx
      have hfr2 : Fr s.own w w19 := hfr'.trans (hx.fr _)
      rw [show ((j : Int) - 1) = ((j - 1 : Nat) : Int) by omega, wi (n := ((j - 1 : Nat) : Int)) (by omega) (by omega)]
      refine Sl.load hm2 (i := j - 1) (v := uv (m[j - 1]'(by omega))) (by simp [show j - 1 < m.length by omega]) fun b hb => ?_
      refine Sl.load hm2 (i := j) (v := uv (m[j]'(by omega))) (by simp [show j < m.length by omega]) fun a ha => ?_
      refine ⟨_, hb, _, ha, ?_⟩
      refine Sl.store hm2 (i := j) (by omega) fun w25 h25 f25 s25 _ => ?_
      refine Sl.store h25 (i := j - 1) (by omega) fun w27 h27 f27 s27 _ => ?_
      refine ⟨⟨j - 1, (m.set j (m[j - 1]'(by omega))).set (j - 1) (m[j]'(by omega)), rfl, hfr2.trans (f25.trans f27), ?_, ?_, by omega, swap_ord hj0 hji (by omega) ho hlt⟩, by simp only; omega⟩
      · show Sl w27 26 1 s (((m.set j (m[j - 1]'(by omega))).set (j - 1) (m[j]'(by omega))).map uv)
        rw [List.map_set, List.map_set]; exact h27
      · exact (List.set_set_perm (by omega) (by omega)).trans hp
  · refine ⟨rfl, m, hm, hp, ?_, hfr⟩
    rw [List.pairwise_iff_getElem]
    intro x y hx hy hxy
    have := hm.n
    simp at h
    exact ho x y hy hxy (by omega)

theorem pdq117 {w : World} {s : SV} {l : List Nat} (hs : U64s w s l) (hn : s.n ≤ 12) (k : Int) :
    Calls Tryz.prog 117 #[.slice s.p s.n s.c, .int .i64 0, .int .i64 (s.n : Int), .int .i64 k] w fun e w' => e = .returned (.tuple #[]) ∧ ∃ m, U64s w' s m ∧ List.Perm m l ∧ m.Pairwise (· ≤ ·) ∧ Fr s.own w w' := by
  refine ret (R := fun v w' => v = .tuple #[] ∧ ∃ m, U64s w' s m ∧ List.Perm m l ∧ m.Pairwise (· ≤ ·) ∧ Fr s.own w w') (c117 s.p s.n s.c 0 s.n k w ?_) (fun v w' ⟨h1, h2⟩ => ⟨by rw [h1], h2⟩)
  refine ⟨fun vs w' => vs = [.int .i64 0, .int .i64 (s.n : Int), .int .i64 k, .bool true, .bool true] ∧ w' = w, fun _ _ => 0, ⟨rfl, rfl⟩, ?_⟩
  rintro i3 i4 i5 b6 b7 w8 ⟨hv, rfl⟩
  simp only [List.cons.injEq, Value.int.injEq, Value.bool.injEq, and_true, true_and] at hv
  obtain ⟨rfl, rfl, rfl, rfl, rfl⟩ := hv
  rw [wi (by omega) (by omega)]
  refine vif_t (by simp; omega) ?_
  refine (insertion124 hs (by omega)).mono ?_
  rintro _ w' ⟨rfl, h⟩
  exact ⟨rfl, rfl, h⟩

theorem bytesAt {A : ByteArray} {k : Nat} {Q : UInt8 → Prop} (hk : k < A.size) (h : ∀ c, Q c) : ∃ c, A[k]? = some c ∧ Q c := ⟨A[k], by simp [hk], h _⟩

theorem len134 {w : World} {x : Int} (h0 : 0 ≤ x) (h : x < 256) : Calls Tryz.prog 134 #[.int .u64 x] w fun e w' => w' = w ∧ ∃ i : Int, e = .returned (.int .i64 i) := by
  refine ret (R := fun v w' => w' = w ∧ ∃ i : Int, v = .int .i64 i) (c134 x w ?_) (fun v w' ⟨h1, i, h2⟩ => ⟨h1, i, by rw [h2]⟩)
  refine ⟨fun vs w' => vs = [.int .u64 x, .int .i64 0] ∧ w' = w, vif_f (by simp; omega) ⟨rfl, rfl⟩, ?_⟩
  rintro i2 i3 w4 ⟨hv, rfl⟩
  simp only [List.cons.injEq, Value.int.injEq, and_true, true_and] at hv
  obtain ⟨rfl, rfl⟩ := hv
  refine vif_f (by simp; omega) (vif_f (by simp; omega) ?_)
  rw [show IntKind.u8.wrap i2 = i2 by rw [IntKind.wrap_u8]; omega]
  refine ⟨h0, ?_⟩
  exact bytesAt (Nat.lt_of_lt_of_le (m := 256) (by omega) (Nat.le_of_ble_eq_true rfl)) fun c => ⟨rfl, _, rfl⟩

theorem len118 {w : World} {x : Int} (h0 : 0 ≤ x) (h : x < 256) : Calls Tryz.prog 118 #[.int .u64 x] w fun e w' => w' = w ∧ ∃ i : Int, e = .returned (.int .i64 i) := by
  refine ret (R := fun v w' => w' = w ∧ ∃ i : Int, v = .int .i64 i) (c118 x w ?_) (fun v w' ⟨h1, i, h2⟩ => ⟨h1, i, by rw [h2]⟩)
  refine (len134 h0 h).mono ?_
  rintro _ _ ⟨rfl, i, rfl⟩
  exact ⟨_, rfl, rfl, _, rfl⟩

theorem sort109 {w : World} {s : SV} {l : List Nat} (hs : U64s w s l) (hn : s.n ≤ 12) :
    Calls Tryz.prog 109 #[.slice s.p s.n s.c] w fun e w' => e = .returned (.tuple #[]) ∧ ∃ m, U64s w' s m ∧ List.Perm m l ∧ m.Pairwise (· ≤ ·) ∧ Fr s.own w w' := by
  refine ret (R := fun v w' => v = .tuple #[] ∧ ∃ m, U64s w' s m ∧ List.Perm m l ∧ m.Pairwise (· ≤ ·) ∧ Fr s.own w w') (c109 s.p s.n s.c w ?_) (fun v w' ⟨h1, h2⟩ => ⟨by rw [h1], h2⟩)
  rw [F109, wu (by omega) (by omega)]
  refine (len118 (by omega) (by omega)).mono ?_
  rintro _ _ ⟨rfl, i, rfl⟩
  refine ⟨_, rfl, (pdq117 hs hn i).mono ?_⟩
  rintro _ w' ⟨rfl, h⟩
  exact ⟨rfl, rfl, h⟩

end Rx
end Go.Proofs.YtkoipeddfbeliaaGreat

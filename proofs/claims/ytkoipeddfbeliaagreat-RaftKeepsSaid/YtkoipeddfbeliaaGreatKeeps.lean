/-
  RaftKeeps answers true at every number of nodes and every row of steps, and leaves both as they were: what was agreed stays in each later leader's log. There are no conditions.
-/
import Derived.Test.YtkoipeddfbeliaaGreatSa13
import Derived.ProofKit
import Derived.Deep.Strs
/-
  The statements' functions: RaftSafe, RaftKeeps.
-/
namespace Go.Proofs.YtkoipeddfbeliaaGreat
namespace Rx
open Go.RowKit Md
set_option maxRecDepth 100000

/-- a step's cells -/
def stepV (p : Int × Int × Nat) : List Value := (stepA p.1 p.2.1 p.2.2).toList
theorem stepV_len (p : Int × Int × Nat) : (stepV p).length = 3 := rfl
/-- the steps in memory -/
structure Steps (w : World) (s : SV) (l : List (Int × Int × Nat)) : Prop where
  n : s.n = l.length
  at_ : ∀ i p, l[i]? = some p → ∃ a, s.p = some a ∧ CellsAt w (a.add (i * 3)) (stepV p)
  lim : ∀ p ∈ l, p.2.2 < 18446744073709551616
theorem Steps.ex {w w' : World} {s : SV} {l : List (Int × Int × Nat)} (h : Steps w s l) (e : Ex w w') : Steps w' s l := ⟨h.n, fun i p hp => let ⟨a, h1, h2⟩ := h.at_ i p hp; ⟨a, h1, e.ext.cells h2⟩, h.lim⟩

def sizeN (x0 : Nat) : Nat := 1 + x0 % 7
theorem size_is {x0 : Nat} (h : x0 < 256) : IntKind.i64.wrap (1 + IntKind.i64.wrap ((x0 : Int).tmod 7)) = (sizeN x0 : Int) := by
  have : ((x0 : Int).tmod 7) = ((x0 % 7 : Nat) : Int) := by rw [Int.tmod_eq_emod_of_nonneg (by omega)]; rfl
  have hlt := Nat.mod_lt x0 (show 0 < 7 by omega)
  rw [this, wi (n := ((x0 % 7 : Nat) : Int)) (by omega) (by omega), wi (by omega) (by omega)]
  unfold sizeN; omega
theorem size_b (x0 : Nat) : 1 ≤ sizeN x0 ∧ sizeN x0 ≤ 7 := by unfold sizeN; have := Nat.mod_lt x0 (show 0 < 7 by omega); omega

theorem good0 {N : Nat} (h : 1 ≤ N ∧ N ≤ 7) : Good (Sf.g0 N) (Sf.begin0 N) N :=
  ⟨Sf.inv0 h.1 h.2, by show 0 ≤ 900; omega, fun n hn => by
    obtain ⟨i, _, rfl⟩ := List.mem_map.1 hn
    rfl, by show 0 ≤ 200; omega, rfl, h, by simp [Sf.begin0]⟩

section
variable {w0 w : World} {b N : Nat} {wl : Sf.Wl} {g : Sf.G}

/-- all is safe -/
theorem Good.safe (h : WOk w0 w b wl N (Sf.PL g) (Sf.PA g)) (hg : Good g wl N) : Calls Tryz.prog 12 #[.pointer (some ⟨b, 0, none⟩)] w fun e w' => e = .returned (.bool true) ∧ WOk w0 w' b wl N (Sf.PL g) (Sf.PA g) := by
  have hB := hg.B
  refine safe12 h hg.N1.2 (fun n hn => ?_) (fun i n hn hr => hg.inv.leads hn hr) (fun n hn e he hc => ?_) (fun T i j => Sf.PL.one) fun k e e' => Sf.PA.one hg.inv.gi
  · obtain ⟨i, hi⟩ := List.mem_iff_getElem?.1 hn
    exact (hg.inv.ns i n hi).fit hg.inv.gi (by omega)
  · obtain ⟨i, hi⟩ := List.mem_iff_getElem?.1 hn
    exact hg.inv.agreed hi he hc
/-- a step -/
theorem Good.do (h : WOk w0 w b wl N (Sf.PL g) (Sf.PA g)) (hg : Good g wl N) (hB : g.B < 900) (kind node : Int) (draw : Nat) (hd : draw < 18446744073709551616) :
    Calls Tryz.prog 9 #[.pointer (some ⟨b, 0, none⟩), .agg (stepA kind node draw)] w fun e w' => e = .returned (.tuple #[]) ∧ ∃ g' wl', WOk w0 w' b wl' N (Sf.PL g') (Sf.PA g') ∧ Good g' wl' N ∧ Sf.Mono g g' ∧ g'.B = g.B + 1 := by
  refine (do9 h hg kind node draw hd).mono ?_
  rintro _ w' ⟨rfl, i, hw⟩
  obtain ⟨g', h1, h2, h3⟩ := hg.step hB kind i draw
  exact ⟨rfl, g', _, hw.mono (fun T j hh => hh.mono h2) (fun k e hh => hh.mono h2), h1, h2, h3⟩

/-- the beginning of each statement -/
theorem start {w : World} {s : SV} {l : List (Int × Int × Nat)} (hs : Steps w s l) {R : Value → World → Prop} {J : List Value → World → Prop} (hR : ∀ w', Ex w w' → R (.bool true) w') (hJ : ∀ w', Ex w w' → l.length ≤ 300 → J [] w') :
    Calls Tryz.prog 7 #[] w fun e2 w3 => ∃ (b4 : Bool), e2 = .returned (.bool (b4)) ∧ vif (!b4)
      (Calls Tryz.prog 7 #[] w3 fun e5 w6 => ∃ (b7 : Bool), e5 = .returned (.bool (b7)) ∧ R (.bool (b7)) w6)
      (vif (decide (((s.n : Nat) : Int) > 300))
        (Calls Tryz.prog 7 #[] w3 fun e8 w9 => ∃ (b10 : Bool), e8 = .returned (.bool (b10)) ∧ R (.bool (b10)) w9)
        (J [] w3)) := by
  have hn := hs.n
  refine lives7.mono ?_
  rintro _ w1 ⟨rfl, e1⟩
  refine ⟨_, rfl, vif_f rfl (vif_mk (fun h2 => lives7.mono ?_) fun h2 => hJ w1 e1 (by simp at h2; omega))⟩
  rintro _ w2 ⟨rfl, e2⟩
  exact ⟨_, rfl, hR w2 (e1.trans e2)⟩

/-- a step out of the row -/
theorem take_step {w : World} {s : SV} {l : List (Int × Int × Nat)} (hs : Steps w s l) {i : Nat} {p : Int × Int × Nat} (hp : l[i]? = some p) {K : Array Value → World → Prop} (hK : ∀ w', Ex w w' → K (stepA p.1 p.2.1 p.2.2) w') :
    vidx s.p s.n (i : Int) fun a19 => vcells 3 w (a19.add ((i : Int).toNat * 3)) fun g20 => vnew w (.cells #[.int .i64 0, .int .i64 0, .int .u64 0] 28) fun a21 w22 => vstoreN w22 a21 3 g20 fun w23 => vcells 3 w23 a21 fun g24 => K g24 w23 := by
  obtain ⟨a, ha, hc⟩ := hs.at_ i p hp
  have hil := (List.getElem?_eq_some_iff.1 hp).1
  have hn := hs.n
  refine ⟨a, ha, by omega, by omega, (stepV p).toArray, by simp [stepV_len], by simpa using hc, vnew_mk fun w1 e1 s1 b1 => ?_⟩
  have hb1 : Blk w1 w.heap.size #[.int .i64 0, .int .i64 0, .int .u64 0] 28 := b1
  refine vstoreN_mk hb1 rfl (by simp) (by simp [stepV, stepA, isOne]) fun w2 p2 => vcells_all p2.blk 3 (by simp [setMany_length]) (hK w2 (e1.put p2 (Nat.le_refl _)))

theorem raftSafe4 {w : World} {s : SV} {l : List (Int × Int × Nat)} (hs : Steps w s l) {x0 : Nat} (hx : x0 < 256) :
    Calls Tryz.prog 4 #[.int .u8 (x0 : Int), .slice s.p s.n s.c] w fun e w' => e = .returned (.bool true) ∧ Ex w w' := by
  refine ret (R := fun v w' => v = .bool true ∧ Ex w w') (c4 x0 s.p s.n s.c w ?_) (fun v w' ⟨h1, h2⟩ => ⟨by rw [h1], h2⟩)
  unfold F4
  rw [size_is hx]
  have hN := size_b x0
  generalize sizeN x0 = N at hN
  refine ⟨fun vs w' => vs = [] ∧ Ex w w' ∧ l.length ≤ 300, start (R := fun v w' => v = .bool true ∧ Ex w w') (J := fun vs w' => vs = [] ∧ Ex w w' ∧ l.length ≤ 300) hs (fun w' e => ⟨rfl, e⟩) (fun w' e hl => ⟨rfl, e, hl⟩), ?_⟩
  rintro w1 ⟨_, e1, hl⟩
  have hn := hs.n
  refine ⟨by decide, (begin8 hN.1 hN.2 (Sf.PL (Sf.g0 N)) (Sf.PA (Sf.g0 N))).mono ?_⟩
  rintro _ w2 ⟨b, rfl, h2⟩
  refine ⟨_, rfl, fun vs w' => ∃ (i : Nat) (g : Sf.G) (wl : Sf.Wl), vs = [iv i] ∧ i ≤ l.length ∧ WOk w1 w' b wl N (Sf.PL g) (Sf.PA g) ∧ Good g wl N ∧ g.B = i,
    fun vs _ => match vs with | [.int _ i] => ((l.length : Int) - i).toNat | _ => 0, ⟨0, _, _, rfl, by omega, h2, good0 hN, rfl⟩, ?_⟩
  rintro i17 w3 ⟨i, g, wl, hv, hi, h3, hg, hB⟩
  simp only [iv, List.cons.injEq, Value.int.injEq, and_true, true_and] at hv
  subst hv
  have ex3 : Ex w1 w3 := by obtain ⟨_, _, _, _, _, _, _, _, _, _, _, _, q, _⟩ := h3; exact q
  refine vif_mk (fun h4 => ?_) fun h4 => ⟨rfl, e1.trans ex3⟩
  have hil : i < l.length := by simp at h4; omega
  have hp : l[i]? = some l[i] := List.getElem?_eq_getElem hil
  have hd := hs.lim _ (List.getElem_mem hil)
  generalize l[i] = p at hp hd
  refine take_step (hs.ex (e1.trans ex3)) hp fun w4 e4 => ?_
  have h4' : WOk w1 w4 b wl N (Sf.PL g) (Sf.PA g) := by
    obtain ⟨rs, sn, sc, st, cm, ops, lm, am, L, A, q1, q2, q3, q4, q5⟩ := h3
    exact ⟨rs, sn, sc, st, cm, ops, lm, am, L, A, q1.ex e4, q2, q3.trans e4, q4, q5⟩
  refine (Good.do h4' hg (by omega) p.1 p.2.1 p.2.2 hd).mono ?_
  rintro _ w5 ⟨rfl, g', wl', h5, hg', _, hB'⟩
  refine ⟨rfl, (hg'.safe h5).mono ?_⟩
  rintro _ w6 ⟨rfl, h6⟩
  rw [wi (by omega) (by omega)]
  exact ⟨_, rfl, vif_f (by simp) ⟨⟨i + 1, g', wl', by simp [iv], hil, h6, hg', by omega⟩, by simp only; omega⟩⟩

theorem raftKeeps6 {w : World} {s : SV} {l : List (Int × Int × Nat)} (hs : Steps w s l) {x0 : Nat} (hx : x0 < 256) :
    Calls Tryz.prog 6 #[.int .u8 (x0 : Int), .slice s.p s.n s.c] w fun e w' => e = .returned (.bool true) ∧ Ex w w' := by
  refine ret (R := fun v w' => v = .bool true ∧ Ex w w') (c6 x0 s.p s.n s.c w ?_) (fun v w' ⟨h1, h2⟩ => ⟨by rw [h1], h2⟩)
  unfold F6
  rw [size_is hx]
  have hN := size_b x0
  generalize sizeN x0 = N at hN
  refine ⟨fun vs w' => vs = [] ∧ Ex w w' ∧ l.length ≤ 300, start (R := fun v w' => v = .bool true ∧ Ex w w') (J := fun vs w' => vs = [] ∧ Ex w w' ∧ l.length ≤ 300) hs (fun w' e => ⟨rfl, e⟩) (fun w' e hl => ⟨rfl, e, hl⟩), ?_⟩
  rintro w1 ⟨_, e1, hl⟩
  have hn := hs.n
  refine ⟨by decide, (begin8 hN.1 hN.2 (Sf.PL (Sf.g0 N)) (Sf.PA (Sf.g0 N))).mono ?_⟩
  rintro _ w2 ⟨b, rfl, h2⟩
  refine ⟨_, rfl, fun vs w' => ∃ (i most inn : Nat) (g : Sf.G) (wl : Sf.Wl), vs = [uv most, uv inn, iv i] ∧ i ≤ l.length ∧ WOk w1 w' b wl N (Sf.PL g) (Sf.PA g) ∧ Good g wl N ∧ g.B = i ∧ Sf.PK g most inn,
    fun vs _ => match vs with | [_, _, .int _ i] => ((l.length : Int) - i).toNat | _ => 0, ⟨0, 0, 0, _, _, rfl, by omega, h2, good0 hN, rfl, .inl rfl⟩, ?_⟩
  rintro i17 i18 i19 w3 ⟨i, before, term, g, wl, hv, hi, h3, hg, hB, hk⟩
  simp only [iv, uv, List.cons.injEq, Value.int.injEq, and_true, true_and] at hv
  obtain ⟨rfl, rfl, rfl⟩ := hv
  have ex3 : Ex w1 w3 := by obtain ⟨_, _, _, _, _, _, _, _, _, _, _, _, q, _⟩ := h3; exact q
  refine vif_mk (fun h4 => ?_) fun h4 => ⟨rfl, e1.trans ex3⟩
  have hil : i < l.length := by simp at h4; omega
  have hp : l[i]? = some l[i] := List.getElem?_eq_getElem hil
  have hd := hs.lim _ (List.getElem_mem hil)
  generalize l[i] = p at hp hd
  refine take_step (hs.ex (e1.trans ex3)) hp fun w4 e4 => ?_
  have h4' : WOk w1 w4 b wl N (Sf.PL g) (Sf.PA g) := by
    obtain ⟨rs, sn, sc, st, cm, ops, lm, am, L, A, q1, q2, q3, q4, q5⟩ := h3
    exact ⟨rs, sn, sc, st, cm, ops, lm, am, L, A, q1.ex e4, q2, q3.trans e4, q4, q5⟩
  refine (Good.do h4' hg (by omega) p.1 p.2.1 p.2.2 hd).mono ?_
  rintro _ w5 ⟨rfl, g', wl', h5, hg', hmono, hB'⟩
  have hk' : Sf.PK g' before term := hk.mono hmono
  obtain ⟨rs, sn, sc, st, cm, ops, lm, am, L, A, hw, low, ex5, hL, hA⟩ := h5
  have hsn : sn.n = N := by have hh := hw.nodes.len; rw [List.length_map, hw.len.1] at hh; omega
  have hB5 := hg'.B
  have nodeAt : ∀ {k : Nat}, k < N → ∃ q n, rs[k]? = some q ∧ wl'.ns[k]? = some n ∧ ∀ {w' : World}, Ex w5 w' → NodeR w' q.1 n q.2 := fun {k} hkN => by
    have hkl : k < rs.length := by rw [hw.len.1]; exact hkN
    have hq : rs[k]? = some rs[k] := List.getElem?_eq_getElem hkl
    obtain ⟨n, h1, h2⟩ := hw.node k _ hq
    exact ⟨rs[k], n, hq, h1, fun e => h2.ex e⟩
  refine ⟨rfl, (?_ : ∃ _, _)⟩
  simp only [add_mk, Nat.zero_add]
  refine ⟨sn.p, sn.n, sn.c, hw.blk.at_ 0 rfl, fun vs w' => ∃ (k most inn : Nat), vs = [uv most, uv inn, iv k] ∧ k ≤ N ∧ w' = w5 ∧ Sf.PK g' most inn, fun vs _ => match vs with | [_, _, .int _ k] => ((N : Int) - k).toNat | _ => 0, ⟨0, before, term, rfl, by omega, rfl, hk'⟩, ?_⟩
  rintro i33 i34 i35 w6 ⟨k, most, inn, hv, hkN, rfl, hpk⟩
  simp only [iv, uv, List.cons.injEq, Value.int.injEq, and_true, true_and] at hv
  obtain ⟨rfl, rfl, rfl⟩ := hv
  refine vif_mk (fun h6 => ?_) fun h6 => ?_
  · -- how far all is committed
    have hk1 : k < N := by simp at h6; omega
    obtain ⟨q, n, hq, hn', hR⟩ := nodeAt hk1
    have hR := hR (Ex.refl _)
    refine Sl.load hw.nodes (i := k) (v := .pointer (some ⟨q.1, 0, none⟩)) (by rw [List.getElem?_map, hq]; rfl) fun a ha => ⟨some ⟨q.1, 0, none⟩, ha, (commit19 hR).mono ?_⟩
    rintro _ _ ⟨rfl, rfl⟩
    rw [wi (by omega) (by omega)]
    refine ⟨_, rfl, vif_mk (fun h7 => (commit19 hR).mono ?_) fun h7 => ⟨⟨k + 1, most, inn, by simp [iv, uv], hk1, rfl, hpk⟩, by simp only; omega⟩⟩
    rintro _ _ ⟨rfl, rfl⟩
    refine ⟨_, rfl, (term20 hR).mono ?_⟩
    rintro _ _ ⟨rfl, rfl⟩
    have hmax : (if (inn : Int) < (n.term : Int) then (n.term : Int) else (inn : Int)) = ((max inn n.term : Nat) : Int) := by split <;> omega
    refine ⟨_, rfl, ?_⟩
    rw [hmax]
    exact ⟨⟨k + 1, n.commit, max inn n.term, by simp [iv, uv], hk1, rfl, hg'.inv.pk hn'⟩, by simp only; omega⟩
  · refine ⟨sn.p, sn.n, sn.c, hw.blk.at_ 0 rfl, fun vs w' => ∃ k : Nat, vs = [iv k] ∧ k ≤ N ∧ Ex w6 w', fun vs _ => match vs with | [.int _ k] => ((N : Int) - k).toNat | _ => 0, ⟨0, rfl, by omega, Ex.refl _⟩, ?_⟩
    rintro i52 w7 ⟨k2, hv, hk2, e7⟩
    simp only [iv, List.cons.injEq, Value.int.injEq, and_true, true_and] at hv
    subst hv
    have hw7 := hw.ex e7
    refine vif_mk (fun h8 => ?_) fun h8 => ?_
    · -- a leader of a later term has it
      have hk1 : k2 < N := by simp at h8; omega
      obtain ⟨q, n, hq, hn', hRe⟩ := nodeAt hk1
      have hR := hRe e7
      have hfit : Fit n := (hg'.inv.ns _ n hn').fit hg'.inv.gi (by omega)
      have next : ∀ {w' : World}, Ex w6 w' → (∃ k : Nat, [Value.int .i64 (IntKind.i64.wrap ((k2 : Int) + 1))] = [iv k] ∧ k ≤ N ∧ Ex w6 w') ∧ ((N : Int) - IntKind.i64.wrap ((k2 : Int) + 1)).toNat < ((N : Int) - (k2 : Int)).toNat := fun e => by
        rw [wi (by omega) (by omega)]
        exact ⟨⟨k2 + 1, by simp [iv], hk1, e⟩, by omega⟩
      refine Sl.load hw7.nodes (i := k2) (v := .pointer (some ⟨q.1, 0, none⟩)) (by rw [List.getElem?_map, hq]; rfl) fun a ha => ⟨some ⟨q.1, 0, none⟩, ha, fun vs w' => vs = [] ∧ w' = w7 ∧ n.role = 3 ∧ term < n.term, (role17 hR).mono ?_, ?_⟩
      · rintro _ _ ⟨rfl, rfl⟩
        refine ⟨_, rfl, vif_mk (fun h9 => next e7) fun h9 => (term20 hR).mono ?_⟩
        rintro _ _ ⟨rfl, rfl⟩
        exact ⟨_, rfl, vif_mk (fun h10 => next e7) fun h10 => ⟨rfl, rfl, by simp at h9; omega, by simp at h10; omega⟩⟩
      · rintro w8 ⟨_, rfl, hr3, hlt⟩
        obtain ⟨hkl, hke⟩ := hg'.inv.keeps hn' hr3 hk' hlt
        refine (last21 hR hfit).mono ?_
        rintro _ w9 ⟨rfl, e9⟩
        refine ⟨_, rfl, vif_f (by simp; omega) ((state10 (hR.ex e9) hfit).mono ?_)⟩
        rintro _ w10 ⟨m, d, qq, qs, rfl, e10, _, _, hqq, _⟩
        have e910 := e9.trans e10
        have hqn := hqq.n
        have hql := hqq.len
        have hll := hfit.log.len
        refine ⟨_, rfl, rfl, qq.p, qq.n, qq.c, rfl, fun vs w' => ∃ k : Nat, vs = [iv k] ∧ k ≤ n.log.l.length ∧ Ex w10 w', fun vs _ => match vs with | [.int _ k] => ((n.log.l.length : Int) - k).toNat | _ => 0, ⟨0, rfl, by omega, Ex.refl _⟩, ?_⟩
        rintro i73 w11 ⟨k3, hv, hk3, e11⟩
        simp only [iv, List.cons.injEq, Value.int.injEq, and_true, true_and] at hv
        subst hv
        refine vif_mk (fun h12 => ?_) fun h12 => next (e7.trans (e910.trans e11))
        have hk3l : k3 < n.log.l.length := by simp at h12; omega
        have hkq : qs[k3]? = some qs[k3] := List.getElem?_eq_getElem (by omega)
        have hqq11 := hqq.keeps e11.keeps
        have hfst : n.log.l[k3]? = some qs[k3].1 := by rw [← hqq.fst, List.getElem?_map, hkq]; rfl
        have hdat := hqq11.data _ (List.getElem_mem (by omega : k3 < qs.length))
        generalize qs[k3] = y at hkq hfst hdat
        have hym : y.1 ∈ n.log.l := List.mem_of_getElem? hfst
        have go : ∀ {w' : World}, Ex w11 w' → (∃ k : Nat, [Value.int .i64 (IntKind.i64.wrap ((k3 : Int) + 1))] = [iv k] ∧ k ≤ n.log.l.length ∧ Ex w10 w') ∧ ((n.log.l.length : Int) - IntKind.i64.wrap ((k3 : Int) + 1)).toNat < ((n.log.l.length : Int) - (k3 : Int)).toNat := fun e => by
          rw [wi (by omega) (by omega)]
          exact ⟨⟨k3 + 1, by simp [iv], hk3l, e11.trans e⟩, by omega⟩
        refine Sl.elem (by decide) ec_len hqq11.sl hkq (local_ent rfl (fun v hv => one_ec [y] v (by simpa using hv)) fun c12 w12 e12 hc12 hb12 => vdraw_mk fun w13 e13 _ => ?_)
        have e1113 := e12.trans e13
        have hw13 := hw7.ex ((e910.trans e11).trans e1113)
        have hb13 := e13.blk hb12
        refine ⟨some am, hw13.blk.at_ 4 rfl, y.1.index, hb13.at_ 0 rfl, hw13.agr.find y.1.index fun es clock g1 g2 g3 g4 g5 => ⟨_, g5, ?_⟩⟩
        cases hf : first (A.map fun p => (p.1, Value.agg (ec p.2).toArray)) y.1.index with
        | none =>
          exact ⟨_, rfl, false, rfl, local_ent rfl (by simp [isOne]) fun c14 w14 e14 hc14 hb14 => vif_f rfl (go (e1113.trans e14))⟩
        | some z =>
          obtain ⟨kk, v⟩ := z
          obtain ⟨ed, hm, rfl⟩ := first_mem (F := fun p : Ent × SV => Value.agg (ec p).toArray) hf
          refine ⟨(ec ed).toArray, rfl, true, rfl, local_ent rfl (fun v hv => one_ec [ed] v (by simpa using hv)) fun c14 w14 e14 hc14 hb14 => vif_t rfl ⟨y.1.index, (e14.blk hb13).at_ 0 rfl, vif_mk (fun h15 => ?_) fun h15 => go (e1113.trans e14)⟩⟩
          have hle : y.1.index ≤ before := by simp at h15; omega
          have hey : y.1 = ed.1 := hke y.1 hym hle ed.1 (hA _ hm)
          have hbd : Bytes w13 ed.2 ed.1.data := hw13.ab _ hm
          refine vcells_all (e14.blk hb13) 4 rfl (vcells_all hb14 4 rfl ?_)
          have hee : ed = (y.1, ed.2) := by rw [hey]
          rw [hee]
          refine (same11 (Sl.ex hdat (e1113.trans e14)) (Sl.ex (by rw [hey]; exact hbd) e14)).mono ?_
          rintro _ w15 ⟨rfl, e15⟩
          exact ⟨_, rfl, vif_f (by simp) (go ((e1113.trans e14).trans e15))⟩
    · have h7w : WOk w1 w7 b wl' N (Sf.PL g') (Sf.PA g') := ⟨rs, sn, sc, st, cm, ops, lm, am, L, A, hw7, low, ex5.trans e7, hL, hA⟩
      refine (hg'.safe h7w).mono ?_
      rintro _ w8 ⟨rfl, h8'⟩
      rw [wi (by omega) (by omega)]
      exact ⟨_, rfl, vif_f (by simp) ⟨⟨i + 1, most, inn, g', wl', by simp [iv, uv], hil, h8', hg', by omega, hpk⟩, by omega⟩⟩

end
end Rx
end Go.Proofs.YtkoipeddfbeliaaGreat

/-
  The arguments: read, and read again when memory has grown.
-/
namespace Go.Proofs.YtkoipeddfbeliaaGreat
open Go.ChangeShapes Go.WideShapes Go.ChangeAt Go.RowKit

theorem Tryz.own : ownKnob Tryz.prog.godebug = none := by kernel_rfl
theorem Tryz.laidOut : laidOutB Tryz.prog = true := by kernel_rfl

namespace Rx
set_option maxRecDepth 100000
section
variable {H : Type} {enc : TypeId × Value → H}

theorem wf_u64 {n : Int} (h : (Lit.int .u64 n).wf = true) : 0 ≤ n ∧ n < 18446744073709551616 := by
  simp [Lit.wf, IntKind.min, IntKind.max, IntKind.signed, IntKind.bits] at h; omega
theorem wf_u8 {n : Int} (h : (Lit.int .u8 n).wf = true) : 0 ≤ n ∧ n < 256 := by
  simp [Lit.wf, IntKind.min, IntKind.max, IntKind.signed, IntKind.bits] at h; omega

/-- a step, read -/
theorem open_step {W : World} {fuel : Nat} {sp : Nat → Bool} {cs : List Value} {x : DataW H × List MemPlace} (h : DataW.trod enc Tryz.prog W 0 sp true fuel 28 cs = some x) :
    (∃ p : Int × Int × Nat, cs = stepV p ∧ p.2.2 < 18446744073709551616) ∧ ∀ (W' : World) (sp' : Nat → Bool), ∃ n, DataW.trod enc Tryz.prog W' 0 sp' true n 28 cs = some x := by
  obtain ⟨y0, y1, y2, n, hx, hl, t0, t1, t2⟩ := Go.Deep.trod_struct3 Tryz.underlying28 h
  have hl3 : cs.length = 3 := hl.trans (by kernel_rfl)
  match cs, hl3, hl, t0, t1, t2 with
  | [c0, c1, c2], _, hl, t0, t1, t2 =>
    have e3 : Tryz.prog.cellsOf 3 = 1 := by kernel_rfl
    have e26 : Tryz.prog.cellsOf 26 = 1 := by kernel_rfl
    simp only [e3, e26, List.drop, List.take] at t0 t1 t2
    obtain ⟨k0, h0, q0, w0⟩ := DataW.trod_int Tryz.underlying3 t0
    obtain ⟨k1, h1, q1, w1⟩ := DataW.trod_int Tryz.underlying3 t1
    obtain ⟨k2, h2, q2, w2⟩ := DataW.trod_int Tryz.underlying26 t2
    have hb := wf_u64 w2
    simp only [List.cons.injEq, and_true] at h0 h1 h2
    subst h0; subst h1; subst h2; subst q0; subst q1; subst q2
    refine ⟨⟨(k0, k1, k2.toNat), ?_, by show k2.toNat < _; omega⟩, fun W' sp' => ⟨2, ?_⟩⟩
    · simp only [stepV, stepA, Int.toNat_of_nonneg hb.1]
    · rw [hx]
      refine Go.Deep.trod_struct3_mk (n := 1) Tryz.underlying28 hl ?_ ?_ ?_
      · simp only [e3, List.drop, List.take]; exact trod_int_mk 0 Tryz.underlying3 w0
      · simp only [e3, List.drop, List.take]; exact trod_int_mk 0 Tryz.underlying3 w1
      · simp only [e26, List.drop, List.take]; exact trod_int_mk 0 Tryz.underlying26 w2

theorem cell_lt {W : World} {a : Addr} {v : Value} (h : W.cell? a = some v) : a.block < W.heap.size := by
  unfold World.cell? at h
  split at h
  · rename_i hh; exact (Array.getElem?_eq_some_iff.1 hh).1
  · cases h
theorem cells_ext {W W' : World} (hh : Ext W W') {a : Addr} {n : Nat} {cs : List Value} (h : W.cells? 0 a n = some cs) : W'.cells? 0 a n = some cs := by
  rw [World.cells?, if_pos (Nat.zero_le _)] at h ⊢
  exact mapM_carry h fun x y _ _ hy => hh.cell hy

theorem open_steps {W : World} {v : Value} {d : DataW H} {ps : List MemPlace} (hv : ∃ a len cap, v = .slice a len cap) (h : DataW.Trod enc Tryz.prog W 0 (fun _ => true) true 22 v d ps) :
    ∃ (s : SV) (l : List (Int × Int × Nat)), v = .slice s.p s.n s.c ∧ Steps W s l ∧
      ∀ (W' : World) (sp : Nat → Bool), Ex W W' → (∀ b, b < W.heap.size → sp b = true) → DataW.Trod enc Tryz.prog W' 0 sp true 22 v d ps := by
  obtain ⟨a0, len0, cap0, rfl⟩ := hv
  obtain ⟨fuel, hf⟩ := h
  rcases Go.Deep.open_slice Tryz.underlying22 hf with ⟨h1, h2⟩ | ⟨a, len, cap, m, n, D, Pl, h1, hb, hl, hm, hmm, h2, hx⟩
  · simp only [Value.cells] at h1
    injection h1 with h1
    injection h1 with h1 h5 h6
    subst h1; subst h5; subst h6
    injection h2 with h3 h4
    subst h3; subst h4
    refine ⟨.nil, [], rfl, ⟨rfl, fun i p hp => by simp at hp, fun p hp => by simp at hp⟩, fun W' sp _ _ => ⟨1, ?_⟩⟩
    simp only [DataW.trod, Value.cells, Tryz.underlying22]
  · simp only [Value.cells] at h1
    injection h1 with h1
    injection h1 with h1 h5 h6
    subst h1; subst h5; subst h6
    simp only [if_true] at hmm
    subst hmm
    injection h2 with h3 h4
    subst h3; subst h4
    have e28 : Tryz.prog.cellsOf 28 = 3 := by kernel_rfl
    have hx' : ∀ i, i < m → ∃ p : Int × Int × Nat, W.cells? 0 (a.add (i * 3)) 3 = some (stepV p) ∧ p.2.2 < 18446744073709551616 := fun i hi => by
      obtain ⟨cs', h1, h2⟩ := hx i hi
      rw [e28] at h1
      obtain ⟨⟨p, rfl, hp⟩, _⟩ := open_step h2
      exact ⟨p, h1, hp⟩
    obtain ⟨f, hf'⟩ := Go.Deep.choose_lt hx'
    refine ⟨⟨some a, len0, m⟩, (List.range len0).map f, rfl, ⟨by simp, fun i p hp => ?_, fun p hp => ?_⟩, fun W' sp e hsp => ?_⟩
    · have hi : i < len0 := by have := (List.getElem?_eq_some_iff.1 hp).1; simpa using this
      simp only [List.getElem?_map, List.getElem?_range hi, Option.map_some, Option.some.injEq] at hp
      subst hp
      obtain ⟨_, h2, h3⟩ := World.cells?_some (hf' i (by omega)).1
      refine ⟨a, rfl, fun j v hj => ?_⟩
      have hj3 : j < 3 := by have := (List.getElem?_eq_some_iff.1 hj).1; rwa [h2] at this
      rw [h3 j hj3, hj]
    · obtain ⟨i, hi, rfl⟩ := List.mem_map.1 hp
      exact (hf' i (by have := List.mem_range.1 hi; omega)).2
    · have whole : ∀ i, i < m → ∃ cs n, W'.cells? 0 (a.add (i * Tryz.prog.cellsOf 28)) (Tryz.prog.cellsOf 28) = some cs ∧ DataW.trod enc Tryz.prog W' 0 sp true n 28 cs = some (D i, Pl i) := fun i hi => by
        obtain ⟨cs', h1, h2⟩ := hx i hi
        obtain ⟨n', h3⟩ := (open_step h2).2 W' sp
        exact ⟨cs', n', cells_ext e.ext h1, h3⟩
      cases hs : sp a.block with
      | true => exact Go.Deep.shut_slice_whole Tryz.underlying22 (Nat.zero_le _) hl hm hs D Pl whole
      | false =>
        rcases Nat.eq_zero_or_pos m with h0 | h0
        · subst h0
          have hz : len0 = 0 := by omega
          subst hz
          exact Go.Deep.shut_slice Tryz.underlying22 (Nat.zero_le _) (Nat.le_refl _) hm hs D Pl whole
        · obtain ⟨cs', h1, _⟩ := hx 0 h0
          obtain ⟨_, hl1, h1⟩ := World.cells?_some h1
          have h1 := h1 0 (by rw [e28]; omega)
          rw [List.getElem?_eq_getElem (by rw [hl1, e28]; omega)] at h1
          have hlt := cell_lt h1
          rw [block_add, block_add] at hlt
          rw [hsp _ hlt] at hs
          cases hs

theorem Ex.kept {W W' : World} (e : Ex W W') (may : MemPlace → Prop) : W.keptBut W' may := by
  refine ⟨congrArg Prod.fst e.os, congrArg Prod.snd e.os, fun i hi => ?_⟩
  have ho : W.heap[i]? = some W.heap[i] := Array.getElem?_eq_getElem hi
  rw [e.ext i _ ho, ho]
  cases W.heap[i] <;> simp

/-- what is claimed when a call that answers true leaves all as it was -/
theorem post_true {f : Func} {s : ChangeSpec} {W W' : World} {args : Array Value} {ds : List (DataW H)} {before pa : List MemPlace} (hv : s.vars = []) (hr : f.resultTypes = #[4])
    (hf : ∀ l : List (DataW H), l = ds ++ [] → (s.fn H l).results = [.lit (.bool true)] ∧ (s.fn H l).args = ds ∧ (s.fn H l).vars = [])
    (hW : DataW.Whole enc Tryz.prog f.params.toList s.vars false W args.toList ds [] before) (e : Ex W W')
    (hargs : DataW.TrodAll enc Tryz.prog W' 0 (fun b => decide (b < W.heap.size)) true f.params.toList args.toList ds pa) :
    s.post enc Tryz.prog f false true false false W args (.bool true) W' := by
  obtain ⟨h1, h2, h3⟩ := hf _ rfl
  refine ⟨ds, [], before, [], pa, [], hW, ?_, ?_, ?_, e.kept _, fun h => by cases h⟩
  · rw [h1, hr]
    exact trodAll_mk1 ⟨1, by simp [DataW.trod, Value.cells, Tryz.underlying4]⟩
  · rw [h2]; exact hargs
  · rw [h3, hv]; exact rfl
end
end Rx
end Go.Proofs.YtkoipeddfbeliaaGreat

namespace Go.Proofs.YtkoipeddfbeliaaGreat
open Go.ChangeShapes Go.WideShapes Go.ChangeAt Go.RowKit Rx

set_option maxRecDepth 100000 in
theorem raftKeeps_lifted (os : Os) (started : os.Started) (H : Type) (enc : TypeId × Value → H) :
    ReturnsInHanded {} Tryz.checked os 6 .any (Rows.raftKeepsSpec.pre6 enc Tryz.prog Tryz.f6 Rows.raftKeepsRow.domain false) (Rows.raftKeepsSpec.post enc Tryz.prog Tryz.f6 false true false false) := by
  refine returnsInHanded_of_change (C := Tryz.checked) Tryz.own started (by kernel_rfl) Tryz.func6
    (ChangeSpec.witness6 (enc := enc) (C := Tryz.checked) false ⟨#[], #[.int .u8 0, .slice none 0 0], []⟩ 8 (by kernel_rfl) (by kernel_rfl) (by kernel_rfl) (by kernel_rfl)) ?_
  intro W base args ds gs before hval0 hW hcnd _
  have hval : ∀ (j : Nat) t v, Tryz.f6.params[j]? = some t → args[j]? = some v → Value.okWide Tryz.prog W .any base t v := hval0
  have hW' := hW
  obtain ⟨p, q, hA0, hV, rfl, hfz, hnd⟩ := hW
  have hA : DataW.TrodAll enc Tryz.prog W 0 (fun _ => true) true Tryz.f6.params.toList args.toList ds p := hA0
  rw [Tryz.params6] at hA hval
  obtain ⟨v0, v1, d0, d1, p0, p1, rfl, rfl, rfl, h0, h1⟩ := trodAll_two hA
  obtain ⟨rfl, rfl⟩ := trodVars_none hV
  obtain ⟨a, rfl, rfl, rfl, wa⟩ := open_int Tryz.underlying5 (hval 0 5 v0 rfl rfl) h0
  obtain ⟨s, l, rfl, hs, hre⟩ := open_steps (okWide_slice Tryz.underlying22 (hval 1 22 v1 rfl rfl)) h1
  have hb := wf_u8 wa
  obtain ⟨x0, rfl⟩ := Int.eq_ofNat_of_zero_le hb.1
  clear hA0 hval0
  refine (raftKeeps6 hs (x0 := x0) (by omega)).mono fun e W' ⟨he, hw⟩ => ?_
  subst he
  refine ⟨_, rfl, post_true (pa := [] ++ p1) (f := Tryz.f6) (s := Rows.raftKeepsSpec) rfl rfl (fun l hl => by subst hl; exact ⟨rfl, rfl, rfl⟩) hW' hw ?_⟩
  rw [Tryz.params6]
  exact trodAll_mk2 (shut_int Tryz.underlying5 wa) (hre W' _ hw fun b hb => by simpa using hb)

theorem raftKeeps_holds : Rows.RaftKeepsSaid :=
  OpenClaim.holds_of_wide 6 Tryz.f6 rfl rfl rfl rfl rfl rfl rfl ⟨rfl, rfl, rfl, rfl, rfl⟩ rfl rfl rfl rfl rfl (by kernel_rfl) Tryz.func6 (by kernel_rfl)
    (of_decide_eq_true (by kernel_rfl)) (by unfold Func.isWrapper; first | (rw [if_pos (by decide +kernel)]; kernel_rfl) | (rw [if_neg (by decide +kernel)]; exact ⟨rfl, rfl⟩))
    (fun os started H enc _ => raftKeeps_lifted os started H enc)

end Go.Proofs.YtkoipeddfbeliaaGreat

/-
  RaftMatches answers true at every number of nodes and every row of steps, and leaves both as they were: where two nodes' logs have an entry of one index and term, all entries ahead that both have are the same. There are no conditions.
-/
import Derived.Test.YtkoipeddfbeliaaGreatSa13
import Derived.ProofKit
import Derived.Deep.Strs
/-
  The statements' functions: RaftSafe, RaftKeeps.
-/
namespace Go.Proofs.YtkoipeddfbeliaaGreat
namespace Rx
open Go.RowKit Md
set_option maxRecDepth 100000

/-- a step's cells -/
def stepV (p : Int × Int × Nat) : List Value := (stepA p.1 p.2.1 p.2.2).toList
theorem stepV_len (p : Int × Int × Nat) : (stepV p).length = 3 := rfl
/-- the steps in memory -/
structure Steps (w : World) (s : SV) (l : List (Int × Int × Nat)) : Prop where
  n : s.n = l.length
  at_ : ∀ i p, l[i]? = some p → ∃ a, s.p = some a ∧ CellsAt w (a.add (i * 3)) (stepV p)
  lim : ∀ p ∈ l, p.2.2 < 18446744073709551616
theorem Steps.ex {w w' : World} {s : SV} {l : List (Int × Int × Nat)} (h : Steps w s l) (e : Ex w w') : Steps w' s l := ⟨h.n, fun i p hp => let ⟨a, h1, h2⟩ := h.at_ i p hp; ⟨a, h1, e.ext.cells h2⟩, h.lim⟩

def sizeN (x0 : Nat) : Nat := 1 + x0 % 7
theorem size_is {x0 : Nat} (h : x0 < 256) : IntKind.i64.wrap (1 + IntKind.i64.wrap ((x0 : Int).tmod 7)) = (sizeN x0 : Int) := by
  have : ((x0 : Int).tmod 7) = ((x0 % 7 : Nat) : Int) := by rw [Int.tmod_eq_emod_of_nonneg (by omega)]; rfl
  have hlt := Nat.mod_lt x0 (show 0 < 7 by omega)
  rw [this, wi (n := ((x0 % 7 : Nat) : Int)) (by omega) (by omega), wi (by omega) (by omega)]
  unfold sizeN; omega
theorem size_b (x0 : Nat) : 1 ≤ sizeN x0 ∧ sizeN x0 ≤ 7 := by unfold sizeN; have := Nat.mod_lt x0 (show 0 < 7 by omega); omega

theorem good0 {N : Nat} (h : 1 ≤ N ∧ N ≤ 7) : Good (Sf.g0 N) (Sf.begin0 N) N :=
  ⟨Sf.inv0 h.1 h.2, by show 0 ≤ 900; omega, fun n hn => by
    obtain ⟨i, _, rfl⟩ := List.mem_map.1 hn
    rfl, by show 0 ≤ 200; omega, rfl, h, by simp [Sf.begin0]⟩

section
variable {w0 w : World} {b N : Nat} {wl : Sf.Wl} {g : Sf.G}

/-- all is safe -/
theorem Good.safe (h : WOk w0 w b wl N (Sf.PL g) (Sf.PA g)) (hg : Good g wl N) : Calls Tryz.prog 12 #[.pointer (some ⟨b, 0, none⟩)] w fun e w' => e = .returned (.bool true) ∧ WOk w0 w' b wl N (Sf.PL g) (Sf.PA g) := by
  have hB := hg.B
  refine safe12 h hg.N1.2 (fun n hn => ?_) (fun i n hn hr => hg.inv.leads hn hr) (fun n hn e he hc => ?_) (fun T i j => Sf.PL.one) fun k e e' => Sf.PA.one hg.inv.gi
  · obtain ⟨i, hi⟩ := List.mem_iff_getElem?.1 hn
    exact (hg.inv.ns i n hi).fit hg.inv.gi (by omega)
  · obtain ⟨i, hi⟩ := List.mem_iff_getElem?.1 hn
    exact hg.inv.agreed hi he hc
/-- a step -/
theorem Good.do (h : WOk w0 w b wl N (Sf.PL g) (Sf.PA g)) (hg : Good g wl N) (hB : g.B < 900) (kind node : Int) (draw : Nat) (hd : draw < 18446744073709551616) :
    Calls Tryz.prog 9 #[.pointer (some ⟨b, 0, none⟩), .agg (stepA kind node draw)] w fun e w' => e = .returned (.tuple #[]) ∧ ∃ g' wl', WOk w0 w' b wl' N (Sf.PL g') (Sf.PA g') ∧ Good g' wl' N ∧ Sf.Mono g g' ∧ g'.B = g.B + 1 := by
  refine (do9 h hg kind node draw hd).mono ?_
  rintro _ w' ⟨rfl, i, hw⟩
  obtain ⟨g', h1, h2, h3⟩ := hg.step hB kind i draw
  exact ⟨rfl, g', _, hw.mono (fun T j hh => hh.mono h2) (fun k e hh => hh.mono h2), h1, h2, h3⟩

/-- the beginning of each statement -/
theorem start {w : World} {s : SV} {l : List (Int × Int × Nat)} (hs : Steps w s l) {R : Value → World → Prop} {J : List Value → World → Prop} (hR : ∀ w', Ex w w' → R (.bool true) w') (hJ : ∀ w', Ex w w' → l.length ≤ 300 → J [] w') :
    Calls Tryz.prog 7 #[] w fun e2 w3 => ∃ (b4 : Bool), e2 = .returned (.bool (b4)) ∧ vif (!b4)
      (Calls Tryz.prog 7 #[] w3 fun e5 w6 => ∃ (b7 : Bool), e5 = .returned (.bool (b7)) ∧ R (.bool (b7)) w6)
      (vif (decide (((s.n : Nat) : Int) > 300))
        (Calls Tryz.prog 7 #[] w3 fun e8 w9 => ∃ (b10 : Bool), e8 = .returned (.bool (b10)) ∧ R (.bool (b10)) w9)
        (J [] w3)) := by
  have hn := hs.n
  refine lives7.mono ?_
  rintro _ w1 ⟨rfl, e1⟩
  refine ⟨_, rfl, vif_f rfl (vif_mk (fun h2 => lives7.mono ?_) fun h2 => hJ w1 e1 (by simp at h2; omega))⟩
  rintro _ w2 ⟨rfl, e2⟩
  exact ⟨_, rfl, hR w2 (e1.trans e2)⟩

/-- a step out of the row -/
theorem take_step {w : World} {s : SV} {l : List (Int × Int × Nat)} (hs : Steps w s l) {i : Nat} {p : Int × Int × Nat} (hp : l[i]? = some p) {K : Array Value → World → Prop} (hK : ∀ w', Ex w w' → K (stepA p.1 p.2.1 p.2.2) w') :
    vidx s.p s.n (i : Int) fun a19 => vcells 3 w (a19.add ((i : Int).toNat * 3)) fun g20 => vnew w (.cells #[.int .i64 0, .int .i64 0, .int .u64 0] 28) fun a21 w22 => vstoreN w22 a21 3 g20 fun w23 => vcells 3 w23 a21 fun g24 => K g24 w23 := by
  obtain ⟨a, ha, hc⟩ := hs.at_ i p hp
  have hil := (List.getElem?_eq_some_iff.1 hp).1
  have hn := hs.n
  refine ⟨a, ha, by omega, by omega, (stepV p).toArray, by simp [stepV_len], by simpa using hc, vnew_mk fun w1 e1 s1 b1 => ?_⟩
  have hb1 : Blk w1 w.heap.size #[.int .i64 0, .int .i64 0, .int .u64 0] 28 := b1
  refine vstoreN_mk hb1 rfl (by simp) (by simp [stepV, stepA, isOne]) fun w2 p2 => vcells_all p2.blk 3 (by simp [setMany_length]) (hK w2 (e1.put p2 (Nat.le_refl _)))

theorem raftSafe4 {w : World} {s : SV} {l : List (Int × Int × Nat)} (hs : Steps w s l) {x0 : Nat} (hx : x0 < 256) :
    Calls Tryz.prog 4 #[.int .u8 (x0 : Int), .slice s.p s.n s.c] w fun e w' => e = .returned (.bool true) ∧ Ex w w' := by
  refine ret (R := fun v w' => v = .bool true ∧ Ex w w') (c4 x0 s.p s.n s.c w ?_) (fun v w' ⟨h1, h2⟩ => ⟨by rw [h1], h2⟩)
  unfold F4
  rw [size_is hx]
  have hN := size_b x0
  generalize sizeN x0 = N at hN
  refine ⟨fun vs w' => vs = [] ∧ Ex w w' ∧ l.length ≤ 300, start (R := fun v w' => v = .bool true ∧ Ex w w') (J := fun vs w' => vs = [] ∧ Ex w w' ∧ l.length ≤ 300) hs (fun w' e => ⟨rfl, e⟩) (fun w' e hl => ⟨rfl, e, hl⟩), ?_⟩
  rintro w1 ⟨_, e1, hl⟩
  have hn := hs.n
  refine ⟨by decide, (begin8 hN.1 hN.2 (Sf.PL (Sf.g0 N)) (Sf.PA (Sf.g0 N))).mono ?_⟩
  rintro _ w2 ⟨b, rfl, h2⟩
  refine ⟨_, rfl, fun vs w' => ∃ (i : Nat) (g : Sf.G) (wl : Sf.Wl), vs = [iv i] ∧ i ≤ l.length ∧ WOk w1 w' b wl N (Sf.PL g) (Sf.PA g) ∧ Good g wl N ∧ g.B = i,
    fun vs _ => match vs with | [.int _ i] => ((l.length : Int) - i).toNat | _ => 0, ⟨0, _, _, rfl, by omega, h2, good0 hN, rfl⟩, ?_⟩
  rintro i17 w3 ⟨i, g, wl, hv, hi, h3, hg, hB⟩
  simp only [iv, List.cons.injEq, Value.int.injEq, and_true, true_and] at hv
  subst hv
  have ex3 : Ex w1 w3 := by obtain ⟨_, _, _, _, _, _, _, _, _, _, _, _, q, _⟩ := h3; exact q
  refine vif_mk (fun h4 => ?_) fun h4 => ⟨rfl, e1.trans ex3⟩
  have hil : i < l.length := by simp at h4; omega
  have hp : l[i]? = some l[i] := List.getElem?_eq_getElem hil
  have hd := hs.lim _ (List.getElem_mem hil)
  generalize l[i] = p at hp hd
  refine take_step (hs.ex (e1.trans ex3)) hp fun w4 e4 => ?_
  have h4' : WOk w1 w4 b wl N (Sf.PL g) (Sf.PA g) := by
    obtain ⟨rs, sn, sc, st, cm, ops, lm, am, L, A, q1, q2, q3, q4, q5⟩ := h3
    exact ⟨rs, sn, sc, st, cm, ops, lm, am, L, A, q1.ex e4, q2, q3.trans e4, q4, q5⟩
  refine (Good.do h4' hg (by omega) p.1 p.2.1 p.2.2 hd).mono ?_
  rintro _ w5 ⟨rfl, g', wl', h5, hg', _, hB'⟩
  refine ⟨rfl, (hg'.safe h5).mono ?_⟩
  rintro _ w6 ⟨rfl, h6⟩
  rw [wi (by omega) (by omega)]
  exact ⟨_, rfl, vif_f (by simp) ⟨⟨i + 1, g', wl', by simp [iv], hil, h6, hg', by omega⟩, by simp only; omega⟩⟩

theorem raftKeeps6 {w : World} {s : SV} {l : List (Int × Int × Nat)} (hs : Steps w s l) {x0 : Nat} (hx : x0 < 256) :
    Calls Tryz.prog 6 #[.int .u8 (x0 : Int), .slice s.p s.n s.c] w fun e w' => e = .returned (.bool true) ∧ Ex w w' := by
  refine ret (R := fun v w' => v = .bool true ∧ Ex w w') (c6 x0 s.p s.n s.c w ?_) (fun v w' ⟨h1, h2⟩ => ⟨by rw [h1], h2⟩)
  unfold F6
  rw [size_is hx]
  have hN := size_b x0
  generalize sizeN x0 = N at hN
  refine ⟨fun vs w' => vs = [] ∧ Ex w w' ∧ l.length ≤ 300, start (R := fun v w' => v = .bool true ∧ Ex w w') (J := fun vs w' => vs = [] ∧ Ex w w' ∧ l.length ≤ 300) hs (fun w' e => ⟨rfl, e⟩) (fun w' e hl => ⟨rfl, e, hl⟩), ?_⟩
  rintro w1 ⟨_, e1, hl⟩
  have hn := hs.n
  refine ⟨by decide, (begin8 hN.1 hN.2 (Sf.PL (Sf.g0 N)) (Sf.PA (Sf.g0 N))).mono ?_⟩
  rintro _ w2 ⟨b, rfl, h2⟩
  refine ⟨_, rfl, fun vs w' => ∃ (i most inn : Nat) (g : Sf.G) (wl : Sf.Wl), vs = [uv most, uv inn, iv i] ∧ i ≤ l.length ∧ WOk w1 w' b wl N (Sf.PL g) (Sf.PA g) ∧ Good g wl N ∧ g.B = i ∧ Sf.PK g most inn,
    fun vs _ => match vs with | [_, _, .int _ i] => ((l.length : Int) - i).toNat | _ => 0, ⟨0, 0, 0, _, _, rfl, by omega, h2, good0 hN, rfl, .inl rfl⟩, ?_⟩
  rintro i17 i18 i19 w3 ⟨i, before, term, g, wl, hv, hi, h3, hg, hB, hk⟩
  simp only [iv, uv, List.cons.injEq, Value.int.injEq, and_true, true_and] at hv
  obtain ⟨rfl, rfl, rfl⟩ := hv
  have ex3 : Ex w1 w3 := by obtain ⟨_, _, _, _, _, _, _, _, _, _, _, _, q, _⟩ := h3; exact q
  refine vif_mk (fun h4 => ?_) fun h4 => ⟨rfl, e1.trans ex3⟩
  have hil : i < l.length := by simp at h4; omega
  have hp : l[i]? = some l[i] := List.getElem?_eq_getElem hil
  have hd := hs.lim _ (List.getElem_mem hil)
  generalize l[i] = p at hp hd
  refine take_step (hs.ex (e1.trans ex3)) hp fun w4 e4 => ?_
  have h4' : WOk w1 w4 b wl N (Sf.PL g) (Sf.PA g) := by
    obtain ⟨rs, sn, sc, st, cm, ops, lm, am, L, A, q1, q2, q3, q4, q5⟩ := h3
    exact ⟨rs, sn, sc, st, cm, ops, lm, am, L, A, q1.ex e4, q2, q3.trans e4, q4, q5⟩
  refine (Good.do h4' hg (by omega) p.1 p.2.1 p.2.2 hd).mono ?_
  rintro _ w5 ⟨rfl, g', wl', h5, hg', hmono, hB'⟩
  have hk' : Sf.PK g' before term := hk.mono hmono
  obtain ⟨rs, sn, sc, st, cm, ops, lm, am, L, A, hw, low, ex5, hL, hA⟩ := h5
  have hsn : sn.n = N := by have hh := hw.nodes.len; rw [List.length_map, hw.len.1] at hh; omega
  have hB5 := hg'.B
  have nodeAt : ∀ {k : Nat}, k < N → ∃ q n, rs[k]? = some q ∧ wl'.ns[k]? = some n ∧ ∀ {w' : World}, Ex w5 w' → NodeR w' q.1 n q.2 := fun {k} hkN => by
    have hkl : k < rs.length := by rw [hw.len.1]; exact hkN
    have hq : rs[k]? = some rs[k] := List.getElem?_eq_getElem hkl
    obtain ⟨n, h1, h2⟩ := hw.node k _ hq
    exact ⟨rs[k], n, hq, h1, fun e => h2.ex e⟩
  refine ⟨rfl, (?_ : ∃ _, _)⟩
  simp only [add_mk, Nat.zero_add]
  refine ⟨sn.p, sn.n, sn.c, hw.blk.at_ 0 rfl, fun vs w' => ∃ (k most inn : Nat), vs = [uv most, uv inn, iv k] ∧ k ≤ N ∧ w' = w5 ∧ Sf.PK g' most inn, fun vs _ => match vs with | [_, _, .int _ k] => ((N : Int) - k).toNat | _ => 0, ⟨0, before, term, rfl, by omega, rfl, hk'⟩, ?_⟩
  rintro i33 i34 i35 w6 ⟨k, most, inn, hv, hkN, rfl, hpk⟩
  simp only [iv, uv, List.cons.injEq, Value.int.injEq, and_true, true_and] at hv
  obtain ⟨rfl, rfl, rfl⟩ := hv
  refine vif_mk (fun h6 => ?_) fun h6 => ?_
  · -- how far all is committed
    have hk1 : k < N := by simp at h6; omega
    obtain ⟨q, n, hq, hn', hR⟩ := nodeAt hk1
    have hR := hR (Ex.refl _)
    refine Sl.load hw.nodes (i := k) (v := .pointer (some ⟨q.1, 0, none⟩)) (by rw [List.getElem?_map, hq]; rfl) fun a ha => ⟨some ⟨q.1, 0, none⟩, ha, (commit19 hR).mono ?_⟩
    rintro _ _ ⟨rfl, rfl⟩
    rw [wi (by omega) (by omega)]
    refine ⟨_, rfl, vif_mk (fun h7 => (commit19 hR).mono ?_) fun h7 => ⟨⟨k + 1, most, inn, by simp [iv, uv], hk1, rfl, hpk⟩, by simp only; omega⟩⟩
    rintro _ _ ⟨rfl, rfl⟩
    refine ⟨_, rfl, (term20 hR).mono ?_⟩
    rintro _ _ ⟨rfl, rfl⟩
    have hmax : (if (inn : Int) < (n.term : Int) then (n.term : Int) else (inn : Int)) = ((max inn n.term : Nat) : Int) := by split <;> omega
    refine ⟨_, rfl, ?_⟩
    rw [hmax]
    exact ⟨⟨k + 1, n.commit, max inn n.term, by simp [iv, uv], hk1, rfl, hg'.inv.pk hn'⟩, by simp only; omega⟩
  · refine ⟨sn.p, sn.n, sn.c, hw.blk.at_ 0 rfl, fun vs w' => ∃ k : Nat, vs = [iv k] ∧ k ≤ N ∧ Ex w6 w', fun vs _ => match vs with | [.int _ k] => ((N : Int) - k).toNat | _ => 0, ⟨0, rfl, by omega, Ex.refl _⟩, ?_⟩
    rintro i52 w7 ⟨k2, hv, hk2, e7⟩
    simp only [iv, List.cons.injEq, Value.int.injEq, and_true, true_and] at hv
    subst hv
    have hw7 := hw.ex e7
    refine vif_mk (fun h8 => ?_) fun h8 => ?_
    · -- a leader of a later term has it
      have hk1 : k2 < N := by simp at h8; omega
      obtain ⟨q, n, hq, hn', hRe⟩ := nodeAt hk1
      have hR := hRe e7
      have hfit : Fit n := (hg'.inv.ns _ n hn').fit hg'.inv.gi (by omega)
      have next : ∀ {w' : World}, Ex w6 w' → (∃ k : Nat, [Value.int .i64 (IntKind.i64.wrap ((k2 : Int) + 1))] = [iv k] ∧ k ≤ N ∧ Ex w6 w') ∧ ((N : Int) - IntKind.i64.wrap ((k2 : Int) + 1)).toNat < ((N : Int) - (k2 : Int)).toNat := fun e => by
        rw [wi (by omega) (by omega)]
        exact ⟨⟨k2 + 1, by simp [iv], hk1, e⟩, by omega⟩
      refine Sl.load hw7.nodes (i := k2) (v := .pointer (some ⟨q.1, 0, none⟩)) (by rw [List.getElem?_map, hq]; rfl) fun a ha => ⟨some ⟨q.1, 0, none⟩, ha, fun vs w' => vs = [] ∧ w' = w7 ∧ n.role = 3 ∧ term < n.term, (role17 hR).mono ?_, ?_⟩
      · rintro _ _ ⟨rfl, rfl⟩
        refine ⟨_, rfl, vif_mk (fun h9 => next e7) fun h9 => (term20 hR).mono ?_⟩
        rintro _ _ ⟨rfl, rfl⟩
        exact ⟨_, rfl, vif_mk (fun h10 => next e7) fun h10 => ⟨rfl, rfl, by simp at h9; omega, by simp at h10; omega⟩⟩
      · rintro w8 ⟨_, rfl, hr3, hlt⟩
        obtain ⟨hkl, hke⟩ := hg'.inv.keeps hn' hr3 hk' hlt
        refine (last21 hR hfit).mono ?_
        rintro _ w9 ⟨rfl, e9⟩
        refine ⟨_, rfl, vif_f (by simp; omega) ((state10 (hR.ex e9) hfit).mono ?_)⟩
        rintro _ w10 ⟨m, d, qq, qs, rfl, e10, _, _, hqq, _⟩
        have e910 := e9.trans e10
        have hqn := hqq.n
        have hql := hqq.len
        have hll := hfit.log.len
        refine ⟨_, rfl, rfl, qq.p, qq.n, qq.c, rfl, fun vs w' => ∃ k : Nat, vs = [iv k] ∧ k ≤ n.log.l.length ∧ Ex w10 w', fun vs _ => match vs with | [.int _ k] => ((n.log.l.length : Int) - k).toNat | _ => 0, ⟨0, rfl, by omega, Ex.refl _⟩, ?_⟩
        rintro i73 w11 ⟨k3, hv, hk3, e11⟩
        simp only [iv, List.cons.injEq, Value.int.injEq, and_true, true_and] at hv
        subst hv
        refine vif_mk (fun h12 => ?_) fun h12 => next (e7.trans (e910.trans e11))
        have hk3l : k3 < n.log.l.length := by simp at h12; omega
        have hkq : qs[k3]? = some qs[k3] := List.getElem?_eq_getElem (by omega)
        have hqq11 := hqq.keeps e11.keeps
        have hfst : n.log.l[k3]? = some qs[k3].1 := by rw [← hqq.fst, List.getElem?_map, hkq]; rfl
        have hdat := hqq11.data _ (List.getElem_mem (by omega : k3 < qs.length))
        generalize qs[k3] = y at hkq hfst hdat
        have hym : y.1 ∈ n.log.l := List.mem_of_getElem? hfst
        have go : ∀ {w' : World}, Ex w11 w' → (∃ k : Nat, [Value.int .i64 (IntKind.i64.wrap ((k3 : Int) + 1))] = [iv k] ∧ k ≤ n.log.l.length ∧ Ex w10 w') ∧ ((n.log.l.length : Int) - IntKind.i64.wrap ((k3 : Int) + 1)).toNat < ((n.log.l.length : Int) - (k3 : Int)).toNat := fun e => by
          rw [wi (by omega) (by omega)]
          exact ⟨⟨k3 + 1, by simp [iv], hk3l, e11.trans e⟩, by omega⟩
        refine Sl.elem (by decide) ec_len hqq11.sl hkq (local_ent rfl (fun v hv => one_ec [y] v (by simpa using hv)) fun c12 w12 e12 hc12 hb12 => vdraw_mk fun w13 e13 _ => ?_)
        have e1113 := e12.trans e13
        have hw13 := hw7.ex ((e910.trans e11).trans e1113)
        have hb13 := e13.blk hb12
        refine ⟨some am, hw13.blk.at_ 4 rfl, y.1.index, hb13.at_ 0 rfl, hw13.agr.find y.1.index fun es clock g1 g2 g3 g4 g5 => ⟨_, g5, ?_⟩⟩
        cases hf : first (A.map fun p => (p.1, Value.agg (ec p.2).toArray)) y.1.index with
        | none =>
          exact ⟨_, rfl, false, rfl, local_ent rfl (by simp [isOne]) fun c14 w14 e14 hc14 hb14 => vif_f rfl (go (e1113.trans e14))⟩
        | some z =>
          obtain ⟨kk, v⟩ := z
          obtain ⟨ed, hm, rfl⟩ := first_mem (F := fun p : Ent × SV => Value.agg (ec p).toArray) hf
          refine ⟨(ec ed).toArray, rfl, true, rfl, local_ent rfl (fun v hv => one_ec [ed] v (by simpa using hv)) fun c14 w14 e14 hc14 hb14 => vif_t rfl ⟨y.1.index, (e14.blk hb13).at_ 0 rfl, vif_mk (fun h15 => ?_) fun h15 => go (e1113.trans e14)⟩⟩
          have hle : y.1.index ≤ before := by simp at h15; omega
          have hey : y.1 = ed.1 := hke y.1 hym hle ed.1 (hA _ hm)
          have hbd : Bytes w13 ed.2 ed.1.data := hw13.ab _ hm
          refine vcells_all (e14.blk hb13) 4 rfl (vcells_all hb14 4 rfl ?_)
          have hee : ed = (y.1, ed.2) := by rw [hey]
          rw [hee]
          refine (same11 (Sl.ex hdat (e1113.trans e14)) (Sl.ex (by rw [hey]; exact hbd) e14)).mono ?_
          rintro _ w15 ⟨rfl, e15⟩
          exact ⟨_, rfl, vif_f (by simp) (go ((e1113.trans e14).trans e15))⟩
    · have h7w : WOk w1 w7 b wl' N (Sf.PL g') (Sf.PA g') := ⟨rs, sn, sc, st, cm, ops, lm, am, L, A, hw7, low, ex5.trans e7, hL, hA⟩
      refine (hg'.safe h7w).mono ?_
      rintro _ w8 ⟨rfl, h8'⟩
      rw [wi (by omega) (by omega)]
      exact ⟨_, rfl, vif_f (by simp) ⟨⟨i + 1, most, inn, g', wl', by simp [iv, uv], hil, h8', hg', by omega, hpk⟩, by omega⟩⟩

end
end Rx
end Go.Proofs.YtkoipeddfbeliaaGreat

/-
  The arguments: read, and read again when memory has grown.
-/
namespace Go.Proofs.YtkoipeddfbeliaaGreat
open Go.ChangeShapes Go.WideShapes Go.ChangeAt Go.RowKit

theorem Tryz.own : ownKnob Tryz.prog.godebug = none := by kernel_rfl
theorem Tryz.laidOut : laidOutB Tryz.prog = true := by kernel_rfl

namespace Rx
set_option maxRecDepth 100000
section
variable {H : Type} {enc : TypeId × Value → H}

theorem wf_u64 {n : Int} (h : (Lit.int .u64 n).wf = true) : 0 ≤ n ∧ n < 18446744073709551616 := by
  simp [Lit.wf, IntKind.min, IntKind.max, IntKind.signed, IntKind.bits] at h; omega
theorem wf_u8 {n : Int} (h : (Lit.int .u8 n).wf = true) : 0 ≤ n ∧ n < 256 := by
  simp [Lit.wf, IntKind.min, IntKind.max, IntKind.signed, IntKind.bits] at h; omega

/-- a step, read -/
theorem open_step {W : World} {fuel : Nat} {sp : Nat → Bool} {cs : List Value} {x : DataW H × List MemPlace} (h : DataW.trod enc Tryz.prog W 0 sp true fuel 28 cs = some x) :
    (∃ p : Int × Int × Nat, cs = stepV p ∧ p.2.2 < 18446744073709551616) ∧ ∀ (W' : World) (sp' : Nat → Bool), ∃ n, DataW.trod enc Tryz.prog W' 0 sp' true n 28 cs = some x := by
  obtain ⟨y0, y1, y2, n, hx, hl, t0, t1, t2⟩ := Go.Deep.trod_struct3 Tryz.underlying28 h
  have hl3 : cs.length = 3 := hl.trans (by kernel_rfl)
  match cs, hl3, hl, t0, t1, t2 with
  | [c0, c1, c2], _, hl, t0, t1, t2 =>
    have e3 : Tryz.prog.cellsOf 3 = 1 := by kernel_rfl
    have e26 : Tryz.prog.cellsOf 26 = 1 := by kernel_rfl
    simp only [e3, e26, List.drop, List.take] at t0 t1 t2
    obtain ⟨k0, h0, q0, w0⟩ := DataW.trod_int Tryz.underlying3 t0
    obtain ⟨k1, h1, q1, w1⟩ := DataW.trod_int Tryz.underlying3 t1
    obtain ⟨k2, h2, q2, w2⟩ := DataW.trod_int Tryz.underlying26 t2
    have hb := wf_u64 w2
    simp only [List.cons.injEq, and_true] at h0 h1 h2
    subst h0; subst h1; subst h2; subst q0; subst q1; subst q2
    refine ⟨⟨(k0, k1, k2.toNat), ?_, by show k2.toNat < _; omega⟩, fun W' sp' => ⟨2, ?_⟩⟩
    · simp only [stepV, stepA, Int.toNat_of_nonneg hb.1]
    · rw [hx]
      refine Go.Deep.trod_struct3_mk (n := 1) Tryz.underlying28 hl ?_ ?_ ?_
      · simp only [e3, List.drop, List.take]; exact trod_int_mk 0 Tryz.underlying3 w0
      · simp only [e3, List.drop, List.take]; exact trod_int_mk 0 Tryz.underlying3 w1
      · simp only [e26, List.drop, List.take]; exact trod_int_mk 0 Tryz.underlying26 w2

theorem cell_lt {W : World} {a : Addr} {v : Value} (h : W.cell? a = some v) : a.block < W.heap.size := by
  unfold World.cell? at h
  split at h
  · rename_i hh; exact (Array.getElem?_eq_some_iff.1 hh).1
  · cases h
theorem cells_ext {W W' : World} (hh : Ext W W') {a : Addr} {n : Nat} {cs : List Value} (h : W.cells? 0 a n = some cs) : W'.cells? 0 a n = some cs := by
  rw [World.cells?, if_pos (Nat.zero_le _)] at h ⊢
  exact mapM_carry h fun x y _ _ hy => hh.cell hy

theorem open_steps {W : World} {v : Value} {d : DataW H} {ps : List MemPlace} (hv : ∃ a len cap, v = .slice a len cap) (h : DataW.Trod enc Tryz.prog W 0 (fun _ => true) true 22 v d ps) :
    ∃ (s : SV) (l : List (Int × Int × Nat)), v = .slice s.p s.n s.c ∧ Steps W s l ∧
      ∀ (W' : World) (sp : Nat → Bool), Ex W W' → (∀ b, b < W.heap.size → sp b = true) → DataW.Trod enc Tryz.prog W' 0 sp true 22 v d ps := by
  obtain ⟨a0, len0, cap0, rfl⟩ := hv
  obtain ⟨fuel, hf⟩ := h
  rcases Go.Deep.open_slice Tryz.underlying22 hf with ⟨h1, h2⟩ | ⟨a, len, cap, m, n, D, Pl, h1, hb, hl, hm, hmm, h2, hx⟩
  · simp only [Value.cells] at h1
    injection h1 with h1
    injection h1 with h1 h5 h6
    subst h1; subst h5; subst h6
    injection h2 with h3 h4
    subst h3; subst h4
    refine ⟨.nil, [], rfl, ⟨rfl, fun i p hp => by simp at hp, fun p hp => by simp at hp⟩, fun W' sp _ _ => ⟨1, ?_⟩⟩
    simp only [DataW.trod, Value.cells, Tryz.underlying22]
  · simp only [Value.cells] at h1
    injection h1 with h1
    injection h1 with h1 h5 h6
    subst h1; subst h5; subst h6
    simp only [if_true] at hmm
    subst hmm
    injection h2 with h3 h4
    subst h3; subst h4
    have e28 : Tryz.prog.cellsOf 28 = 3 := by kernel_rfl
    have hx' : ∀ i, i < m → ∃ p : Int × Int × Nat, W.cells? 0 (a.add (i * 3)) 3 = some (stepV p) ∧ p.2.2 < 18446744073709551616 := fun i hi => by
      obtain ⟨cs', h1, h2⟩ := hx i hi
      rw [e28] at h1
      obtain ⟨⟨p, rfl, hp⟩, _⟩ := open_step h2
      exact ⟨p, h1, hp⟩
    obtain ⟨f, hf'⟩ := Go.Deep.choose_lt hx'
    refine ⟨⟨some a, len0, m⟩, (List.range len0).map f, rfl, ⟨by simp, fun i p hp => ?_, fun p hp => ?_⟩, fun W' sp e hsp => ?_⟩
    · have hi : i < len0 := by have := (List.getElem?_eq_some_iff.1 hp).1; simpa using this
      simp only [List.getElem?_map, List.getElem?_range hi, Option.map_some, Option.some.injEq] at hp
      subst hp
      obtain ⟨_, h2, h3⟩ := World.cells?_some (hf' i (by omega)).1
      refine ⟨a, rfl, fun j v hj => ?_⟩
      have hj3 : j < 3 := by have := (List.getElem?_eq_some_iff.1 hj).1; rwa [h2] at this
      rw [h3 j hj3, hj]
    · obtain ⟨i, hi, rfl⟩ := List.mem_map.1 hp
      exact (hf' i (by have := List.mem_range.1 hi; omega)).2
    · have whole : ∀ i, i < m → ∃ cs n, W'.cells? 0 (a.add (i * Tryz.prog.cellsOf 28)) (Tryz.prog.cellsOf 28) = some cs ∧ DataW.trod enc Tryz.prog W' 0 sp true n 28 cs = some (D i, Pl i) := fun i hi => by
        obtain ⟨cs', h1, h2⟩ := hx i hi
        obtain ⟨n', h3⟩ := (open_step h2).2 W' sp
        exact ⟨cs', n', cells_ext e.ext h1, h3⟩
      cases hs : sp a.block with
      | true => exact Go.Deep.shut_slice_whole Tryz.underlying22 (Nat.zero_le _) hl hm hs D Pl whole
      | false =>
        rcases Nat.eq_zero_or_pos m with h0 | h0
        · subst h0
          have hz : len0 = 0 := by omega
          subst hz
          exact Go.Deep.shut_slice Tryz.underlying22 (Nat.zero_le _) (Nat.le_refl _) hm hs D Pl whole
        · obtain ⟨cs', h1, _⟩ := hx 0 h0
          obtain ⟨_, hl1, h1⟩ := World.cells?_some h1
          have h1 := h1 0 (by rw [e28]; omega)
          rw [List.getElem?_eq_getElem (by rw [hl1, e28]; omega)] at h1
          have hlt := cell_lt h1
          rw [block_add, block_add] at hlt
          rw [hsp _ hlt] at hs
          cases hs

theorem Ex.kept {W W' : World} (e : Ex W W') (may : MemPlace → Prop) : W.keptBut W' may := by
  refine ⟨congrArg Prod.fst e.os, congrArg Prod.snd e.os, fun i hi => ?_⟩
  have ho : W.heap[i]? = some W.heap[i] := Array.getElem?_eq_getElem hi
  rw [e.ext i _ ho, ho]
  cases W.heap[i] <;> simp

/-- what is claimed when a call that answers true leaves all as it was -/
theorem post_true {f : Func} {s : ChangeSpec} {W W' : World} {args : Array Value} {ds : List (DataW H)} {before pa : List MemPlace} (hv : s.vars = []) (hr : f.resultTypes = #[4])
    (hf : ∀ l : List (DataW H), l = ds ++ [] → (s.fn H l).results = [.lit (.bool true)] ∧ (s.fn H l).args = ds ∧ (s.fn H l).vars = [])
    (hW : DataW.Whole enc Tryz.prog f.params.toList s.vars false W args.toList ds [] before) (e : Ex W W')
    (hargs : DataW.TrodAll enc Tryz.prog W' 0 (fun b => decide (b < W.heap.size)) true f.params.toList args.toList ds pa) :
    s.post enc Tryz.prog f false true false false W args (.bool true) W' := by
  obtain ⟨h1, h2, h3⟩ := hf _ rfl
  refine ⟨ds, [], before, [], pa, [], hW, ?_, ?_, ?_, e.kept _, fun h => by cases h⟩
  · rw [h1, hr]
    exact trodAll_mk1 ⟨1, by simp [DataW.trod, Value.cells, Tryz.underlying4]⟩
  · rw [h2]; exact hargs
  · rw [h3, hv]; exact rfl
end
end Rx
end Go.Proofs.YtkoipeddfbeliaaGreat

/-
  The statements' functions: RaftMatches.
-/
namespace Go.Proofs.YtkoipeddfbeliaaGreat
namespace Rx
open Go.RowKit Md
set_option maxRecDepth 100000
set_option linter.unusedVariables false

theorem Sl.fld {w : World} {s : SV} {ps : List (Ent × SV)} (hs : Sl w 47 4 s (ps.flatMap ec)) {j : Nat} {y : Ent × SV} (hj : ps[j]? = some y) {m : Nat} (hm : m < 4) {v : Value} (hv : (ec y)[m]? = some v) {F : Addr → Prop}
    (hF : ∀ a : Addr, w.cell? ((a.add ((j : Int).toNat * 4)).add m) = some v → F a) : vidx s.p s.n (j : Int) F := by
  have hl := hs.len
  rw [flat_len ec_len] at hl
  have hlt := (List.getElem?_eq_some_iff.1 hj).1
  refine hs.idx (by omega) (by omega) fun a cs ha h1 h2 h3 h4 => hF a ?_
  rw [addr_eta h1, add_mk, add_mk, h2.cell]
  have := h4 (j * 4 + m) v (by rw [flat_get ec_len _ _ _ hm, hj]; simpa using hv)
  rw [← this]; congr 1; simp; omega

/-- two nodes' entries are compared -/
def TailM (aA aB am : Addr) (R : Value → World → Prop) (N : World → Prop) (w : World) : Prop :=
 ∃ (s61 : Option Addr) (s61n s61c : Nat), w.cell? (aA.add 6) = some (.slice s61 s61n s61c) ∧ ∃ (I62 : List Value → World → Prop) (μ63 : List Value → World → Nat), (I62 [.int .i64 0] w)
 ∧ (∀ (i64 : Int), ∀ w65, I62 [.int .i64 (i64)] w65 → vif (decide ((i64 : Int) < (s61n : Nat)))
 (vidx s61 s61n i64 fun a66 => vcells 4 w65 (a66.add ((i64 : Int).toNat * 4)) fun g67 => vnew w65 (.cells #[.int .u64 0, .int .u64 0, .bool false, .slice Option.none 0 0] 47) fun a68 w69 => vstoreN w69 a68 4 g67 fun w70 => ∃ (i71 : Int), w70.cell? (a68.add 0) = some (.int .u64 (i71)) ∧ vcells 4 w70 a68 fun g72 => vmap w70 (some am.block) fun m73 e74 c75 => ∃ r76, Instr.findNow (.int .u64) (.int .u64 (i71)) e74.toList 0 = some r76 ∧ vput w70 m73 (mapPut e74 c75 r76 (.int .u64 (i71)) (.agg g72)) fun w77 => I62 [.int .i64 (IntKind.i64.wrap (i64 + 1))] w77 ∧ μ63 [.int .i64 (IntKind.i64.wrap (i64 + 1))] w77 < μ63 [.int .i64 (i64)] w65)
 (∃ (s78 : Option Addr) (s78n s78c : Nat), w65.cell? (aB.add 6) = some (.slice s78 s78n s78c) ∧ ∃ (I79 : List Value → World → Prop) (μ80 : List Value → World → Nat), (I79 [.bool false, .int .i64 (IntKind.i64.wrap ((s78n : Nat) - 1))] w65)
 ∧ (∀ (b81 : Bool), ∀ (i82 : Int), ∀ w83, I79 [.bool (b81), .int .i64 (i82)] w83 → vif (decide ((i82 : Int) ≥ 0))
 (∃ (s84 : Option Addr) (s84n s84c : Nat), w83.cell? (aB.add 6) = some (.slice s84 s84n s84c) ∧ vidx s84 s84n i82 fun a85 => ∃ (i86 : Int), w83.cell? ((a85.add ((i82 : Int).toNat * 4)).add 0) = some (.int .u64 (i86)) ∧ vmap w83 (some am.block) fun m87 e88 c89 => ∃ r90, Instr.findNow (.int .u64) (.int .u64 (i86)) e88.toList 0 = some r90 ∧ ∃ (g91 : Array Value), g91.size = 4 ∧ ∃ (b92 : Bool), lookRes r90 (.agg #[.int .u64 0, .int .u64 0, .bool false, .slice Option.none 0 0]) = (.agg g91, b92) ∧ vnew w83 (.cells #[.int .u64 0, .int .u64 0, .bool false, .slice Option.none 0 0] 47) fun a93 w94 => vstoreN w94 a93 4 g91 fun w95 => vif (!b92)
 (I79 [.bool (b81), .int .i64 (IntKind.i64.wrap (i82 - 1))] w95 ∧ μ80 [.bool (b81), .int .i64 (IntKind.i64.wrap (i82 - 1))] w95 < μ80 [.bool (b81), .int .i64 (i82)] w83)
 (vdraw w95 fun w96 => vif (b81)
 (vcells 4 w96 a93 fun g97 => ∃ (s98 : Option Addr) (s98n s98c : Nat), w96.cell? (aB.add 6) = some (.slice s98 s98n s98c) ∧ vidx s98 s98n i82 fun a99 => vcells 4 w96 (a99.add ((i82 : Int).toNat * 4)) fun g100 => Calls Tryz.prog 11 #[.agg g97, .agg g100] w96 fun e101 w102 => ∃ (b103 : Bool), e101 = .returned (.bool (b103)) ∧ vif (!b103)
 (R (.bool false) w102)
 (vdraw w102 fun w104 => vif (b81)
 (I79 [.bool true, .int .i64 (IntKind.i64.wrap (i82 - 1))] w104 ∧ μ80 [.bool true, .int .i64 (IntKind.i64.wrap (i82 - 1))] w104 < μ80 [.bool (b81), .int .i64 (i82)] w83)
 (∃ (i105 : Int), w104.cell? (a93.add 1) = some (.int .u64 (i105)) ∧ ∃ (s106 : Option Addr) (s106n s106c : Nat), w104.cell? (aB.add 6) = some (.slice s106 s106n s106c) ∧ vidx s106 s106n i82 fun a107 => ∃ (i108 : Int), w104.cell? ((a107.add ((i82 : Int).toNat * 4)).add 1) = some (.int .u64 (i108)) ∧ I79 [.bool ((i105 : Int) == i108), .int .i64 (IntKind.i64.wrap (i82 - 1))] w104 ∧ μ80 [.bool ((i105 : Int) == i108), .int .i64 (IntKind.i64.wrap (i82 - 1))] w104 < μ80 [.bool (b81), .int .i64 (i82)] w83)))
 (vdraw w96 fun w109 => vif (b81)
 (I79 [.bool true, .int .i64 (IntKind.i64.wrap (i82 - 1))] w109 ∧ μ80 [.bool true, .int .i64 (IntKind.i64.wrap (i82 - 1))] w109 < μ80 [.bool (b81), .int .i64 (i82)] w83)
 (∃ (i110 : Int), w109.cell? (a93.add 1) = some (.int .u64 (i110)) ∧ ∃ (s111 : Option Addr) (s111n s111c : Nat), w109.cell? (aB.add 6) = some (.slice s111 s111n s111c) ∧ vidx s111 s111n i82 fun a112 => ∃ (i113 : Int), w109.cell? ((a112.add ((i82 : Int).toNat * 4)).add 1) = some (.int .u64 (i113)) ∧ I79 [.bool ((i110 : Int) == i113), .int .i64 (IntKind.i64.wrap (i82 - 1))] w109 ∧ μ80 [.bool ((i110 : Int) == i113), .int .i64 (IntKind.i64.wrap (i82 - 1))] w109 < μ80 [.bool (b81), .int .i64 (i82)] w83))))
 (N w83))))

theorem tailM {w : World} {R : Value → World → Prop} {N : World → Prop} {ba bb bm tyA tyB : Nat} {csA csB : Array Value} {qa qb : SV} {la lb : List Ent} {psa psb : List (Ent × SV)}
    (hA : Blk w ba csA tyA) (hA6 : csA[6]? = some (.slice qa.p qa.n qa.c)) (hB : Blk w bb csB tyB) (hB6 : csB[6]? = some (.slice qb.p qb.n qb.c)) (hqa : Ents w qa la psa) (hqb : Ents w qb lb psb) (hm : MapU w bm [])
    (hla : la.length < 4611686018427387904) (hlb : lb.length < 4611686018427387904)
    (mono : ∀ (i j : Nat) (x y : Ent), i ≤ j → lb[i]? = some x → lb[j]? = some y → x.index ≤ y.index)
    (alike : ∀ e ∈ la, ∀ e' ∈ lb, e.index = e'.index → e.term = e'.term → ∀ f ∈ la, ∀ f' ∈ lb, f.index = f'.index → f.index ≤ e.index → f = f')
    (hN : ∀ w', Fr [bm] w w' → N w') : TailM ⟨ba, 0, none⟩ ⟨bb, 0, none⟩ ⟨bm, 0, none⟩ R N w := by
  have hqan := hqa.n
  have hqal := hqa.len
  have hqbn := hqb.n
  have hqbl := hqb.len
  have hne : ∀ {b : Nat} {cs : Array Value} {ty : TypeId}, Blk w b cs ty → b ∉ [bm] := fun hb hh => by
    simp at hh; subst hh
    obtain ⟨es, clock, h1, _⟩ := hm
    cases hb.symm.trans h1
  unfold TailM
  simp only [add_mk, Nat.zero_add]
  refine ⟨qa.p, qa.n, qa.c, hA.at_ 6 hA6, fun vs w' => ∃ (k : Nat) (M : List (Nat × Ent × SV)), vs = [iv k] ∧ k ≤ la.length ∧ Fr [bm] w w' ∧ Keeps w w' ∧ MapU w' bm (M.map fun p => (p.1, .agg (ec p.2).toArray)) ∧ ∀ p ∈ M, p.2.1 ∈ la ∧ p.2.1.index = p.1 ∧ Bytes w' p.2.2 p.2.1.data,
    fun vs _ => match vs with | [.int _ k] => ((la.length : Int) - k).toNat | _ => 0, ⟨0, [], rfl, by omega, Fr.refl _ _, Keeps.refl _, hm, by simp⟩, ?_⟩
  rintro i1 w1 ⟨k, M, hv, hk, f1, k1, hm1, hM⟩
  simp only [iv, List.cons.injEq, Value.int.injEq, and_true, true_and] at hv
  subst hv
  refine vif_mk (fun h2 => ?_) fun h2 => ?_
  · have hkl : k < la.length := by simp at h2; omega
    have hkq : psa[k]? = some psa[k] := List.getElem?_eq_getElem (by omega)
    have hq1 := hqa.keeps k1
    have hfst : la[k]? = some psa[k].1 := by
      have h0 := congrArg (·[k]?) hq1.fst
      simp only [List.getElem?_map, hkq, Option.map_some] at h0
      exact h0.symm
    have hdat := hq1.data _ (List.getElem_mem (by omega : k < psa.length))
    generalize psa[k] = y at hkq hfst hdat
    have hym : y.1 ∈ la := List.mem_of_getElem? hfst
    refine Sl.elem (by decide) ec_len hq1.sl hkq (local_ent rfl (fun v hv => one_ec [y] v (by simpa using hv)) fun c2 w2 e2 hc2 hb2 => ?_)
    have hm2 : MapU w2 bm (M.map fun p => (p.1, .agg (ec p.2).toArray)) := hm1.fr (e2.fr []) (by simp)
    refine ⟨y.1.index, hb2.at_ 0 rfl, vcells_all hb2 4 rfl (hm2.find y.1.index fun es clock g1 g2 g3 g4 g5 => ⟨_, g5, vput_mk hm2.lt fun w3 p1 p2 p3 p4 => ?_⟩)⟩
    obtain ⟨M', hM', hmem⟩ := putL_map (fun p : Ent × SV => Value.agg (ec p).toArray) M y.1.index y
    have kp := map_keeps g1 p3
    rw [wi (by omega) (by omega)]
    refine ⟨⟨k + 1, M', by simp [iv], hkl, (f1.trans (e2.fr [bm])).trans p2, (k1.trans e2.keeps).trans kp, ?_, fun p hp => ?_⟩, by simp only; omega⟩
    · rw [← hM']; exact mapPut_u g2 g3 g4 p1
    · rcases hmem p hp with hh | rfl
      · obtain ⟨q1, q2, q3⟩ := hM p hh
        exact ⟨q1, q2, Sl.keeps (Sl.ex q3 e2) kp (.inr rfl)⟩
      · exact ⟨hym, rfl, Sl.keeps (Sl.ex hdat e2) kp (.inr rfl)⟩
  · have hB1 := f1.blk hB (hne hB)
    have hq1 := hqb.keeps k1
    refine ⟨qb.p, qb.n, qb.c, hB1.at_ 6 hB6, fun vs w' => ∃ (b : Bool) (k : Nat), vs = [.bool b, .int .i64 ((k : Int) - 1)] ∧ k ≤ lb.length ∧ Ex w1 w' ∧ (b = true → ∃ (i : Nat) (x y : Ent), k ≤ i ∧ x ∈ la ∧ lb[i]? = some y ∧ x.index = y.index ∧ x.term = y.term),
      fun vs _ => match vs with | [_, .int _ j] => (j + 1).toNat | _ => 0, ⟨false, lb.length, by rw [wi (by omega) (by omega), hqbn], by omega, Ex.refl _, fun h => by cases h⟩, ?_⟩
    rintro b i2 w2 ⟨b0, k2, hv, hk2, e2, hal⟩
    simp only [List.cons.injEq, Value.int.injEq, Value.bool.injEq, and_true, true_and] at hv
    obtain ⟨rfl, rfl⟩ := hv
    refine vif_mk (fun h3 => ?_) fun h3 => hN w2 (f1.trans (e2.fr [bm]))
    obtain ⟨j, rfl⟩ : ∃ j, k2 = j + 1 := ⟨k2 - 1, by simp at h3; omega⟩
    rw [show (((j + 1 : Nat) : Int) - 1) = (j : Int) by omega]
    have hq2 := hq1.keeps e2.keeps
    have hjq : psb[j]? = some psb[j] := List.getElem?_eq_getElem (by omega)
    have hfst : lb[j]? = some psb[j].1 := by
      have h0 := congrArg (·[j]?) hq2.fst
      simp only [List.getElem?_map, hjq, Option.map_some] at h0
      exact h0.symm
    have hdat := hq2.data _ (List.getElem_mem (by omega : j < psb.length))
    generalize psb[j] = y at hjq hfst hdat
    have hym : y.1 ∈ lb := List.mem_of_getElem? hfst
    have hB2 := e2.blk hB1
    have hm2 : MapU w2 bm (M.map fun p => (p.1, .agg (ec p.2).toArray)) := hm1.fr (e2.fr []) (by simp)
    -- on with what is ahead
    have next : ∀ {w' : World} {b' : Bool}, Ex w2 w' → (b' = true → ∃ (i : Nat) (x y : Ent), j ≤ i ∧ x ∈ la ∧ lb[i]? = some y ∧ x.index = y.index ∧ x.term = y.term) →
        (∃ (b : Bool) (k : Nat), [Value.bool b', .int .i64 (IntKind.i64.wrap ((j : Int) - 1))] = [.bool b, .int .i64 ((k : Int) - 1)] ∧ k ≤ lb.length ∧ Ex w1 w' ∧ (b = true → ∃ (i : Nat) (x y : Ent), k ≤ i ∧ x ∈ la ∧ lb[i]? = some y ∧ x.index = y.index ∧ x.term = y.term)) ∧
        ((IntKind.i64.wrap ((j : Int) - 1)) + 1).toNat < ((j : Int) + 1).toNat := fun e hb => by
      rw [wi (by omega) (by omega)]
      exact ⟨⟨_, j, rfl, by omega, e2.trans e, hb⟩, by omega⟩
    have sl : ∀ {w' : World}, Ex w2 w' → Sl w' 47 4 qb (psb.flatMap ec) := fun e => hq2.sl.ex e
    refine ⟨qb.p, qb.n, qb.c, hB2.at_ 6 hB6, Sl.fld hq2.sl hjq (m := 0) (by decide) rfl fun a ha => ⟨_, ha, hm2.find y.1.index fun es clock g1 g2 g3 g4 g5 => ⟨_, g5, ?_⟩⟩⟩
    cases hf : first (M.map fun p => (p.1, Value.agg (ec p.2).toArray)) y.1.index with
    | none =>
      refine ⟨_, rfl, false, rfl, local_ent rfl (by simp [isOne]) fun c3 w3 e3 hc3 hb3 => vif_t rfl (next e3 fun hb => ?_)⟩
      obtain ⟨i, x, z, q1, q2⟩ := hal hb
      exact ⟨i, x, z, by omega, q2⟩
    | some z =>
      obtain ⟨kk, v⟩ := z
      obtain ⟨x, hm, rfl⟩ := first_mem (F := fun p : Ent × SV => Value.agg (ec p).toArray) hf
      obtain ⟨hx1, hx2, hx3⟩ := hM _ hm
      refine ⟨(ec x).toArray, rfl, true, rfl, local_ent rfl (fun v hv => one_ec [x] v (by simpa using hv)) fun c3 w3 e3 hc3 hb3 => vif_f rfl (vdraw_mk fun w4 e4 _ => ?_)⟩
      have e34 := e3.trans e4
      have hb4 := e4.blk hb3
      have here : x.1.term = y.1.term → ∃ (i : Nat) (x y : Ent), j ≤ i ∧ x ∈ la ∧ lb[i]? = some y ∧ x.index = y.index ∧ x.term = y.term := fun h => ⟨j, x.1, y.1, Nat.le_refl _, hx1, hfst, hx2, h⟩
      have keep : b = true → ∃ (i : Nat) (x y : Ent), j ≤ i ∧ x ∈ la ∧ lb[i]? = some y ∧ x.index = y.index ∧ x.term = y.term := fun h => by
        obtain ⟨i, x, z, q1, q2⟩ := hal h
        exact ⟨i, x, z, by omega, q2⟩
      -- are the terms the same?
      have terms : ∀ {w' : World}, Ex w4 w' → (∃ (i105 : Int), w'.cell? ⟨c3, 1, none⟩ = some (.int .u64 (i105)) ∧ ∃ (s106 : Option Addr) (s106n s106c : Nat), w'.cell? ⟨bb, 6, none⟩ = some (.slice s106 s106n s106c) ∧ vidx s106 s106n (j : Int) fun a107 => ∃ (i108 : Int), w'.cell? ((a107.add ((j : Int).toNat * 4)).add 1) = some (.int .u64 (i108)) ∧
          (∃ (b : Bool) (k : Nat), [Value.bool ((i105 : Int) == i108), .int .i64 (IntKind.i64.wrap ((j : Int) - 1))] = [.bool b, .int .i64 ((k : Int) - 1)] ∧ k ≤ lb.length ∧ Ex w1 w' ∧ (b = true → ∃ (i : Nat) (x y : Ent), k ≤ i ∧ x ∈ la ∧ lb[i]? = some y ∧ x.index = y.index ∧ x.term = y.term)) ∧
          ((IntKind.i64.wrap ((j : Int) - 1)) + 1).toNat < ((j : Int) + 1).toNat) := fun {w'} e => by
        refine ⟨x.1.term, (e.blk hb4).at_ 1 rfl, qb.p, qb.n, qb.c, ((e34.trans e).blk hB2).at_ 6 hB6, Sl.fld (sl (e34.trans e)) hjq (m := 1) (by decide) rfl fun a ha => ⟨_, ha, next (e34.trans e) fun hb => here ?_⟩⟩
        simp at hb; omega
      have done : ∀ {w' : World}, Ex w4 w' → _ := fun {w'} e => next (w' := w') (b' := true) (e34.trans e)
      refine vif_mk (fun h5 => ?_) fun h5 => vdraw_mk fun w5 e5 _ => vif_mk (fun h6 => ?_) fun h6 => terms e5
      · obtain ⟨i, x1, y1, q1, q2, q3, q4, q5⟩ := keep h5
        have hxy : x.1 = y.1 := alike x1 q2 y1 (List.mem_of_getElem? q3) q4 q5 x.1 hx1 y.1 hym hx2 (by
          rw [hx2, q4]; exact mono j i y.1 y1 q1 hfst q3)
        refine vcells_all hb4 4 rfl ⟨qb.p, qb.n, qb.c, (e34.blk hB2).at_ 6 hB6, Sl.elem (by decide) ec_len (sl e34) hjq ?_⟩
        have hee : x = (y.1, x.2) := by rw [← hxy]
        rw [hee]
        refine (same11 (Sl.ex (by rw [← hxy]; exact hx3) (e2.trans e34)) (Sl.ex hdat e34)).mono ?_
        rintro _ w6 ⟨rfl, e6⟩
        exact ⟨_, rfl, vif_f (by simp) (vdraw_mk fun w7 e7 _ => vif_t h5 (done (e6.trans e7) fun _ => keep h5))⟩
      · exact absurd (h5.symm.trans h6) (by decide)

def Z43 : Array Value := #[.int .u64 0, .int .i64 0, .int .u64 0, .int .u64 0, .slice Option.none 0 0, .slice Option.none 0 0, .slice Option.none 0 0]
/-- a state that holds these entries -/
def GotE (w : World) (g : Array Value) (l : List Ent) : Prop := ∃ t v i it m d q qs, g = stA t v i it m d q ∧ Ents w q l qs
theorem GotE.ex {w w' : World} {g : Array Value} {l : List Ent} (h : GotE w g l) (e : Ex w w') : GotE w' g l := by
  obtain ⟨t, v, i, it, m, d, q, qs, h1, h2⟩ := h; exact ⟨t, v, i, it, m, d, q, qs, h1, h2.keeps e.keeps⟩

theorem newZ {w : World} {K : Addr → World → Prop} (hK : ∀ b w', Ex w w' → w.heap.size ≤ b → b < w'.heap.size → Blk w' b Z43 43 → K ⟨b, 0, none⟩ w') :
    vnew w (.cells #[.int .u64 0, .int .i64 0, .int .u64 0, .int .u64 0, .slice Option.none 0 0, .slice Option.none 0 0, .slice Option.none 0 0] 43) K :=
  vnew_mk fun w1 e1 s1 b1 => hK _ w1 e1 (Nat.le_refl _) (show Blk w1 _ Z43 43 from b1).lt b1

theorem endM {w0 w : World} {R : Value → World → Prop} {N : World → Prop} {ba bb : Nat} {gA gB : Array Value} {la lb : List Ent} (e0 : Ex w0 w) (hA : Blk w ba Z43 43) (hB : Blk w bb Z43 43) (hne : ba ≠ bb) (ha : w0.heap.size ≤ ba) (hb : w0.heap.size ≤ bb)
    (GA : GotE w gA la) (GB : GotE w gB lb) (hla : la.length ≤ 1024) (hlb : lb.length ≤ 1024)
    (mono : ∀ (i j : Nat) (x y : Ent), i ≤ j → lb[i]? = some x → lb[j]? = some y → x.index ≤ y.index)
    (alike : ∀ e ∈ la, ∀ e' ∈ lb, e.index = e'.index → e.term = e'.term → ∀ f ∈ la, ∀ f' ∈ lb, f.index = f'.index → f.index ≤ e.index → f = f')
    (hN : ∀ w', Ex w0 w' → N w') : vstoreN w ⟨ba, 0, none⟩ 7 gA fun w1 => vstoreN w1 ⟨bb, 0, none⟩ 7 gB fun w2 => vnew w2 (.map #[] 0) fun am w3 => TailM ⟨ba, 0, none⟩ ⟨bb, 0, none⟩ am R N w3 := by
  obtain ⟨t, v, i, it, m, d, q, qs, rfl, h2⟩ := GA
  obtain ⟨t', v', i', it', m', d', q', qs', rfl, h2'⟩ := GB
  refine vstoreN_mk hA rfl (by simp [Z43]) (by simp [stA, isOne]) fun w1 p1 => ?_
  have hA1 : Blk w1 ba (stA t v i it m d q) 43 := p1.blk
  have hB1 : Blk w1 bb Z43 43 := p1.other (Ne.symm hne) hB
  have k1 : Keeps w w1 := p1.keeps hA (by decide)
  refine vstoreN_mk hB1 rfl (by simp [Z43]) (by simp [stA, isOne]) fun w2 p2 => ?_
  have hB2 : Blk w2 bb (stA t' v' i' it' m' d' q') 43 := p2.blk
  have hA2 : Blk w2 ba (stA t v i it m d q) 43 := p2.other hne hA1
  have k2 : Keeps w w2 := k1.trans (p2.keeps hB1 (by decide))
  have e2 : Ex w0 w2 := (e0.fr' (p1.fr (M := [ba]) (by simp)) (by simpa using ha)).fr' (p2.fr (M := [bb]) (by simp)) (by simpa using hb)
  refine vnew_mk fun w3 e3 s3 b3 => ?_
  have k3 := k2.trans e3.keeps
  have hm : MapU w3 w2.heap.size [] := ⟨#[], 0, b3, rfl, by simp, by simp⟩
  refine tailM (e3.blk hA2) rfl (e3.blk hB2) rfl (h2.keeps k3) (h2'.keeps k3) hm (by omega) (by omega) mono alike fun w' f => hN w' ((e2.trans e3).fr' f fun x hx => ?_)
  have := e2.size
  simp at hx; omega

set_option maxHeartbeats 2000000 in
theorem raftMatches3 {w : World} {s : SV} {l : List (Int × Int × Nat)} (hs : Steps w s l) {x0 : Nat} (hx : x0 < 256) :
    Calls Tryz.prog 3 #[.int .u8 (x0 : Int), .slice s.p s.n s.c] w fun e w' => e = .returned (.bool true) ∧ Ex w w' := by
  refine ret (R := fun v w' => v = .bool true ∧ Ex w w') (c3 x0 s.p s.n s.c w ?_) (fun v w' ⟨h1, h2⟩ => ⟨by rw [h1], h2⟩)
  unfold F3
  rw [size_is hx]
  have hN := size_b x0
  generalize sizeN x0 = N at hN
  refine ⟨fun vs w' => vs = [] ∧ Ex w w' ∧ l.length ≤ 300, start (R := fun v w' => v = .bool true ∧ Ex w w') (J := fun vs w' => vs = [] ∧ Ex w w' ∧ l.length ≤ 300) hs (fun w' e => ⟨rfl, e⟩) (fun w' e hl => ⟨rfl, e, hl⟩), ?_⟩
  rintro w1 ⟨_, e1, hl⟩
  have hn := hs.n
  refine ⟨by decide, (begin8 hN.1 hN.2 (Sf.PL (Sf.g0 N)) (Sf.PA (Sf.g0 N))).mono ?_⟩
  rintro _ w2 ⟨b, rfl, h2⟩
  refine ⟨_, rfl, fun vs w' => ∃ (i : Nat) (g : Sf.G) (wl : Sf.Wl), vs = [iv i] ∧ i ≤ l.length ∧ WOk w1 w' b wl N (Sf.PL g) (Sf.PA g) ∧ Good g wl N ∧ g.B = i,
    fun vs _ => match vs with | [.int _ i] => ((l.length : Int) - i).toNat | _ => 0, ⟨0, _, _, rfl, by omega, h2, good0 hN, rfl⟩, ?_⟩
  rintro i17 w3 ⟨i, g, wl, hv, hi, h3, hg, hB⟩
  simp only [iv, List.cons.injEq, Value.int.injEq, and_true, true_and] at hv
  subst hv
  have ex3 : Ex w1 w3 := by obtain ⟨_, _, _, _, _, _, _, _, _, _, _, _, q, _⟩ := h3; exact q
  refine vif_mk (fun h4 => ?_) fun h4 => ?_
  · have hil : i < l.length := by simp at h4; omega
    have hp : l[i]? = some l[i] := List.getElem?_eq_getElem hil
    have hd := hs.lim _ (List.getElem_mem hil)
    generalize l[i] = p at hp hd
    refine take_step (hs.ex (e1.trans ex3)) hp fun w4 e4 => ?_
    have h4' : WOk w1 w4 b wl N (Sf.PL g) (Sf.PA g) := by
      obtain ⟨rs, sn, sc, st, cm, ops, lm, am, L, A, q1, q2, q3, q4, q5⟩ := h3
      exact ⟨rs, sn, sc, st, cm, ops, lm, am, L, A, q1.ex e4, q2, q3.trans e4, q4, q5⟩
    refine (Good.do h4' hg (by omega) p.1 p.2.1 p.2.2 hd).mono ?_
    rintro _ w5 ⟨rfl, g', wl', h5, hg', _, hB'⟩
    rw [wi (by omega) (by omega)]
    exact ⟨rfl, ⟨i + 1, g', wl', by simp [iv], hil, h5, hg', by omega⟩, by simp only; omega⟩
  · obtain ⟨rs, sn, sc, st, cm, ops, lm, am, L, A, hw, low, ex5, hL, hA⟩ := h3
    have hsn : sn.n = N := by have hh := hw.nodes.len; rw [List.length_map, hw.len.1] at hh; omega
    have hgB := hg.B
    have nodeAt : ∀ {k : Nat}, k < N → ∃ q n, rs[k]? = some q ∧ wl.ns[k]? = some n ∧ Fit n ∧ ∀ {w' : World}, Ex w3 w' → NodeR w' q.1 n q.2 := fun {k} hkN => by
      have hkl : k < rs.length := by rw [hw.len.1]; exact hkN
      have hq : rs[k]? = some rs[k] := List.getElem?_eq_getElem hkl
      obtain ⟨n, h1, h2⟩ := hw.node k _ hq
      exact ⟨rs[k], n, hq, h1, (hg.inv.ns _ n h1).fit hg.inv.gi (by omega), fun e => h2.ex e⟩
    have e13 := e1.trans ex3
    refine (?_ : ∃ _, _)
    refine ⟨sn.p, sn.n, sn.c, hw.blk.at_ 0 rfl, fun vs w' => ∃ k : Nat, vs = [iv k] ∧ k ≤ N ∧ Ex w3 w', fun vs _ => match vs with | [.int _ k] => ((N : Int) - k).toNat | _ => 0, ⟨0, rfl, by omega, Ex.refl _⟩, ?_⟩
    rintro i31 w32 ⟨a, hv, ha, e32⟩
    simp only [iv, List.cons.injEq, Value.int.injEq, and_true, true_and] at hv
    subst hv
    refine vif_mk (fun h6 => ?_) fun h6 => ⟨rfl, e13.trans e32⟩
    have haN : a < N := by simp at h6; omega
    refine ⟨fun vs w' => ∃ k : Nat, vs = [iv k] ∧ k ≤ a ∧ Ex w3 w', fun vs _ => match vs with | [.int _ k] => ((a : Int) - k).toNat | _ => 0, ⟨0, rfl, by omega, e32⟩, ?_⟩
    rintro i35 w36 ⟨c, hv, hc, e36⟩
    simp only [iv, List.cons.injEq, Value.int.injEq, and_true, true_and] at hv
    subst hv
    refine vif_mk (fun h7 => vdraw_mk fun w37 e37 _ => ?_) fun h7 => ?_
    · have hca : c < a := by simp at h7; omega
      have e37 : Ex w3 w37 := e36.trans e37
      obtain ⟨qa, na, hqa, hna, fa, hRa⟩ := nodeAt haN
      obtain ⟨qb, nb, hqb, hnb, fb, hRb⟩ := nodeAt (show c < N by omega)
      have callA : ∀ {w' : World}, Ex w37 w' → ∀ {K : Array Value → World → Prop}, (∀ g w'', Ex w37 w'' → Ex w' w'' → GotE w'' g na.log.l → K g w'') → Calls Tryz.prog 10 #[.pointer (some ⟨qa.1, 0, none⟩)] w' fun e w'' => ∃ g, g.size = 7 ∧ e = .returned (.agg g) ∧ K g w'' := fun {w'} e {K} hK => by
        refine (state10 (hRa (e37.trans e)) fa).mono ?_
        rintro _ w'' ⟨m, d, q, qs, rfl, e', _, _, hq, _⟩
        exact ⟨_, rfl, rfl, hK _ _ (e.trans e') e' ⟨_, _, _, _, _, _, _, _, rfl, hq⟩⟩
      have callB : ∀ {w' : World}, Ex w37 w' → ∀ {K : Array Value → World → Prop}, (∀ g w'', Ex w37 w'' → Ex w' w'' → GotE w'' g nb.log.l → K g w'') → Calls Tryz.prog 10 #[.pointer (some ⟨qb.1, 0, none⟩)] w' fun e w'' => ∃ g, g.size = 7 ∧ e = .returned (.agg g) ∧ K g w'' := fun {w'} e {K} hK => by
        refine (state10 (hRb (e37.trans e)) fb).mono ?_
        rintro _ w'' ⟨m, d, q, qs, rfl, e', _, _, hq, _⟩
        exact ⟨_, rfl, rfl, hK _ _ (e.trans e') e' ⟨_, _, _, _, _, _, _, _, rfl, hq⟩⟩
      have next : ∀ {w' : World}, Ex w37 w' → (∃ k : Nat, [Value.int .i64 (IntKind.i64.wrap ((c : Int) + 1))] = [iv k] ∧ k ≤ a ∧ Ex w3 w') ∧ ((a : Int) - IntKind.i64.wrap ((c : Int) + 1)).toNat < ((a : Int) - (c : Int)).toNat := fun e => by
        rw [wi (by omega) (by omega)]
        exact ⟨⟨c + 1, by simp [iv], by omega, e37.trans e⟩, by omega⟩
      have fin : ∀ {w' : World} {ba bb : Nat} {gA gB : Array Value}, Ex w37 w' → Blk w' ba Z43 43 → Blk w' bb Z43 43 → ba ≠ bb → w37.heap.size ≤ ba → w37.heap.size ≤ bb → GotE w' gA na.log.l → GotE w' gB nb.log.l →
          vstoreN w' ⟨ba, 0, none⟩ 7 gA fun w1 => vstoreN w1 ⟨bb, 0, none⟩ 7 gB fun w2 => vnew w2 (.map #[] 0) fun am w3' => TailM ⟨ba, 0, none⟩ ⟨bb, 0, none⟩ am (fun v w' => v = .bool true ∧ Ex w w') (fun w'' => (∃ k : Nat, [Value.int .i64 (IntKind.i64.wrap ((c : Int) + 1))] = [iv k] ∧ k ≤ a ∧ Ex w3 w'') ∧ ((a : Int) - IntKind.i64.wrap ((c : Int) + 1)).toNat < ((a : Int) - (c : Int)).toNat) w3' := by
        intro w' ba bb gA gB e h1 h2 h3 h4 h5 h6 h7
        refine endM e h1 h2 h3 h4 h5 h6 h7 fa.log.len fb.log.len (fun i j x y hij hx hy => ?_) (fun e he e' he' q1 q2 f hf f' hf' q3 q4 => hg.inv.matches hna hnb he he' q1 q2 hf hf' q3 q4) fun w'' e'' => next e''
        rw [fb.log.idx i x hx, fb.log.idx j y hy]; omega
      refine ⟨fun w' => Ex w37 w', Ex.refl _, (?_ : ∃ _, _)⟩
      refine ⟨sn.p, sn.n, sn.c, (hw.ex e37).blk.at_ 0 rfl, Sl.load (hw.ex e37).nodes (i := a) (v := .pointer (some ⟨qa.1, 0, none⟩)) (by rw [List.getElem?_map, hqa]; rfl) fun x hx => ⟨some ⟨qa.1, 0, none⟩, hx, sn.p, sn.n, sn.c, fun w' e => (hw.ex (e37.trans e)).blk.at_ 0 rfl, Sl.load (hw.ex e37).nodes (i := c) (v := .pointer (some ⟨qb.1, 0, none⟩)) (by rw [List.getElem?_map, hqb]; rfl) fun y hy => ⟨some ⟨qb.1, 0, none⟩, fun w' e => e.ext.cell hy, ?_⟩⟩⟩
      have e0 := Ex.refl w37
      exact ⟨callA e0 fun g1 w1 E1 e1 G1 => ⟨E1, ⟨callB E1 fun g2 w2 E2 e2 G2 => ⟨E2, ⟨newZ fun b3 w3 e3 s3 t3 h3 => ⟨(E2.trans e3), newZ fun b4 w4 e4 s4 t4 h4 => ⟨((E2.trans e3).trans e4), fin ((E2.trans e3).trans e4) (e4.blk h3) h4 (by have := e1.size; have := e2.size; have := e3.size; have := e4.size; omega) (by have := e1.size; have := e2.size; have := e3.size; have := e4.size; omega) (by have := e1.size; have := e2.size; have := e3.size; have := e4.size; omega) (((G1.ex e2).ex e3).ex e4) ((G2.ex e3).ex e4)⟩⟩, newZ fun b5 w5 e5 s5 t5 h5 => ⟨(E2.trans e5), newZ fun b6 w6 e6 s6 t6 h6 => ⟨((E2.trans e5).trans e6), fin ((E2.trans e5).trans e6) h6 (e6.blk h5) (by have := e1.size; have := e2.size; have := e5.size; have := e6.size; omega) (by have := e1.size; have := e2.size; have := e5.size; have := e6.size; omega) (by have := e1.size; have := e2.size; have := e5.size; have := e6.size; omega) (((G1.ex e2).ex e5).ex e6) ((G2.ex e5).ex e6)⟩⟩⟩⟩, ⟨newZ fun b7 w7 e7 s7 t7 h7 => ⟨(E1.trans e7), ⟨callB (E1.trans e7) fun g8 w8 E8 e8 G8 => ⟨E8, newZ fun b9 w9 e9 s9 t9 h9 => ⟨(E8.trans e9), fin (E8.trans e9) (e9.blk (e8.blk h7)) h9 (by have := e1.size; have := e7.size; have := e8.size; have := e9.size; omega) (by have := e1.size; have := e7.size; have := e8.size; have := e9.size; omega) (by have := e1.size; have := e7.size; have := e8.size; have := e9.size; omega) (((G1.ex e7).ex e8).ex e9) (G8.ex e9)⟩⟩, newZ fun b10 w10 e10 s10 t10 h10 => ⟨((E1.trans e7).trans e10), callB ((E1.trans e7).trans e10) fun g11 w11 E11 e11 G11 => fin E11 (e11.blk (e10.blk h7)) (e11.blk h10) (by have := e1.size; have := e7.size; have := e10.size; have := e11.size; omega) (by have := e1.size; have := e7.size; have := e10.size; have := e11.size; omega) (by have := e1.size; have := e7.size; have := e10.size; have := e11.size; omega) (((G1.ex e7).ex e10).ex e11) G11⟩⟩⟩, newZ fun b12 w12 e12 s12 t12 h12 => ⟨(E1.trans e12), ⟨callB (E1.trans e12) fun g13 w13 E13 e13 G13 => ⟨E13, newZ fun b14 w14 e14 s14 t14 h14 => ⟨(E13.trans e14), fin (E13.trans e14) h14 (e14.blk (e13.blk h12)) (by have := e1.size; have := e12.size; have := e13.size; have := e14.size; omega) (by have := e1.size; have := e12.size; have := e13.size; have := e14.size; omega) (by have := e1.size; have := e12.size; have := e13.size; have := e14.size; omega) (((G1.ex e12).ex e13).ex e14) (G13.ex e14)⟩⟩, newZ fun b15 w15 e15 s15 t15 h15 => ⟨((E1.trans e12).trans e15), callB ((E1.trans e12).trans e15) fun g16 w16 E16 e16 G16 => fin E16 (e16.blk h15) (e16.blk (e15.blk h12)) (by have := e1.size; have := e12.size; have := e15.size; have := e16.size; omega) (by have := e1.size; have := e12.size; have := e15.size; have := e16.size; omega) (by have := e1.size; have := e12.size; have := e15.size; have := e16.size; omega) (((G1.ex e12).ex e15).ex e16) G16⟩⟩⟩⟩⟩⟩, ⟨newZ fun b17 w17 e17 s17 t17 h17 => ⟨(e0.trans e17), ⟨callA (e0.trans e17) fun g18 w18 E18 e18 G18 => ⟨E18, ⟨callB E18 fun g19 w19 E19 e19 G19 => ⟨E19, newZ fun b20 w20 e20 s20 t20 h20 => ⟨(E19.trans e20), fin (E19.trans e20) (e20.blk (e19.blk (e18.blk h17))) h20 (by have := e17.size; have := e18.size; have := e19.size; have := e20.size; omega) (by have := e17.size; have := e18.size; have := e19.size; have := e20.size; omega) (by have := e17.size; have := e18.size; have := e19.size; have := e20.size; omega) ((G18.ex e19).ex e20) (G19.ex e20)⟩⟩, newZ fun b21 w21 e21 s21 t21 h21 => ⟨(E18.trans e21), callB (E18.trans e21) fun g22 w22 E22 e22 G22 => fin E22 (e22.blk (e21.blk (e18.blk h17))) (e22.blk h21) (by have := e17.size; have := e18.size; have := e21.size; have := e22.size; omega) (by have := e17.size; have := e18.size; have := e21.size; have := e22.size; omega) (by have := e17.size; have := e18.size; have := e21.size; have := e22.size; omega) ((G18.ex e21).ex e22) G22⟩⟩⟩, newZ fun b23 w23 e23 s23 t23 h23 => ⟨((e0.trans e17).trans e23), callA ((e0.trans e17).trans e23) fun g24 w24 E24 e24 G24 => ⟨E24, callB E24 fun g25 w25 E25 e25 G25 => fin E25 (e25.blk (e24.blk (e23.blk h17))) (e25.blk (e24.blk h23)) (by have := e17.size; have := e23.size; have := e24.size; have := e25.size; omega) (by have := e17.size; have := e23.size; have := e24.size; have := e25.size; omega) (by have := e17.size; have := e23.size; have := e24.size; have := e25.size; omega) (G24.ex e25) G25⟩⟩⟩⟩, newZ fun b26 w26 e26 s26 t26 h26 => ⟨(e0.trans e26), ⟨callA (e0.trans e26) fun g27 w27 E27 e27 G27 => ⟨E27, ⟨callB E27 fun g28 w28 E28 e28 G28 => ⟨E28, newZ fun b29 w29 e29 s29 t29 h29 => ⟨(E28.trans e29), fin (E28.trans e29) h29 (e29.blk (e28.blk (e27.blk h26))) (by have := e26.size; have := e27.size; have := e28.size; have := e29.size; omega) (by have := e26.size; have := e27.size; have := e28.size; have := e29.size; omega) (by have := e26.size; have := e27.size; have := e28.size; have := e29.size; omega) ((G27.ex e28).ex e29) (G28.ex e29)⟩⟩, newZ fun b30 w30 e30 s30 t30 h30 => ⟨(E27.trans e30), callB (E27.trans e30) fun g31 w31 E31 e31 G31 => fin E31 (e31.blk h30) (e31.blk (e30.blk (e27.blk h26))) (by have := e26.size; have := e27.size; have := e30.size; have := e31.size; omega) (by have := e26.size; have := e27.size; have := e30.size; have := e31.size; omega) (by have := e26.size; have := e27.size; have := e30.size; have := e31.size; omega) ((G27.ex e30).ex e31) G31⟩⟩⟩, newZ fun b32 w32 e32 s32 t32 h32 => ⟨((e0.trans e26).trans e32), callA ((e0.trans e26).trans e32) fun g33 w33 E33 e33 G33 => ⟨E33, callB E33 fun g34 w34 E34 e34 G34 => fin E34 (e34.blk (e33.blk h32)) (e34.blk (e33.blk (e32.blk h26))) (by have := e26.size; have := e32.size; have := e33.size; have := e34.size; omega) (by have := e26.size; have := e32.size; have := e33.size; have := e34.size; omega) (by have := e26.size; have := e32.size; have := e33.size; have := e34.size; omega) (G33.ex e34) G34⟩⟩⟩⟩⟩⟩
    · rw [wi (by omega) (by omega)]
      exact ⟨⟨a + 1, by simp [iv], haN, e36⟩, by simp only; omega⟩

end Rx
end Go.Proofs.YtkoipeddfbeliaaGreat

namespace Go.Proofs.YtkoipeddfbeliaaGreat
open Go.ChangeShapes Go.WideShapes Go.ChangeAt Go.RowKit Rx

set_option maxRecDepth 100000 in
theorem raftMatches_lifted (os : Os) (started : os.Started) (H : Type) (enc : TypeId × Value → H) :
    ReturnsInHanded {} Tryz.checked os 3 .any (Rows.raftMatchesSpec.pre6 enc Tryz.prog Tryz.f3 Rows.raftMatchesRow.domain false) (Rows.raftMatchesSpec.post enc Tryz.prog Tryz.f3 false true false false) := by
  refine returnsInHanded_of_change (C := Tryz.checked) Tryz.own started (by kernel_rfl) Tryz.func3
    (ChangeSpec.witness6 (enc := enc) (C := Tryz.checked) false ⟨#[], #[.int .u8 0, .slice none 0 0], []⟩ 8 (by kernel_rfl) (by kernel_rfl) (by kernel_rfl) (by kernel_rfl)) ?_
  intro W base args ds gs before hval0 hW hcnd _
  have hval : ∀ (j : Nat) t v, Tryz.f3.params[j]? = some t → args[j]? = some v → Value.okWide Tryz.prog W .any base t v := hval0
  have hW' := hW
  obtain ⟨p, q, hA0, hV, rfl, hfz, hnd⟩ := hW
  have hA : DataW.TrodAll enc Tryz.prog W 0 (fun _ => true) true Tryz.f3.params.toList args.toList ds p := hA0
  rw [Tryz.params3] at hA hval
  obtain ⟨v0, v1, d0, d1, p0, p1, rfl, rfl, rfl, h0, h1⟩ := trodAll_two hA
  obtain ⟨rfl, rfl⟩ := trodVars_none hV
  obtain ⟨a, rfl, rfl, rfl, wa⟩ := open_int Tryz.underlying5 (hval 0 5 v0 rfl rfl) h0
  obtain ⟨s, l, rfl, hs, hre⟩ := open_steps (okWide_slice Tryz.underlying22 (hval 1 22 v1 rfl rfl)) h1
  have hb := wf_u8 wa
  obtain ⟨x0, rfl⟩ := Int.eq_ofNat_of_zero_le hb.1
  clear hA0 hval0
  refine (raftMatches3 hs (x0 := x0) (by omega)).mono fun e W' ⟨he, hw⟩ => ?_
  subst he
  refine ⟨_, rfl, post_true (pa := [] ++ p1) (f := Tryz.f3) (s := Rows.raftMatchesSpec) rfl rfl (fun l hl => by subst hl; exact ⟨rfl, rfl, rfl⟩) hW' hw ?_⟩
  rw [Tryz.params3]
  exact trodAll_mk2 (shut_int Tryz.underlying5 wa) (hre W' _ hw fun b hb => by simpa using hb)

theorem raftMatches_holds : Rows.RaftMatchesSaid :=
  OpenClaim.holds_of_wide 3 Tryz.f3 rfl rfl rfl rfl rfl rfl rfl ⟨rfl, rfl, rfl, rfl, rfl⟩ rfl rfl rfl rfl rfl (by kernel_rfl) Tryz.func3 (by kernel_rfl)
    (of_decide_eq_true (by kernel_rfl)) (by unfold Func.isWrapper; first | (rw [if_pos (by decide +kernel)]; kernel_rfl) | (rw [if_neg (by decide +kernel)]; exact ⟨rfl, rfl⟩))
    (fun os started H enc _ => raftMatches_lifted os started H enc)

end Go.Proofs.YtkoipeddfbeliaaGreat

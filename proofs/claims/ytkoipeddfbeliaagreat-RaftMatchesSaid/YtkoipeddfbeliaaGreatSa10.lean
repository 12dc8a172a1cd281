import Derived.Test.YtkoipeddfbeliaaGreatSa09
import Derived.Test.YtkoipeddfbeliaaGreatSa01
/-
  The node's functions: what counts, and a message that comes.
-/
namespace Go.Proofs.YtkoipeddfbeliaaGreat
namespace Rx
open Go.RowKit Md
set_option maxRecDepth 100000

section
variable {w : World} {b : Nat} {n : Md.Node} {r : Raw}

theorem index91 {s : SV} {l : List Ent} {ps : List (Ent × SV)} {f : Value} {q : Ent → Bool} (h : Ents w s l ps) (hn : l.length ≤ 1000000)
    (hf : ∀ p ∈ ps, ∀ w1, Ex w w1 → vcallv Tryz.prog f [.agg (ec p).toArray] w1 fun e w' => e = .returned (.bool (q p.1)) ∧ Ex w1 w') :
    Calls Tryz.prog 91 #[.slice s.p s.n s.c, f] w fun e w' => Ex w w' ∧ ∃ i : Int, e = .returned (.int .i64 i) ∧ (0 ≤ i ↔ l.any q = true) := by
  refine ret (R := fun v w' => Ex w w' ∧ ∃ i : Int, v = .int .i64 i ∧ (0 ≤ i ↔ l.any q = true)) (c91 s.p s.n s.c f w ?_) (fun v w' ⟨h2, i, h1, h3⟩ => ⟨h2, i, by rw [h1], h3⟩)
  have hsn := h.n
  have hlen := h.len
  refine ⟨fun vs w' => ∃ j : Nat, vs = [iv j] ∧ j ≤ l.length ∧ Ex w w' ∧ (l.take j).any q = false, fun vs _ => match vs with | [.int _ j] => ((l.length : Int) - j).toNat | _ => 0, ⟨0, rfl, by omega, Ex.refl _, by simp⟩, ?_⟩
  rintro i w1 ⟨j, hv, hj, e1, ha⟩
  simp only [iv, List.cons.injEq, Value.int.injEq, and_true, true_and] at hv
  subst hv
  refine vif_mk (fun h1 => ?_) fun h1 => ?_
  · have hlt : j < l.length := by simp at h1; omega
    have hpl : j < ps.length := by omega
    have hq : ps[j]? = some ps[j] := List.getElem?_eq_getElem hpl
    have hfst : l[j]? = some ps[j].1 := by rw [← h.fst, List.getElem?_map, hq]; rfl
    refine Sl.elem (by decide) ec_len (h.sl.ex e1) hq (vcallv_mono ?_ (hf _ (List.getElem_mem hpl) w1 e1))
    rintro _ w2 ⟨rfl, e2⟩
    have hlj : l[j] = ps[j].1 := by rw [List.getElem?_eq_getElem hlt] at hfst; exact Option.some.inj hfst
    refine ⟨_, rfl, vif_mk (fun h2 => ⟨e1.trans e2, _, rfl, ?_⟩) fun h2 => ?_⟩
    · refine ⟨fun _ => List.any_eq_true.2 ⟨l[j], List.getElem_mem hlt, by rw [hlj]; exact h2⟩, fun _ => by omega⟩
    · rw [wi (by omega) (by omega)]
      refine ⟨⟨j + 1, by simp [iv], hlt, e1.trans e2, ?_⟩, by simp only; omega⟩
      rw [List.take_succ_eq_append_getElem hlt, List.any_append, ha, hlj]
      simp [h2]
  · have hjl : j = l.length := by simp at h1; omega
    subst hjl
    rw [List.take_of_length_le (Nat.le_refl _)] at ha
    exact ⟨e1, _, rfl, by rw [ha]; simp⟩

theorem right34 (h : NodeR w b n r) (m : Msg) (x : MD) (hp : Parts w m x) (hme : m.ents.length ≤ 1000000) (hml : m.members.length ≤ 1000000) :
    Calls Tryz.prog 34 #[.pointer (some ⟨b, 0, none⟩), .agg (mvA m x)] w fun e w' => e = .returned (.bool (n.right m)) ∧ Ex w w' := by
  refine ret (R := fun v w' => v = .bool (n.right m) ∧ Ex w w') (c34 _ _ w ?_) (fun v w' ⟨h1, h2⟩ => ⟨by rw [h1], h2⟩)
  unfold F34
  have hF : (far : Int) = 4611686018427387904 := rfl
  rw [← hF]
  generalize hff : (far : Int) = F
  refine vnew_mk fun w1 e1 s1 b1 => ?_
  have hb1 : Blk w1 w.heap.size (mvA m x) 54 := b1
  simp only [add_mk, Nat.zero_add]
  have no : (m.to ≠ n.id ∨ m.frm = n.id ∨ m.frm < 1 ∨ 7 < m.frm ∨ 8 ≤ m.kind ∨ far < m.term) → Value.bool false = Value.bool (n.right m) := fun hh => by
    unfold Node.right; rw [if_pos hh]
  refine ⟨fun vs w' => vs = [] ∧ Ex w1 w' ∧ ¬ (m.to ≠ n.id ∨ m.frm = n.id ∨ m.frm < 1 ∨ 7 < m.frm ∨ 8 ≤ m.kind ∨ far < m.term), vdraw_mk fun w2 e2 _ => ?_, ?_⟩
  · have h2 := h.ex (e1.trans e2)
    have hb2 := e2.blk hb1
    have e12 := e1.trans e2
    refine ⟨m.to, hb2.at_ 2 rfl, n.id, h2.at_ 0 rfl, vif_mk (fun h3 => ⟨no (.inl ?_), e12⟩) fun h3 => ⟨m.frm, hb2.at_ 1 rfl, n.id, h2.at_ 0 rfl, vif_mk (fun h4 => ⟨no (.inr (.inl ?_)), e12⟩) fun h4 => ⟨m.frm, hb2.at_ 1 rfl, ?_⟩⟩⟩
    · simp at h3; omega
    · simp at h4; omega
    have h3' : m.to = n.id := by simp at h3; omega
    have h4' : ¬ m.frm = n.id := by simp at h4; omega
    refine ret (R := fun v w' => v = .bool (decide (1 ≤ m.frm ∧ m.frm ≤ 7)) ∧ w' = w2) (c45 m.frm w2 ?_) ?_
    · refine vif_mk (fun h5 => ⟨?_, rfl⟩) fun h5 => ⟨?_, rfl⟩
      · have : 1 ≤ m.frm := by simp at h5; omega
        congr 1; rw [decide_eq_decide]; omega
      · have : ¬ 1 ≤ m.frm := by simp at h5; omega
        simp [this]
    · rintro _ _ ⟨rfl, rfl⟩
      refine ⟨_, rfl, vif_mk (fun h5 => ⟨no ?_, e12⟩) fun h5 => ⟨m.kind, hb2.at_ 0 rfl, vif_f (by simp) ⟨m.kind, hb2.at_ 0 rfl, vif_mk (fun h6 => ⟨no ?_, e12⟩) fun h6 => ⟨m.term, hb2.at_ 3 rfl, vif_mk (fun h7 => ⟨no ?_, e12⟩) fun h7 => ⟨rfl, e2, ?_⟩⟩⟩⟩⟩
      · have : ¬ (1 ≤ m.frm ∧ m.frm ≤ 7) := fun hh => by simp [hh] at h5
        omega
      · simp at h6; omega
      · simp at h7; omega
      · have h5' : 1 ≤ m.frm ∧ m.frm ≤ 7 := by simpa using h5
        simp at h6 h7
        omega
  · rintro w2 ⟨_, e2, hno⟩
    have e12 := e1.trans e2
    have hb2 := e2.blk hb1
    refine ⟨fun vs w' => vs = [] ∧ w' = w2 ∧ ¬ (m.kind ≠ 4 ∧ m.kind ≠ 6), ⟨m.kind, hb2.at_ 0 rfl, vif_mk (fun h3 => ⟨m.kind, hb2.at_ 0 rfl, vif_mk (fun h4 => ⟨?_, e12⟩) fun h4 => ⟨rfl, rfl, ?_⟩⟩) fun h3 => ⟨rfl, rfl, ?_⟩⟩, ?_⟩
    · have : m.kind ≠ 4 ∧ m.kind ≠ 6 := by simp at h3 h4; omega
      unfold Node.right; rw [if_neg hno, if_pos this]
    · simp at h4; omega
    · simp at h3; omega
    · rintro w3 ⟨_, rfl, hk⟩
      have hrt : n.right m = (m.ents.all (fun x => decide (x.term ≤ m.term)) && decide (m.logTerm ≤ m.term) && (decide (m.kind = 4) || (decide (m.index ≤ far) && decide (Md.goodM m.members)))) := by
        unfold Node.right; rw [if_neg hno, if_neg hk]
      refine ⟨x.e.p, x.e.n, x.e.c, hb2.at_ 8 rfl, ?_⟩
      refine ret (R := fun v w' => v = .bool (m.ents.any fun y => decide (m.term < y.term)) ∧ Ex w3 w') (c63 _ _ _ _ w3 ?_) ?_
      · refine (index91 (q := fun y => decide (m.term < y.term)) (hp.e.keeps e12.keeps) hme fun p _ w4 e4 => vcallv_mk (by kernel_rfl) ?_).mono ?_
        · refine ret (R := fun v w' => v = .bool (decide (m.term < p.1.term)) ∧ Ex w4 w') (c64 _ _ w4 ?_) (fun v w' ⟨h1, h2⟩ => ⟨by rw [h1], h2⟩)
          refine vnew_mk fun w5 e5 s5 b5 => ?_
          have hb5 : Blk w5 w4.heap.size (ec p).toArray 47 := b5
          have hbm := (e4.trans e5).blk hb2
          refine ⟨p.1.term, hb5.at_ 1 rfl, m.term, hbm.at_ 3 rfl, ?_, e5⟩
          congr 1; rw [decide_eq_decide]; omega
        · rintro _ w4 ⟨e4, i, rfl, hi⟩
          refine ⟨_, rfl, ?_, e4⟩
          congr 1
          rw [Bool.eq_iff_iff, ← hi]
          simp
      · rintro _ w4 ⟨rfl, e4⟩
        have hb4 := e4.blk hb2
        have hall : m.ents.all (fun x => decide (x.term ≤ m.term)) = !(m.ents.any fun y => decide (m.term < y.term)) := by
          rw [List.not_any_eq_all_not]
          congr 1; funext y
          rw [Bool.eq_iff_iff]; simp
        rw [hrt, hall]
        have e14 := e12.trans e4
        refine ⟨_, rfl, vif_mk (fun h5 => ⟨m.logTerm, hb4.at_ 5 rfl, m.term, hb4.at_ 3 rfl, vif_mk (fun h6 => ⟨m.kind, hb4.at_ 0 rfl, vif_mk (fun h7 => ⟨?_, e14⟩) fun h7 => ⟨m.index, hb4.at_ 4 rfl, vif_mk (fun h8 => ⟨x.ms.p, x.ms.n, x.ms.c, hb4.at_ 9 rfl, ?_⟩) fun h8 => ⟨?_, e14⟩⟩⟩) fun h6 => ⟨?_, e14⟩⟩) fun h5 => ⟨?_, e14⟩⟩
        · have h6' : m.logTerm ≤ m.term := by simp at h6; omega
          have h7' : m.kind = 4 := by simp at h7; omega
          rw [h5]; simp [h6', h7']
        · have h6' : m.logTerm ≤ m.term := by simp at h6; omega
          have h7' : ¬ m.kind = 4 := by simp at h7; omega
          have h8' : m.index ≤ far := by simp at h8; omega
          have hms : Ints w4 x.ms m.members := Sl.ex hp.ms e14
          refine (right46 hms (by have := hms.n; omega)).mono ?_
          rintro _ w5 ⟨rfl, e5⟩
          refine ⟨_, rfl, ?_, e14.trans e5⟩
          rw [h5]; simp only [h6', h7', h8', decide_true, decide_false, Bool.true_and, Bool.false_or]; rfl
        · have h7' : ¬ m.kind = 4 := by simp at h7; omega
          have h8' : ¬ m.index ≤ far := by simp at h8; omega
          simp [h7', h8']
        · have h6' : ¬ m.logTerm ≤ m.term := by simp at h6; omega
          simp [h6']
        · rw [h5]; simp

/-- what the roles ask for -/
structure RoleOk (n : Md.Node) : Prop where
  poll : n.role = 1 ∨ n.role = 2 → n.poll.isSome
  track : n.role = 3 → n.track.isSome

theorem step16 (h : NodeR w b n r) (f : Fit n) (ro : RoleOk n) (m : Msg) (x : MD) (hp : Parts w m x) (hm : MsgOk m) (hml : m.members.length ≤ 1000000) (hl : n.out.length ≤ 700000) (ht : n.term ≤ 18000000000000000000) :
    Calls Tryz.prog 16 #[.pointer (some ⟨b, 0, none⟩), .agg (mvA m x)] w fun e w' => e = .returned (.tuple #[]) ∧ Act w w' b r (n.step m) := by
  refine ret (R := fun v w' => v = .tuple #[] ∧ Act w w' b r (n.step m)) (c16 _ _ w ?_) (fun v w' ⟨h1, h2⟩ => ⟨by rw [h1], h2⟩)
  unfold F16
  refine vnew_mk fun w1 e1 s1 b1 => ?_
  have hb1 : Blk w1 w.heap.size (mvA m x) 54 := b1
  simp only [add_mk, Nat.zero_add]
  have hfr : w.heap.size ∉ foot b r := fun hh => by have := h.lt _ hh; omega
  refine ⟨fun vs w' => vs = [] ∧ Ex w1 w' ∧ n.right m = true, vcells_all hb1 11 rfl ((right34 (h.ex e1) m x (hp.keeps e1.keeps) hm.ents hml).mono ?_), ?_⟩
  · rintro _ w2 ⟨rfl, e2⟩
    refine ⟨_, rfl, vif_mk (fun h2 => ⟨by trivial, r, ?_, (e1.trans e2).step _⟩) fun h2 => ⟨rfl, e2, by simpa using h2⟩⟩
    have : n.right m = false := by simpa using h2
    unfold Node.step
    rw [if_pos this]
    exact h.ex (e1.trans e2)
  rintro w2 ⟨_, e2, hright⟩
  have hb2 := e2.blk hb1
  have hled : ∀ {k : Nat}, (if k = 4 then true else decide (k = 6)) = decide (k = 4 ∨ k = 6) := by
    intro k; split <;> simp [*]
  refine ⟨fun vs w' => vs = [.bool (decide (m.kind = 4 ∨ m.kind = 6))] ∧ w' = w2, ⟨m.kind, hb2.at_ 0 rfl, vif_mk (fun h3 => ⟨?_, rfl⟩) fun h3 => ⟨m.kind, hb2.at_ 0 rfl, ?_, rfl⟩⟩, ?_⟩
  · have : m.kind = 4 := by simp at h3; omega
    simp [this]
  · have : ¬ m.kind = 4 := by simp at h3; omega
    simp only [this, false_or]
    congr 2
    rw [Bool.eq_iff_iff, beq_iff_eq, decide_eq_true_iff]; omega
  rintro led w3 ⟨hv, rfl⟩
  simp only [List.cons.injEq, Value.bool.injEq, and_true] at hv
  subst hv
  have e13 := e1.trans e2
  have h3 := h.ex e13
  have hp3 := hp.keeps e13.keeps
  have s3 := e13.step (foot b r)
  have hst : n.step m = if m.kind = 0 then n.askPre m else if m.kind = 1 then n.tellPre m else if n.term < m.term then (n.follow m.term 0).act m
      else if m.term < n.term then if m.kind = 4 ∨ m.kind = 6 then n.tell 5 m false 0 else n else n.act m := by
    unfold Node.step
    rw [if_neg (by rw [hright]; simp)]
  refine ⟨fun vs w' => vs = [] ∧ ∃ n' r', NodeR w' b n' r' ∧ Step (foot b r) (foot b r') w w' ∧ Box w' (foot b r') w.heap.size (mvA m x) 54 ∧ n.step m = n'.act m ∧ Fit n' ∧ RoleOk n' ∧ n'.out.length ≤ 700000, ?_, ?_⟩
  · refine ⟨m.kind, hb2.at_ 0 rfl, vif_mk (fun h4 => vcells_all hb2 11 rfl ((askPre35 h3 f m x (by omega)).mono ?_)) fun h4 => ⟨m.kind, hb2.at_ 0 rfl, vif_mk (fun h5 => vcells_all hb2 11 rfl ((tellPre36 h3 f m x (by omega) ht fun hh => ro.poll (.inl hh)).mono ?_)) fun h5 => vdraw_mk fun w4 e4 _ => ?_⟩⟩
    · have h4' : m.kind = 0 := by simp at h4; omega
      rintro _ w4 ⟨rfl, ha⟩
      refine ⟨rfl, by trivial, ?_⟩
      rw [hst, if_pos h4']
      exact Act.then s3 ha
    · have h4' : ¬ m.kind = 0 := by simp at h4; omega
      have h5' : m.kind = 1 := by simp at h5; omega
      rintro _ w4 ⟨rfl, ha⟩
      refine ⟨rfl, by trivial, ?_⟩
      rw [hst, if_neg h4', if_pos h5']
      exact Act.then s3 ha
    have h4' : ¬ m.kind = 0 := by simp at h4; omega
    have h5' : ¬ m.kind = 1 := by simp at h5; omega
    rw [if_neg h4', if_neg h5'] at hst
    have h4r := h3.ex e4
    have x4 : Box w4 (foot b r) w.heap.size (mvA m x) 54 := ⟨e4.blk hb2, hfr⟩
    have s4 := s3.trans (e4.step _)
    refine ⟨m.term, x4.1.at_ 3 rfl, n.term, h4r.at_ 4 rfl, vif_mk (fun h6 => ⟨m.term, x4.1.at_ 3 rfl, (follow37 h4r m.term 0).mono ?_⟩) fun h6 => vdraw_mk fun w5 e5 _ => ?_⟩
    · have h6' : n.term < m.term := by simp at h6; omega
      rintro _ w5 ⟨rfl, r5, h5r, s5⟩
      refine ⟨rfl, rfl, _, r5, h5r, s4.trans s5, s5.box x4, by rw [hst, if_pos h6'], f.follow _ _, ?_, ?_⟩
      · unfold Node.follow; rw [if_pos h6']; exact ⟨fun hh => by simp at hh, fun hh => by simp at hh⟩
      · unfold Node.follow; rw [if_pos h6']; exact hl
    · have h6' : ¬ n.term < m.term := by simp at h6; omega
      rw [if_neg h6'] at hst
      have h5r := h4r.ex e5
      have x5 : Box w5 (foot b r) w.heap.size (mvA m x) 54 := ⟨e5.blk x4.1, hfr⟩
      have s5 := s4.trans (e5.step _)
      refine ⟨m.term, x5.1.at_ 3 rfl, n.term, h5r.at_ 4 rfl, vif_mk (fun h7 => vif_mk (fun h8 => vcells_all x5.1 11 rfl ((tell38 h5r 5 m x false 0 (by omega)).mono ?_)) fun h8 => ⟨by trivial, r, ?_, s5⟩) fun h7 => ⟨rfl, n, r, h5r, s5, x5, ?_, f, ro, hl⟩⟩
      · have h7' : m.term < n.term := by simp at h7; omega
        have h8' : m.kind = 4 ∨ m.kind = 6 := by simpa using h8
        rintro _ w6 ⟨rfl, ha⟩
        refine ⟨rfl, by trivial, ?_⟩
        rw [hst, if_pos h7', if_pos h8']
        exact Act.then s5 ha
      · have h7' : m.term < n.term := by simp at h7; omega
        have h8' : ¬ (m.kind = 4 ∨ m.kind = 6) := by simpa using h8
        rw [hst, if_pos h7', if_neg h8']
        exact h5r
      · have h7' : ¬ m.term < n.term := by simp at h7; omega
        rw [hst, if_neg h7']
  · rintro w4 ⟨_, n', r', h4, s4, x4, hact, f4, ro4, hl4⟩
    rw [hact]
    have hp4 := hp.keeps s4.keeps
    have hb4 := x4.1
    refine ⟨m.kind, hb4.at_ 0 rfl, vif_mk (fun h5 => vcells_all hb4 11 rfl ((askVote39 h4 f4 m x (by omega)).mono ?_)) fun h5 => ⟨m.kind, hb4.at_ 0 rfl, vif_mk (fun h6 => vcells_all hb4 11 rfl ((tellVote40 h4 f4 m x (by omega) fun hh => ro4.poll (.inr hh)).mono ?_)) fun h6 => ?_⟩⟩
    · have h5' : m.kind = 2 := by simp at h5; omega
      rintro _ w5 ⟨rfl, ha⟩
      refine ⟨rfl, by trivial, ?_⟩
      unfold Node.act; rw [if_pos h5']
      exact Act.then s4 ha
    · have h5' : ¬ m.kind = 2 := by simp at h5; omega
      have h6' : m.kind = 3 := by simp at h6; omega
      rintro _ w5 ⟨rfl, ha⟩
      refine ⟨rfl, by trivial, ?_⟩
      unfold Node.act; rw [if_neg h5', if_pos h6']
      exact Act.then s4 ha
    have h5' : ¬ m.kind = 2 := by simp at h5; omega
    have h6' : ¬ m.kind = 3 := by simp at h6; omega
    have ha0 : n'.act m = if (m.kind = 4 ∨ m.kind = 6) ∧ n'.role = 3 then n' else if m.kind = 4 then n'.append m else if m.kind = 6 then n'.install m else n'.told m := by
      unfold Node.act; rw [if_neg h5', if_neg h6']
    refine ⟨fun vs w' => vs = [.bool (decide ((m.kind = 4 ∨ m.kind = 6) ∧ n'.role = 3))] ∧ w' = w4, vif_mk (fun h7 => ⟨n'.role, h4.at_ 6 rfl, ?_, rfl⟩) fun h7 => ⟨?_, rfl⟩, ?_⟩
    · have h7' : m.kind = 4 ∨ m.kind = 6 := by simpa using h7
      simp only [h7', true_and]
      congr 2
      rw [Bool.eq_iff_iff, beq_iff_eq, decide_eq_true_iff]; omega
    · have h7' : ¬ (m.kind = 4 ∨ m.kind = 6) := by simpa using h7
      simp [h7']
    · rintro bb w5 ⟨hv, rfl⟩
      simp only [List.cons.injEq, Value.bool.injEq, and_true] at hv
      subst hv
      refine vif_mk (fun h7 => ⟨by trivial, r', ?_, s4⟩) fun h7 => ?_
      · have h7' : (m.kind = 4 ∨ m.kind = 6) ∧ n'.role = 3 := by simpa using h7
        rw [ha0, if_pos h7']; exact h4
      · have h7' : ¬ ((m.kind = 4 ∨ m.kind = 6) ∧ n'.role = 3) := by simpa using h7
        rw [if_neg h7'] at ha0
        rw [ha0]
        refine ⟨m.kind, hb4.at_ 0 rfl, vif_mk (fun h8 => vcells_all hb4 11 rfl ((append41 h4 f4 m x hp4 hm (by omega)).mono ?_)) fun h8 => ⟨m.kind, hb4.at_ 0 rfl, vif_mk (fun h9 => vcells_all hb4 11 rfl ((install42 h4 f4 m x hp4 hm hml (by omega)).mono ?_)) fun h9 => vcells_all hb4 11 rfl ((told43 h4 f4 m x hm.index (by omega) ro4.track).mono ?_)⟩⟩
        · have h8' : m.kind = 4 := by simp at h8; omega
          rintro _ w6 ⟨rfl, ha⟩
          refine ⟨rfl, by trivial, ?_⟩
          rw [if_pos h8']
          exact Act.then s4 ha
        · have h8' : ¬ m.kind = 4 := by simp at h8; omega
          have h9' : m.kind = 6 := by simp at h9; omega
          rintro _ w6 ⟨rfl, ha⟩
          refine ⟨rfl, by trivial, ?_⟩
          rw [if_neg h8', if_pos h9']
          exact Act.then s4 ha
        · have h8' : ¬ m.kind = 4 := by simp at h8; omega
          have h9' : ¬ m.kind = 6 := by simp at h9; omega
          rintro _ w6 ⟨rfl, ha⟩
          refine ⟨rfl, by trivial, ?_⟩
          rw [if_neg h8', if_neg h9']
          exact Act.then s4 ha

end
end Rx
end Go.Proofs.YtkoipeddfbeliaaGreat

/-
  The node's functions: what is added, what is read.
-/
namespace Go.Proofs.YtkoipeddfbeliaaGreat
namespace Rx
open Go.RowKit Md
set_option maxRecDepth 100000

theorem last_add (g : Log) (x : Ent) : ({ g with l := g.l ++ [x] } : Log).last = (x.index, x.term) := by
  simp [Log.last]
theorem from_all {g : Log} (h : LogOk g) : g.from_ (g.base + 1) 1024 = g.l := by
  have := h.last
  unfold Log.from_
  rw [if_neg (by omega), if_neg (by omega)]
  rw [show g.base + 1 - g.base - 1 = 0 by omega, List.drop_zero, List.take_of_length_le h.len]

theorem Ex.fr' {a b c : World} (e : Ex a b) {M : List Nat} (f : Fr M b c) (hM : ∀ x ∈ M, a.heap.size ≤ x) : Ex a c :=
  ⟨fun k o hk => by
    have hlt : k < a.heap.size := (Array.getElem?_eq_some_iff.1 hk).1
    rw [f.rest k (Nat.lt_of_lt_of_le hlt e.size) fun hh => by have := hM k hh; omega]
    exact e.ext k o hk, Nat.le_trans e.size f.size, f.os.trans e.os⟩

section
variable {w : World} {b : Nat} {n : Md.Node} {r : Raw}

theorem add44 (h : NodeR w b n r) (f : Fit n) {t : Track} (htk : n.track = some t) {cf : Bool} {d : SV} {data : List UInt8} (hd : Bytes w d data) (hdn : data.length ≤ 1000000) (hcf : cf = true → ∃ ms, goodM ms ∧ data = encM ms) (hl : n.out.length ≤ 800000) :
    Calls Tryz.prog 44 #[.pointer (some ⟨b, 0, none⟩), .bool cf, .slice d.p d.n d.c] w fun e w' => (∃ c : Int, e = .returned (.tuple #[.int .u64 ((n.add cf data).2 : Int), .int .i64 c]) ∧ (c = 0 ↔ (n.log.add n.term cf data).isSome)) ∧ Act w w' b r (n.add cf data).1 := by
  refine ret (R := fun v w' => (∃ c : Int, v = .tuple #[.int .u64 ((n.add cf data).2 : Int), .int .i64 c] ∧ (c = 0 ↔ (n.log.add n.term cf data).isSome)) ∧ Act w w' b r (n.add cf data).1) (c44 _ cf d.p d.n d.c w ?_) (fun v w' ⟨⟨c, h1, h3⟩, h2⟩ => ⟨⟨c, by rw [h1], h3⟩, h2⟩)
  unfold F44
  simp only [add_mk, Nat.zero_add]
  refine vdraw_mk fun w1 e1 _ => ?_
  have h1 := h.ex e1
  refine ⟨some (at0 r.lb), h1.at_ 9 rfl, n.term, h1.at_ 4 rfl, (add75 (t := n.term) (cf := cf) h1.sub.log f.log (Sl.ex hd e1) hdn).mono ?_⟩
  cases ha : n.log.add n.term cf data with
  | none =>
    rintro _ w2 ⟨⟨c, hc, rfl⟩, e2⟩
    have hm : n.add cf data = (n, 0) := by unfold Node.add; rw [ha]
    refine ⟨_, _, rfl, vif_t (by simpa using hc) ⟨⟨c, by rw [hm]; rfl, by simpa using hc⟩, r, ?_, (e1.trans e2).step _⟩⟩
    rw [hm]; exact h1.ex e2
  | some g =>
    rintro _ w2 ⟨rfl, s', ps', hl', st⟩
    obtain ⟨h2, s2⟩ := h1.logS hl' st
    have hgl : g.last.1 = n.log.last.1 + 1 := by
      obtain ⟨hg, _⟩ := add_some ha
      rw [hg, last_add]
    have f2 : Fit { n with log := g } := ⟨f.log.add ha, f.cf.add ha hcf, f.im, f.poll, f.track⟩
    have hlast := f2.lastle
    have hm : n.add cf data = (({ n with log := g, track := some (t.follow ({ n with log := g } : Md.Node).others g.last.1) } : Md.Node).all.agree, g.last.1) := by
      unfold Node.add; rw [ha]; simp only [htk, Option.getD_some]
    rw [hm]
    have s12 := (e1.step _).trans s2
    refine ⟨_, _, rfl, vif_f (by simp) ⟨some (at0 r.lb), h2.at_ 9 rfl, (last33 h2.sub.log f2.log.len).mono ?_⟩⟩
    rintro _ w3 ⟨rfl, e3⟩
    refine ⟨_, _, rfl, vdraw_mk fun w4 e4 _ => ?_⟩
    have h4 := h2.ex (e3.trans e4)
    have s4 := s12.trans ((e3.trans e4).step _)
    obtain ⟨tb, mb, hr, htr, hne⟩ := h4.track htk
    refine ⟨fun w => Ex w4 w, Ex.refl _, some (at0 tb), fun w5 e5 => (h4.ex e5).at_ 16 (by simp only [cellsN] at hr ⊢; simp [hr]), (others57 h4 f2).mono ?_⟩
    rintro _ w5 ⟨s, rfl, hs, e5, ho⟩
    have h5 := h4.ex e5
    have hol := f2.others
    refine ⟨_, _, _, rfl, e5, (follow76 (htr.ex e5) hne hs (by have := hs.n; omega) g.last.1 (by show g.last.1 < _; have : g.last.1 ≤ 9000000000000001024 := hlast; omega)).mono ?_⟩
    rintro _ w6 ⟨rfl, ht6, st6⟩
    obtain ⟨h6, s6⟩ := h5.trackS hr ht6 st6
    have f6 : Fit { n with log := g, track := some (t.follow ({ n with log := g } : Md.Node).others g.last.1) } := ⟨f2.log, f2.cf, f2.im, f2.poll, fun t' ht' => by
      simp at ht'; rw [← ht']; exact (f.track t htk).follow _ (by show g.last.1 < _; have : g.last.1 ≤ 9000000000000001024 := hlast; omega)⟩
    refine ⟨rfl, (all29 h6 f6 rfl (by show n.out.length ≤ _; omega)).mono ?_⟩
    rintro _ w7 ⟨rfl, r7, h7, s7⟩
    refine ⟨rfl, (agree74 h7 f6.all (t := t.follow ({ n with log := g } : Md.Node).others g.last.1) (by rw [all_eq]) (Nat.le_trans f6.allOut (by show n.out.length + 7 ≤ _; omega))).mono ?_⟩
    rintro _ w8 ⟨rfl, r8, h8, s8⟩
    refine ⟨rfl, ⟨0, by rw [hgl], by simp⟩, r8, h8, (((s4.trans (e5.step _)).trans s6).trans s7).trans s8⟩

theorem propose18 (h : NodeR w b n r) (f : Fit n) (ro : RoleOk n) {d : SV} {data : List UInt8} (hd : Bytes w d data) (hdn : data.length ≤ 1000000) (hl : n.out.length ≤ 800000) :
    Calls Tryz.prog 18 #[.pointer (some ⟨b, 0, none⟩), .slice d.p d.n d.c] w fun e w' => (∃ c : Int, e = .returned (.tuple #[.int .u64 ((n.propose data).2 : Int), .int .i64 c]) ∧ (c = 0 ↔ n.role = 3 ∧ (n.log.add n.term false data).isSome)) ∧ Act w w' b r (n.propose data).1 := by
  refine ret (R := fun v w' => (∃ c : Int, v = .tuple #[.int .u64 ((n.propose data).2 : Int), .int .i64 c] ∧ (c = 0 ↔ n.role = 3 ∧ (n.log.add n.term false data).isSome)) ∧ Act w w' b r (n.propose data).1) (c18 _ d.p d.n d.c w ?_) (fun v w' ⟨⟨c, h1, h3⟩, h2⟩ => ⟨⟨c, by rw [h1], h3⟩, h2⟩)
  unfold F18
  simp only [add_mk, Nat.zero_add]
  refine ⟨n.role, h.at_ 6 rfl, vif_mk (fun h1 => ?_) fun h1 => ?_⟩
  · have h1' : n.role ≠ 3 := by simp at h1; omega
    have hm : n.propose data = (n, 0) := by unfold Node.propose; rw [if_pos h1']
    rw [hm]
    exact ⟨⟨18, rfl, by simp [h1']⟩, r, h, Step.refl _ _⟩
  · have h1' : n.role = 3 := by simp at h1; omega
    obtain ⟨t, htk⟩ := Option.isSome_iff_exists.1 (ro.track h1')
    have hm : n.propose data = n.add false data := by unfold Node.propose; rw [if_neg (by omega)]
    rw [hm]
    refine (add44 h f htk hd hdn (by simp) hl).mono ?_
    rintro _ w1 ⟨⟨c, rfl, hc⟩, ha⟩
    exact ⟨_, _, rfl, ⟨c, rfl, by simp [h1', hc]⟩, ha⟩

theorem change23 (h : NodeR w b n r) (f : Fit n) (ro : RoleOk n) {d : SV} {l : List Nat} (hd : Ints w d l) (hdn : l.length ≤ 1000000) (hcm : n.commit ≤ 18000000000000000000) (hl : n.out.length ≤ 800000) :
    Calls Tryz.prog 23 #[.pointer (some ⟨b, 0, none⟩), .slice d.p d.n d.c] w fun e w' => (∃ v, e = .returned v ∧ ∃ i c : Int, v = .tuple #[.int .u64 i, .int .i64 c]) ∧ Act w w' b r (n.change l) := by
  refine ret (R := fun v w' => (∃ i c : Int, v = .tuple #[.int .u64 i, .int .i64 c]) ∧ Act w w' b r (n.change l)) (c23 _ d.p d.n d.c w ?_) (fun v w' ⟨h1, h2⟩ => ⟨⟨v, rfl, h1⟩, h2⟩)
  unfold F23
  simp only [add_mk, Nat.zero_add]
  refine ⟨n.role, h.at_ 6 rfl, vif_mk (fun h1 => ?_) fun h1 => (members31 h f).mono ?_⟩
  · have h1' : n.role ≠ 3 := by simp at h1; omega
    have hm : n.change l = n := by unfold Node.change; rw [if_pos h1']
    rw [hm]
    exact ⟨⟨_, _, rfl⟩, r, h, Step.refl _ _⟩
  have h1' : n.role = 3 := by simp at h1; omega
  obtain ⟨t, htk⟩ := Option.isSome_iff_exists.1 (ro.track h1')
  rintro _ w1 ⟨s, rfl, hs, e1, ho⟩
  have hs : Ints w1 s n.members := hs
  have hml := f.len
  refine ⟨_, _, _, rfl, (step50 hs (Sl.ex hd e1) (by have := hs.n; omega) (by have := hd.n; omega)).mono ?_⟩
  rintro _ w2 ⟨rfl, e2⟩
  have h2 := h.ex (e1.trans e2)
  refine ⟨_, rfl, vif_mk (fun h3 => ?_) fun h3 => ⟨some (at0 r.lb), h2.at_ 9 rfl, (last33 h2.sub.log f.log.len).mono ?_⟩⟩
  · have h3' : Node.confStep n.members l = false := by simpa using h3
    have hm : n.change l = n := by unfold Node.change; rw [if_neg (by omega), if_pos h3']
    rw [hm]
    exact ⟨⟨_, _, rfl⟩, r, h2, (e1.trans e2).step _⟩
  have h3' : ¬ Node.confStep n.members l = false := by simpa using h3
  rintro _ w3 ⟨rfl, e3⟩
  refine ⟨_, _, rfl, vdraw_mk fun w4 e4 _ => ?_⟩
  have e14 := ((e1.trans e2).trans e3).trans e4
  have h4 := h.ex e14
  have hil := goodM_len f.im
  refine ⟨some (at0 r.lb), h4.at_ 9 rfl, r.im.p, r.im.n, r.im.c, h4.at_ 12 rfl, (of51 h4.sub.log f.log f.cf h4.sub.im (by have := h4.sub.im.n; omega) n.log.last.1).mono ?_⟩
  rintro _ w5 ⟨q, rfl, hq, e5, hqo⟩
  refine ⟨_, _, _, _, rfl, vdraw_mk fun w6 e6 _ => ?_⟩
  have e16 := (e14.trans e5).trans e6
  have h6 := h.ex e16
  refine ⟨some (at0 r.lb), h6.at_ 9 rfl, n.commit, h6.at_ 14 rfl, (term52 h6.sub.log f.log n.commit (by omega)).mono ?_⟩
  rintro _ w7 ⟨⟨c, rfl, hc⟩, e7⟩
  have e17 := e16.trans e7
  have h7 := h.ex e17
  have hno : (n.commit < (confOf n.log n.img.members n.log.last.1).2 ∨ n.log.termD n.commit ≠ n.term) → n.change l = n := fun hh => by
    unfold Node.change; rw [if_neg (by omega), if_neg h3', if_pos hh]
  refine ⟨_, _, rfl, n.commit, h7.at_ 14 rfl, vif_mk (fun h8 => ?_) fun h8 => ⟨n.term, h7.at_ 4 rfl, vif_mk (fun h9 => ?_) fun h9 => ?_⟩⟩
  · rw [hno (.inl (by simp at h8; omega))]
    exact ⟨⟨_, _, rfl⟩, r, h7, e17.step _⟩
  · rw [hno (.inr (by simp at h9; omega))]
    exact ⟨⟨_, _, rfl⟩, r, h7, e17.step _⟩
  · have hyes : n.change l = (n.add true (Node.encM l)).1 := by
      unfold Node.change
      rw [if_neg (by omega), if_neg h3', if_neg]
      rintro (hh | hh)
      · simp at h8; omega
      · simp at h9; omega
    have hgl : goodM l := by
      have : Node.confStep n.members l = true := by simpa using h3'
      unfold Node.confStep at this
      simp only [Bool.and_eq_true, decide_eq_true_eq] at this
      exact this.1.2
    refine (members53 (Sl.ex hd e17) (by have := hd.n; omega)).mono ?_
    rintro _ w8 ⟨e8, q8, hq8, _, rfl⟩
    rw [if_pos hgl] at hq8
    rw [if_pos hgl]
    have h8 := h7.ex e8
    have hlen : (encM l).length ≤ 1000000 := by have := goodM_len hgl; simp [encM]; omega
    refine ⟨_, _, _, _, rfl, (add44 (cf := true) h8 f htk hq8 hlen (fun _ => ⟨l, hgl, rfl⟩) hl).mono ?_⟩
    rintro _ w9 ⟨⟨c9, rfl, hc9⟩, ha⟩
    refine ⟨_, _, rfl, ⟨_, _, rfl⟩, ?_⟩
    rw [hyes]
    exact ha.ex (e17.trans e8)

theorem compact25 (h : NodeR w b n r) (f : Fit n) (i : Nat) (hi : i ≤ 9000000000000000000) {d : SV} {data : List UInt8} (hd : Bytes w d data) (hdn : data.length ≤ 1000000) :
    Calls Tryz.prog 25 #[.pointer (some ⟨b, 0, none⟩), .int .u64 (i : Int), .slice d.p d.n d.c] w fun e w' => (∃ c : Int, e = .returned (.int .i64 c)) ∧ Act w w' b r (n.compact i) := by
  refine ret (R := fun v w' => (∃ c : Int, v = .int .i64 c) ∧ Act w w' b r (n.compact i)) (c25 _ i d.p d.n d.c w ?_) (fun v w' ⟨⟨c, h1⟩, h2⟩ => ⟨⟨c, by rw [h1]⟩, h2⟩)
  unfold F25
  simp only [add_mk, Nat.zero_add]
  refine ⟨fun vs w' => vs = [] ∧ Ex w w' ∧ ¬ (n.commit < i ∨ i ≤ n.log.base), ⟨some (at0 r.lb), h.at_ 9 rfl, (base26 h.sub.log).mono ?_⟩, ?_⟩
  · rintro _ w1 ⟨rfl, e1⟩
    have h1 := h.ex e1
    have hno : (n.commit < i ∨ i ≤ n.log.base) → n.compact i = n := fun hh => by unfold Node.compact; rw [if_pos hh]
    refine ⟨_, _, rfl, n.commit, h1.at_ 14 rfl, vif_mk (fun h2 => ?_) fun h2 => vif_mk (fun h3 => ?_) fun h3 => ⟨rfl, e1, ?_⟩⟩
    · rw [hno (.inl (by simp at h2; omega))]
      exact ⟨⟨_, rfl⟩, r, h1, e1.step _⟩
    · rw [hno (.inr (by simp at h3; omega))]
      exact ⟨⟨_, rfl⟩, r, h1, e1.step _⟩
    · simp at h2 h3; omega
  · rintro w1 ⟨_, e1, hyes⟩
    have h1 := h.ex e1
    have hm : n.compact i = { n with img := ⟨i, n.log.termD i, (confOf n.log n.img.members i).1⟩, log := n.log.cut i } := by unfold Node.compact; rw [if_neg hyes]
    rw [hm]
    refine ⟨some (at0 r.lb), h1.at_ 9 rfl, (term52 h1.sub.log f.log i (by omega)).mono ?_⟩
    rintro _ w2 ⟨⟨c, rfl, hc⟩, e2⟩
    refine ⟨_, _, rfl, vdraw_mk fun w3 e3 _ => ?_⟩
    have e13 := (e1.trans e2).trans e3
    have h3 := h.ex e13
    have hil := goodM_len f.im
    refine ⟨some (at0 r.lb), h3.at_ 9 rfl, r.im.p, r.im.n, r.im.c, h3.at_ 12 rfl, (of51 h3.sub.log f.log f.cf h3.sub.im (by have := h3.sub.im.n; omega) i).mono ?_⟩
    rintro _ w4 ⟨q, rfl, hq, e4, hqo⟩
    have hcg := goodM_len (confOf_good f.cf f.im i)
    refine ⟨_, _, _, _, rfl, (show _ from clone28 (i := i) (t := n.log.termD i) hq (Sl.ex hd (e13.trans e4)) (by omega) hdn).mono ?_⟩
    rintro _ w5 ⟨m', d', rfl, e5, hm', hd'⟩
    have e15 := (e13.trans e4).trans e5
    have h5 := h.ex e15
    refine ⟨_, rfl, rfl, ?_⟩
    refine h5.stImg ⟨i, n.log.termD i, (confOf n.log n.img.members i).1⟩ hm' hd' hdn fun w6 h6 s6 => ?_
    refine ⟨some (at0 r.lb), h6.at_ 9 rfl, (cut54 h6.sub.log f.log i (by omega)).mono ?_⟩
    rintro _ w7 ⟨⟨c7, rfl⟩, s', ps', hl', st⟩
    obtain ⟨h7, s7⟩ := h6.logS hl' st
    refine ⟨_, rfl, _, h7.at_ 20 rfl, h7.stFresh true fun w8 h8 s8 => h8.stStable _ fun w9 h9 s9 => ⟨⟨_, rfl⟩, _, h9, ?_⟩⟩
    exact ((((e15.step _).trans s6).trans s7).trans s8).trans s9

theorem saved14 (h : NodeR w b n r) (f : Fit n) : Calls Tryz.prog 14 #[.pointer (some ⟨b, 0, none⟩)] w fun e w' => e = .returned (.tuple #[]) ∧ Act w w' b r n := by
  refine ret (R := fun v w' => v = .tuple #[] ∧ Act w w' b r n) (c14 _ w ?_) (fun v w' ⟨h1, h2⟩ => ⟨by rw [h1], h2⟩)
  unfold F14
  simp only [add_mk, Nat.zero_add]
  refine h.stHard false fun w1 h1 s1 => h1.stFresh false fun w2 h2 s2 => ⟨some (at0 r.lb), h2.at_ 9 rfl, (last33 h2.sub.log f.log.len).mono ?_⟩
  rintro _ w3 ⟨rfl, e3⟩
  refine ⟨_, _, rfl, (h2.ex e3).stStable _ fun w4 h4 s4 => ⟨by trivial, _, h4, ?_⟩⟩
  exact ((s1.trans s2).trans (e3.step _)).trans s4

theorem out15 (h : NodeR w b n r) : Calls Tryz.prog 15 #[.pointer (some ⟨b, 0, none⟩)] w fun e w' => e = .returned (.slice r.out.p r.out.n r.out.c) ∧ NodeR w' b { n with out := [] } { r with out := .nil, ops := [] } ∧ Step (foot b r) (foot b { r with out := .nil, ops := [] }) w w' ∧
    Msgs w' r.out n.out r.ops ∧ ∀ x ∈ r.out.own, x ∉ foot b { r with out := .nil, ops := [] } := by
  refine ret (R := fun v w' => v = .slice r.out.p r.out.n r.out.c ∧ NodeR w' b { n with out := [] } { r with out := .nil, ops := [] } ∧ Step (foot b r) (foot b { r with out := .nil, ops := [] }) w w' ∧
    Msgs w' r.out n.out r.ops ∧ ∀ x ∈ r.out.own, x ∉ foot b { r with out := .nil, ops := [] }) (c15 _ w ?_) (fun v w' ⟨h1, h2⟩ => ⟨by rw [h1], h2⟩)
  unfold F15
  simp only [add_mk, Nat.zero_add]
  refine ⟨r.out.p, r.out.n, r.out.c, h.at_ 17 rfl, ?_⟩
  have hnd := h.nd
  have hp : foot b r = (b :: r.lb :: (r.ls.own ++ (pollF r ++ trackF r))) ++ r.out.own := by simp [foot]
  have hq : foot b { r with out := .nil, ops := [] } = (b :: r.lb :: (r.ls.own ++ (pollF r ++ trackF r))) := by simp [foot, SV.own, SV.nil, pollF, trackF]
  rw [hp, List.nodup_append] at hnd
  have hdis : ∀ x ∈ r.out.own, x ∉ foot b { r with out := .nil, ops := [] } := fun x hx hh => by
    rw [hq] at hh; exact hnd.2.2 x hh x hx rfl
  have hb : b ∉ r.out.own := fun hh => hdis b hh (by simp [foot])
  refine vstore1_mk h.blk (by simp [cellsN]) fun w' p => ?_
  have k := p.keeps h.blk (by decide)
  have fr : Fr [b] w w' := p.fr (by simp)
  have hnin : b ∉ r.lb :: (r.ls.own ++ (pollF r ++ (trackF r ++ r.out.own))) := (List.nodup_cons.1 h.nd).1
  have hs := h.sub.step k fr fun x hx hxb => by simp only [List.mem_singleton] at hxb; subst hxb; exact hnin hx
  refine ⟨by trivial, ⟨p.blk, ⟨hs.cm, hs.log, hs.im, hs.dat, hs.poll, hs.track, Msgs.zero _, hs.dn⟩, by rw [hq]; exact hnd.1⟩, ⟨fr.mono fun x hx => ?_, k, fun x hx => ?_⟩, hs.out, hdis⟩
  · simp only [List.mem_singleton] at hx; subst hx; simp [foot]
  · left; rw [hp]; rw [hq] at hx; exact List.mem_append_left _ hx

theorem role17 (h : NodeR w b n r) : Calls Tryz.prog 17 #[.pointer (some ⟨b, 0, none⟩)] w fun e w' => e = .returned (.int .i64 (n.role : Int)) ∧ w' = w :=
  ret (R := fun v w' => v = .int .i64 (n.role : Int) ∧ w' = w) (c17 _ w ⟨n.role, h.at_ 6 rfl, rfl, rfl⟩) (fun v w' ⟨h1, h2⟩ => ⟨by rw [h1], h2⟩)
theorem commit19 (h : NodeR w b n r) : Calls Tryz.prog 19 #[.pointer (some ⟨b, 0, none⟩)] w fun e w' => e = .returned (.int .u64 (n.commit : Int)) ∧ w' = w :=
  ret (R := fun v w' => v = .int .u64 (n.commit : Int) ∧ w' = w) (c19 _ w ⟨n.commit, h.at_ 14 rfl, rfl, rfl⟩) (fun v w' ⟨h1, h2⟩ => ⟨by rw [h1], h2⟩)
theorem term20 (h : NodeR w b n r) : Calls Tryz.prog 20 #[.pointer (some ⟨b, 0, none⟩)] w fun e w' => e = .returned (.int .u64 (n.term : Int)) ∧ w' = w :=
  ret (R := fun v w' => v = .int .u64 (n.term : Int) ∧ w' = w) (c20 _ w ⟨n.term, h.at_ 4 rfl, rfl, rfl⟩) (fun v w' ⟨h1, h2⟩ => ⟨by rw [h1], h2⟩)
theorem last21 (h : NodeR w b n r) (f : Fit n) : Calls Tryz.prog 21 #[.pointer (some ⟨b, 0, none⟩)] w fun e w' => e = .returned (.int .u64 (n.log.last.1 : Int)) ∧ Ex w w' := by
  refine ret (R := fun v w' => v = .int .u64 (n.log.last.1 : Int) ∧ Ex w w') (c21 _ w ⟨some (at0 r.lb), h.at_ 9 rfl, (last33 h.sub.log f.log.len).mono ?_⟩) (fun v w' ⟨h1, h2⟩ => ⟨by rw [h1], h2⟩)
  rintro _ w1 ⟨rfl, e1⟩
  exact ⟨_, _, rfl, rfl, e1⟩

/-- a state's cells -/
def stA (t v i it : Nat) (m d q : SV) : Array Value := #[.int .u64 (t : Int), .int .i64 (v : Int), .int .u64 (i : Int), .int .u64 (it : Int), .slice m.p m.n m.c, .slice d.p d.n d.c, .slice q.p q.n q.c]

theorem state10 (h : NodeR w b n r) (f : Fit n) : Calls Tryz.prog 10 #[.pointer (some ⟨b, 0, none⟩)] w fun e w' => ∃ m d q qs, e = .returned (.agg (stA n.term n.vote n.img.index n.img.term m d q)) ∧ Ex w w' ∧ Ints w' m n.img.members ∧ Bytes w' d r.data ∧ Ents w' q n.log.l qs ∧ ∀ x ∈ q.own, w.heap.size ≤ x := by
  refine ret (R := fun v w' => ∃ m d q qs, v = .agg (stA n.term n.vote n.img.index n.img.term m d q) ∧ Ex w w' ∧ Ints w' m n.img.members ∧ Bytes w' d r.data ∧ Ents w' q n.log.l qs ∧ ∀ x ∈ q.own, w.heap.size ≤ x) (c10 _ w ?_) (fun v w' ⟨m, d, q, qs, h1, h2⟩ => ⟨m, d, q, qs, by rw [h1], h2⟩)
  unfold F10
  refine vnew_mk fun w1 e1 s1 b1 => ?_
  have hb1 : Blk w1 w.heap.size #[.int .u64 0, .int .i64 0, .int .u64 0, .int .u64 0, .slice Option.none 0 0, .slice Option.none 0 0, .slice Option.none 0 0] 43 := b1
  simp only [add_mk, Nat.zero_add]
  have h1 := h.ex e1
  refine ⟨some (at0 r.lb), h1.at_ 9 rfl, (base26 h1.sub.log).mono ?_⟩
  rintro _ w2 ⟨rfl, e2⟩
  have h2 := h1.ex e2
  have hbnd := f.log.bnd
  refine ⟨_, _, rfl, some (at0 r.lb), h2.at_ 9 rfl, ?_⟩
  rw [wu (by omega) (by omega), show ((n.log.base : Int) + 1) = ((n.log.base + 1 : Nat) : Int) by omega]
  refine (from27 h2.sub.log f.log (n.log.base + 1) 1024 (by omega) (by omega)).mono ?_
  rintro _ w3 ⟨q, c, qs, rfl, e3, hq, hqo⟩
  rw [from_all f.log] at hq
  refine ⟨_, _, _, _, rfl, vdraw_mk fun w4 e4 _ => ?_⟩
  have e14 := ((e1.trans e2).trans e3).trans e4
  have h4 := h.ex e14
  refine ⟨fun w => Ex w4 w, Ex.refl _, vcells_mk h4.blk (imA n.img.index n.img.term r.im r.dat) rfl (fun j v hj => ?_) ⟨n.term, fun w5 e5 => (h4.ex e5).at_ 4 rfl, n.vote, fun w5 e5 => (h4.ex e5).at_ 5 rfl, ?_⟩⟩
  · have hj4 : j < 4 := (Array.getElem?_eq_some_iff.1 hj).1
    rw [← hj]
    match j, hj4 with
    | 0, _ => rfl
    | 1, _ => rfl
    | 2, _ => rfl
    | 3, _ => rfl
  have hil := goodM_len f.im
  refine (clone28 h4.sub.im h4.sub.dat (by omega) h4.sub.dn).mono ?_
  rintro _ w5 ⟨m', d', rfl, e5, hm', hd'⟩
  have hb5 := (((e2.trans e3).trans e4).trans e5).blk hb1
  refine ⟨_, rfl, rfl, e5, _, _, rfl, _, _, rfl, _, _, rfl, _, _, rfl, rfl, ?_⟩
  refine vstoreN_mk hb5 rfl (by simp) (by simp [isOne]) fun w6 p6 => vcells_all p6.blk 7 (by simp [setMany_length]) ⟨m', d', q, qs, rfl, (e14.trans e5).put p6 (Nat.le_refl _), ?_, ?_, ?_, ?_⟩
  · exact Sl.keeps hm' (p6.keeps hb5 (by decide)) (.inl rfl)
  · exact Sl.keeps hd' (p6.keeps hb5 (by decide)) (.inr rfl)
  · exact (hq.keeps (e4.trans e5).keeps).keeps (p6.keeps hb5 (by decide))
  · exact fun x hx => Nat.le_trans (e1.trans e2).size (hqo x hx)

/-- what New makes -/
def newN (id : Nat) (cm : List Nat) (elect beat term vote : Nat) (im : Img) (l : List Ent) : Md.Node :=
  { id := id, cm := cm, elect := elect, beat := beat, term := term, vote := vote, role := 0, leader := 0, since := 0, log := ⟨im.index, im.term, l⟩,
    img := if im.members = [] then { im with members := cm } else im, commit := im.index, poll := none, track := none, out := [] }

/-- a configuration's cells -/
def cfA (id : Nat) (c : SV) (elect beat : Nat) : Array Value := #[.int .i64 (id : Int), .slice c.p c.n c.c, .int .i64 (elect : Int), .int .i64 (beat : Int)]

theorem put_new {i t : Nat} {l : List Ent} (h1 : okFollow i t l = true) (h2 : okLong l = true) (h3 : l.length ≤ 1024) : ∃ c, (Log.new i t).put i t l = some (⟨i, t, l⟩, c) := by
  have hk : (Log.new i t).known l = 0 := by
    cases l with
    | nil => rfl
    | cons x xs =>
      simp only [okFollow, Bool.and_eq_true, beq_iff_eq] at h1
      have : (Log.new i t).term x.index = none := by
        simp [Log.term, Log.new, Log.last]; omega
      simp [Log.known, this]
  have ht : (Log.new i t).term i = some t := by simp [Log.term, Log.new, Log.last]
  unfold Log.put
  rw [hk, h1, h2, ht]
  simp only [beq_self_eq_true, Bool.and_self, if_true, List.drop_zero]
  cases l with
  | nil => exact ⟨0, rfl⟩
  | cons x xs =>
    simp only [okFollow, Bool.and_eq_true, beq_iff_eq] at h1
    have hx : x.index - (Log.new i t).base - 1 = 0 := by simp [Log.new]; omega
    simp only [hx, List.take_zero, List.nil_append, Nat.zero_add]
    rw [if_neg (by simp at h3 ⊢; omega)]
    exact ⟨_, rfl⟩

theorem new22 {id elect beat term vote : Nat} {c : SV} {cm : List Nat} {im : Img} {m d q : SV} {data : List UInt8} {l : List Ent} {qs : List (Ent × SV)}
    (hc : Ints w c cm) (hm : Ints w m im.members) (hd : Bytes w d data) (hdn : data.length ≤ 1000000) (hq : Ents w q l qs)
    (hid : 1 ≤ id ∧ id ≤ 7) (hcm : goodM cm) (he : 1 ≤ elect ∧ elect ≤ 1000) (hbt : 1 ≤ beat ∧ beat ≤ elect)
    (hf : okFollow im.index im.term l = true) (hlo : okLong l = true) (hll : l.length ≤ 1024) (hv : vote ≤ 7) (hlt : (Log.mk im.index im.term l).last.2 ≤ term) (htf : term ≤ 1000000000) (hif : im.index ≤ 1000000000) (him : im.members = [] ∨ goodM im.members) :
    Calls Tryz.prog 22 #[.agg (cfA id c elect beat), .agg (stA term vote im.index im.term m d q)] w fun e w' => ∃ b r, e = .returned (.tuple #[.pointer (some ⟨b, 0, none⟩), .int .i64 0]) ∧ NodeR w' b (newN id cm elect beat term vote im l) r ∧ Ex w w' ∧ ∀ x ∈ foot b r, w.heap.size ≤ x := by
  refine ret (R := fun v w' => ∃ b r, v = .tuple #[.pointer (some ⟨b, 0, none⟩), .int .i64 0] ∧ NodeR w' b (newN id cm elect beat term vote im l) r ∧ Ex w w' ∧ ∀ x ∈ foot b r, w.heap.size ≤ x) (c22 _ _ w ?_) (fun v w' ⟨b, r, h1, h2⟩ => ⟨b, r, by rw [h1], h2⟩)
  unfold F22
  generalize hF : (4611686018427387904 : Int) = F
  have hFF : (1000000000 : Int) ≤ F := by rw [← hF]; decide
  refine vnew_mk fun w1 e1 s1 b1 => vnew_mk fun w2 e2 s2 b2 => ?_
  have hb1 : Blk w1 w.heap.size (cfA id c elect beat) 64 := b1
  have hb2 : Blk w2 w1.heap.size (stA term vote im.index im.term m d q) 43 := b2
  have e12 := e1.trans e2
  simp only [add_mk, Nat.zero_add]
  have hb12 := e2.blk hb1
  have hcn := hc.n
  have hmn := hm.n
  have hcl := goodM_len hcm
  have hml : im.members.length ≤ 7 := by
    rcases him with h | h
    · simp [h]
    · exact goodM_len h
  refine ⟨fun vs w' => vs = [] ∧ Ex w2 w', ⟨id, hb12.at_ 0 rfl, ?_⟩, ?_⟩
  · refine ret (R := fun v w' => v = .bool true ∧ w' = w2) (c45 id w2 ?_) ?_
    · exact vif_t (by simp; omega) ⟨by simp; omega, rfl⟩
    rintro _ _ ⟨rfl, rfl⟩
    refine ⟨_, rfl, vif_f rfl ⟨c.p, c.n, c.c, hb12.at_ 1 rfl, (right46 (Sl.ex hc e12) (by omega)).mono ?_⟩⟩
    rintro _ w3 ⟨rfl, e3⟩
    have hb3 := e3.blk hb12
    refine ⟨_, rfl, vif_f (by simp [hcm]) ⟨elect, hb3.at_ 2 rfl, vif_f (by simp; omega) ⟨elect, hb3.at_ 2 rfl, vif_f (by simp; omega) ⟨beat, hb3.at_ 3 rfl, vif_f (by simp; omega) ⟨beat, hb3.at_ 3 rfl, elect, hb3.at_ 2 rfl, vif_f (by simp; omega) ⟨rfl, e3⟩⟩⟩⟩⟩⟩
  rintro w3 ⟨_, e3⟩
  have hb3 := e3.blk hb12
  have e13 := e12.trans e3
  refine ⟨c.p, c.n, c.c, hb3.at_ 1 rfl, (clone47 (Sl.ex hc e13) (one_iv _) (by omega)).mono ?_⟩
  rintro _ w4 ⟨c', rfl, e4, hc', hco⟩
  refine ⟨_, _, _, rfl, vstore1_mk (e4.blk hb3) (by simp [cfA]) fun w5 p5 => vdraw_mk fun w6 e6 _ => ?_⟩
  have e15 : Ex w w5 := (e13.trans e4).put p5 (Nat.le_refl _)
  have e16 := e15.trans e6
  have k46 : Keeps w4 w6 := (p5.keeps (e4.blk hb3) (by decide)).trans e6.keeps
  have hc6 : Ints w6 c' cm := Sl.keeps hc' k46 (.inl rfl)
  have hb5 : Blk w5 w.heap.size (cfA id c' elect beat) 64 := p5.blk
  have hb6 := e6.blk hb5
  have hne : w1.heap.size ≠ w.heap.size := by omega
  have hs6 : Blk w6 w1.heap.size (stA term vote im.index im.term m d q) 43 := e6.blk (p5.other hne ((e3.trans e4).blk hb2))
  refine ⟨fun w => Ex w6 w, Ex.refl _, vcells_mk hs6 (imA im.index im.term m d) rfl (fun j v hj => ?_) ⟨cfA id c' elect beat, rfl, fun w7 e7 j v hj => ?_, term, fun w7 e7 => (e7.blk hs6).at_ 0 rfl, vote, fun w7 e7 => (e7.blk hs6).at_ 1 rfl, im.index, fun w7 e7 => (e7.blk hs6).at_ 2 rfl, im.term, fun w7 e7 => (e7.blk hs6).at_ 3 rfl, im.index, fun w7 e7 => (e7.blk hs6).at_ 2 rfl, ?_⟩⟩
  · have hj4 : j < 4 := (Array.getElem?_eq_some_iff.1 hj).1
    rw [← hj]
    match j, hj4 with
    | 0, _ => rfl
    | 1, _ => rfl
    | 2, _ => rfl
    | 3, _ => rfl
  · rw [add_mk, (e7.blk hb6).cell]; simpa using hj
  refine (clone28 (Sl.ex hm e16) (Sl.ex hd e16) (by omega) hdn).mono ?_
  rintro _ w7 ⟨m', d', rfl, e7, hm', hd'⟩
  refine ⟨_, rfl, rfl, e7, (new48 im.index im.term).mono ?_⟩
  rintro _ w8 ⟨lb, rfl, hlb, hlr, e8⟩
  refine ⟨_, rfl, e7.trans e8, _, _, rfl, _, _, rfl, _, _, rfl, _, _, rfl, rfl, _, _, rfl, _, _, rfl, _, _, rfl, _, _, rfl, rfl, vnew_mk fun w9 e9 s9 b9 => ?_⟩
  have e69 := (e7.trans e8).trans e9
  have e19 := e16.trans e69
  have hz1 := e16.size
  have hz2 := e7.size
  have hz3 := e8.size
  have hlr9 := hlr.ex e9
  -- the node as it is first
  have h9 : NodeR w9 w8.heap.size { id := id, cm := cm, elect := elect, beat := beat, term := term, vote := vote, role := 0, leader := 0, since := 0, log := Log.new im.index im.term, img := im, commit := im.index, poll := none, track := none, out := [] }
      { cm := c', lb := lb, ls := .nil, lps := [], im := m', dat := d', data := data, poll := none, track := none, out := .nil, ops := [], hard := false, fresh := false, stable := 0 } := by
    refine ⟨?_, ⟨Sl.ex hc6 e69, hlr9, Sl.ex hm' (e8.trans e9), Sl.ex hd' (e8.trans e9), trivial, trivial, Msgs.zero _, hdn⟩, ?_⟩
    · exact b9
    · have := hlr.blk.lt
      simp [foot, SV.own, SV.nil, pollF, trackF]; omega
  have hlow : ∀ m'' : SV, ∀ x ∈ foot w8.heap.size ({ cm := c', lb := lb, ls := .nil, lps := [], im := m'', dat := d', data := data, poll := none, track := none, out := .nil, ops := [], hard := false, fresh := false, stable := 0 } : Raw), w6.heap.size ≤ x := fun m'' x hx => by
    simp only [foot, pollF, trackF, SV.own, SV.nil, List.mem_cons, List.nil_append, List.not_mem_nil, or_false] at hx
    rcases hx with rfl | rfl <;> omega
  refine ⟨fun vs w' => vs = [] ∧ ∃ m'', Ex w w' ∧ Ex w6 w' ∧ Blk w' w1.heap.size (stA term vote im.index im.term m d q) 43 ∧ NodeR w' w8.heap.size { id := id, cm := cm, elect := elect, beat := beat, term := term, vote := vote, role := 0, leader := 0, since := 0, log := Log.new im.index im.term, img := if im.members = [] then { im with members := cm } else im, commit := im.index, poll := none, track := none, out := [] }
      { cm := c', lb := lb, ls := .nil, lps := [], im := m'', dat := d', data := data, poll := none, track := none, out := .nil, ops := [], hard := false, fresh := false, stable := 0 }, ?_, ?_⟩
  · skip
    have hs9 := (e69).blk hs6
    have hmn' := hm'.n
    refine ⟨m'.p, m'.n, m'.c, h9.at_ 12 rfl, vif_mk (fun h10 => ?_) fun h10 => ⟨rfl, m', e19, e69, hs9, ?_⟩⟩
    · have him0 : im.members = [] := List.eq_nil_of_length_eq_zero (by simp at h10; omega)
      have hb9 := e69.blk hb6
      have hc9 : Ints w9 c' cm := Sl.ex hc6 e69
      refine ⟨c'.p, c'.n, c'.c, hb9.at_ 1 rfl, (clone47 hc9 (one_iv _) (by have := hc9.n; omega)).mono ?_⟩
      rintro _ w10 ⟨m'', rfl, e10, hm'', _⟩
      have hm'' : Ints w10 m'' cm := hm''
      refine ⟨_, _, _, rfl, ?_⟩
      refine h9.storeN e10 (i := 12) (by decide) { id := id, cm := cm, elect := elect, beat := beat, term := term, vote := vote, role := 0, leader := 0, since := 0, log := Log.new im.index im.term, img := { im with members := cm }, commit := im.index, poll := none, track := none, out := [] }
        { cm := c', lb := lb, ls := .nil, lps := [], im := m'', dat := d', data := data, poll := none, track := none, out := .nil, ops := [], hard := false, fresh := false, stable := 0 } rfl (fun w' k f s => ⟨s.cm, s.log, Sl.keeps hm'' k (.inl rfl), s.dat, s.poll, s.track, s.out, s.dn⟩) (fun x hx => .inl hx) h9.nd fun w11 h11 s11 => ?_
      have e611 : Ex w6 w11 := e69.fr' s11.fr (hlow _)
      refine ⟨rfl, m'', e16.trans e611, e611, e611.blk hs6, ?_⟩
      rw [if_pos him0]; exact h11
    · have him0 : im.members ≠ [] := fun hh => by rw [hh] at hmn'; simp at h10; simp at hmn'; omega
      rw [if_neg him0]; exact h9
  · rintro w10 ⟨_, m'', e110, e610, hs10, h10⟩
    refine vdraw_mk fun w11 e11 _ => ?_
    have h11 := h10.ex e11
    have hs11 := e11.blk hs10
    obtain ⟨cc, hput⟩ := put_new hf hlo hll
    have hidx : ∀ x ∈ l, x.index ≤ 18446744073709551614 := fun x hx => by
      obtain ⟨k, hk⟩ := List.mem_iff_getElem?.1 hx
      have := okFollow_idx hf k x hk
      have := (List.getElem?_eq_some_iff.1 hk).1
      omega
    have hq11 := hq.keeps (e110.trans e11).keeps
    refine ⟨some (at0 lb), h11.at_ 9 rfl, im.index, hs11.at_ 2 rfl, im.term, hs11.at_ 3 rfl, q.p, q.n, q.c, hs11.at_ 6 rfl, (put49 h11.sub.log (LogOk.new (by omega)) hq11 (by omega) im.index im.term (by omega) hidx).mono ?_⟩
    show ∀ e w', (match (Log.new im.index im.term).put im.index im.term l with | none => _ | some (g', ch) => _) → _
    rw [hput]
    rintro _ w12 ⟨rfl, s', ps', hl', st⟩
    obtain ⟨h12, s12⟩ := h11.logS hl' st
    have e612 : Ex w6 w12 := (e610.trans e11).fr' s12.fr (hlow _)
    have hs12 := e612.blk hs6
    refine ⟨_, _, rfl, some (at0 lb), h12.at_ 9 rfl, (last33 h12.sub.log hll).mono ?_⟩
    rintro _ w13 ⟨rfl, e13'⟩
    have h13 := h12.ex e13'
    have hs13 := e13'.blk hs12
    have hgood : goodM (if im.members = [] then { im with members := cm } else im).members := by
      split
      · exact hcm
      · rename_i hh; rcases him with h | h
        · exact absurd h hh
        · exact h
    have hin : m''.n = (if im.members = [] then { im with members := cm } else im).members.length := h13.sub.im.n
    have hgl := goodM_len hgood
    refine ⟨_, _, rfl, vif_f (by simp) ⟨vote, hs13.at_ 1 rfl, vif_f (by simp) ⟨vote, hs13.at_ 1 rfl, vif_f (by simp; omega) ⟨term, hs13.at_ 0 rfl, vif_f (by simp; exact_mod_cast hlt) ⟨term, hs13.at_ 0 rfl, vif_f (by simp; omega) ⟨im.index, hs13.at_ 2 rfl, vif_f (by simp; omega) ⟨m''.p, m''.n, m''.c, h13.at_ 12 rfl, (right46 h13.sub.im (by show m''.n ≤ _; omega)).mono ?_⟩⟩⟩⟩⟩⟩⟩
    rintro _ w14 ⟨rfl, e14⟩
    refine ⟨_, rfl, vif_f (by simp [hgood]) ?_⟩
    refine (h13.ex e14).stStable _ fun w15 h15 s15 => ⟨_, _, rfl, h15, ?_, ?_⟩
    · refine e16.trans (((e612.trans e13').trans e14).fr' s15.fr fun x hx => ?_)
      rcases s12.own x hx with hh | hh
      · exact hlow _ x hh
      · exact Nat.le_trans (e610.trans e11).size hh
    · intro x hx
      have hz := e16.size
      rcases s12.own x hx with hh | hh
      · exact Nat.le_trans hz (hlow _ x hh)
      · exact Nat.le_trans hz (Nat.le_trans (e610.trans e11).size hh)

end
end Rx
end Go.Proofs.YtkoipeddfbeliaaGreat

/-
  Safety, in plain Lean: what a node's functions keep: sending, following, committing, leading.
-/
namespace Go.Proofs.YtkoipeddfbeliaaGreat
namespace Sf
open Md

section
variable {g : G} {x : Nat} {n : Md.Node}

theorem good_conf (gi : GInv g) {A : List Ent} (hA : Gd g.tl A) : goodM (confL g.C0 A) := by
  unfold confL
  split
  · rename_i a ha
    have h1 := List.find?_some ha
    have h2 := List.mem_reverse.1 (List.mem_of_find?_eq_some ha)
    obtain ⟨i, hi⟩ := List.mem_iff_getElem?.1 h2
    obtain ⟨ms, h3, h4⟩ := gi.cfd _ a (List.mem_of_getElem? (hA.same gi hi).1) h1
    rw [h4]
    have : dec (Node.encM ms) = ms := Rx.dec_enc h3
    rw [this]; exact h3
  · exact gi.c0
theorem NodeInv.members (h : NodeInv g x n) : n.members = confL g.C0 (g.full x) := h.log.members h.img.2.2
theorem NodeInv.good (gi : GInv g) (h : NodeInv g x n) : goodM n.members := by rw [h.members]; exact good_conf gi h.gd
theorem NodeInv.other (gi : GInv g) (h : NodeInv g x n) {y : Nat} (hy : y ∈ n.others) : 1 ≤ y ∧ y ≤ 7 := (h.good gi).2.1 y (List.mem_filter.1 hy).1
theorem NodeInv.flen (gi : GInv g) (h : NodeInv g x n) : (g.full x).length ≤ g.B := by
  by_cases h0 : g.full x = []
  · rw [h0]; simp
  · exact Nat.le_trans (h.gd.last h0).1.length_le (gi.bnd _)
theorem NodeInv.lastT (h : NodeInv g x n) : lastT (g.full x) ≤ n.term := by
  by_cases h0 : g.full x = []
  · rw [h0]; simp [Sf.lastT]
  · obtain ⟨_, e, he, het⟩ := h.gd.last h0
    rw [← het]; exact h.tle e (List.mem_of_getElem? he)
theorem NodeInv.cmOk (h : NodeInv g x n) {k : Nat} (hk : k ≤ n.commit) : CmOk g n.term k := by
  rcases h.cmo with h0 | ⟨u, c, p, h1, h2, h3, _⟩
  · exact .inl (by omega)
  · exact .inr ⟨u, c, p, h1, h2, by omega⟩
/-- what is committed is in the leader's log -/
theorem cm_lead (gi : GInv g) {T k : Nat} (hl : g.lead T ≠ none) (h : ∃ u c p, g.ev u c p ∧ u ≤ T ∧ k ≤ c ∧ (g.full x).take k = (g.tl u).take k) : k ≤ (g.tl T).length ∧ (g.full x).take k = (g.tl T).take k := by
  obtain ⟨u, c, p, h1, h2, h3, h4⟩ := h
  obtain ⟨b1, b2, b3⟩ := gi.evb u c p h1
  rcases Nat.lt_or_ge u T with hlt | hge
  · have := (gi.lc T u c p hl h1 hlt).trans (gi.elp T)
    have hlen := this.length_le
    simp only [List.length_take] at hlen
    refine ⟨by omega, ?_⟩
    rw [h4]
    have h5 := take_pre this (i := k) (by simp; omega)
    rw [h5, List.take_take, show min k c = k by omega]
  · have : u = T := by omega
    subst this
    exact ⟨by omega, h4⟩
theorem ev_lead (gi : GInv g) {T u c p : Nat} (hl : g.lead T ≠ none) (h1 : g.ev u c p) (h2 : u ≤ T) {k : Nat} (hk : k ≤ c) : k ≤ (g.tl T).length ∧ (g.tl T).take k = (g.tl u).take k := by
  obtain ⟨b1, b2, b3⟩ := gi.evb u c p h1
  rcases Nat.lt_or_ge u T with hlt | hge
  · have := (gi.lc T u c p hl h1 hlt).trans (gi.elp T)
    have hlen := this.length_le
    simp only [List.length_take] at hlen
    have h5 := take_pre this (i := k) (by simp; omega)
    exact ⟨by omega, by rw [h5, List.take_take, show min k c = k by omega]⟩
  · have : u = T := by omega
    subst this
    exact ⟨by omega, rfl⟩
theorem NodeInv.cmLead (gi : GInv g) (h : NodeInv g x n) (hl : g.lead n.term ≠ none) : n.commit ≤ (g.tl n.term).length ∧ (g.full x).take n.commit = (g.tl n.term).take n.commit := by
  rcases h.cmo with h0 | hh
  · rw [h0]; simp
  · exact cm_lead gi hl hh

/-- messages are sent -/
theorem NodeInv.send' (h : NodeInv g x n) {o : List Msg} (ho : ∀ m ∈ o, MsgInv g m ∧ m.frm = x) : NodeInv g x { n with out := n.out ++ o } :=
  { h with out := fun m hm => (List.mem_append.1 hm).elim (h.out m) (ho m) }
theorem NodeInv.send (h : NodeInv g x n) {m : Msg} (hm : MsgInv g { m with frm := x }) : NodeInv g x (n.send m) := by
  have : n.send m = { n with out := n.out ++ [{ m with frm := x }] } := by unfold Node.send; rw [h.id]
  rw [this]
  exact h.send' fun m' hm' => by simp at hm'; subst hm'; exact ⟨hm, rfl⟩
theorem NodeInv.since (h : NodeInv g x n) {s : Nat} (hs : s ≤ g.B) : NodeInv g x { n with since := s } := { h with sb := hs }

/-- a message without entries and members -/
theorem plain_msg (h : NodeInv g x n) {k to t i lt : Nat} {yes : Bool} (hk : k ≠ 4 ∧ k ≠ 6) (ht : t ≤ g.B + 1) (hi : i ≤ g.B) (hto : 1 ≤ to) (h2 : k = 2 → ∃ A, g.cl t x = some A ∧ i = A.length ∧ lt = Sf.lastT A)
    (h3 : k = 3 → yes = true → g.vt t x to ∨ g.lead t = some to) (h5 : (k = 5 ∨ k = 7) → yes = true → i = 0 ∨ g.ack x t i) : MsgInv g ⟨k, x, to, t, i, lt, 0, yes, [], []⟩ where
  tb := ht
  ib := hi
  to1 := hto
  frm1 := h.x1
  ask := h2
  vote := h3
  app := fun hh => absurd hh hk.1
  noents := fun _ => rfl
  nomem := fun _ => rfl
  inst := fun hh => absurd hh hk.2
  told := h5

theorem fold_send (f : Nat → Msg) : ∀ (l : List Nat) (n : Md.Node), l.foldl (fun (n : Md.Node) y => n.send (f y)) n = { n with out := n.out ++ l.map fun y => { f y with frm := n.id } }
  | [], n => by simp
  | y :: l, n => by
    rw [List.foldl_cons, fold_send f l]
    simp [Node.send]
theorem ask_inv (gi : GInv g) (h : NodeInv g x n) {k t : Nat} (hk : k = 0 ∨ (k = 2 ∧ t = n.term ∧ n.role = 2)) (ht : t ≤ g.B + 1) : NodeInv g x (n.ask k t) := by
  unfold Node.ask
  simp only
  rw [fold_send]
  refine h.send' fun m hm => ?_
  obtain ⟨y, hy, rfl⟩ := List.mem_map.1 hm
  refine ⟨?_, h.id⟩
  simp only [h.id]
  rw [h.log.last]
  refine plain_msg h (by rcases hk with rfl | ⟨rfl, _⟩ <;> decide) ht (h.flen gi) (h.other gi hy).1 (fun hk2 => ?_) (fun hh => by omega) (fun hh => by omega)
  rcases hk with rfl | ⟨_, rfl, hr⟩
  · cases hk2
  · exact ⟨_, (h.r2 hr).1, rfl, rfl⟩

/-- a node follows -/
theorem follow_inv (h : NodeInv g x n) {t l : Nat} (ht : t ≤ g.B) : NodeInv g x (n.follow t l) := by
  unfold Node.follow
  by_cases hlt : n.term < t
  · rw [if_pos hlt]
    exact { h with
      tle := fun e he => Nat.le_of_lt (Nat.lt_of_le_of_lt (h.tle e he) hlt)
      tb := ht
      cmo := h.cmo.imp (fun hh => hh) fun ⟨u, c, p, h1, h2, h3⟩ => ⟨u, c, p, h1, Nat.le_trans h2 (Nat.le_of_lt hlt), h3⟩
      ci := fun u c ha => by
        obtain ⟨h1, h2⟩ := h.ci u c ha
        exact ⟨Nat.le_trans h1 (Nat.le_of_lt hlt), fun hh => h2 fun T' a1 a2 a3 => hh T' a1 (Nat.le_trans a2 (Nat.le_of_lt hlt)) a3⟩
      vt1 := fun T y hv => by
        obtain ⟨h1, _, h3⟩ := h.vt1 T y hv
        exact ⟨Nat.le_trans h1 (Nat.le_of_lt hlt), fun hh => by simp only at hh; omega, h3⟩
      vt2 := fun hh => absurd rfl hh
      vt3 := Nat.zero_le _
      clx := fun T A hc => Nat.le_trans (h.clx T A hc) (Nat.le_of_lt hlt)
      ldx := fun T hl => ⟨Nat.le_trans (h.ldx T hl).1 (Nat.le_of_lt hlt), fun _ hh => by cases hh⟩
      rl := Nat.zero_le _
      r3 := fun hh => by cases hh
      nt := fun _ => rfl
      r2 := fun hh => by cases hh
      pl := fun hh => by rcases hh with hh | hh <;> cases hh
      np := fun _ => rfl }
  · rw [if_neg hlt]
    exact { h with
      ldx := fun T hl => ⟨(h.ldx T hl).1, fun _ hh => by cases hh⟩
      rl := Nat.zero_le _
      r3 := fun hh => by cases hh
      nt := fun _ => rfl
      r2 := fun hh => by cases hh
      pl := fun hh => by rcases hh with hh | hh <;> cases hh
      np := fun _ => rfl }

theorem take_self (l : List Ent) (k : Nat) : l.take k = l.take (l.take k).length := by
  rw [List.length_take]
  rcases Nat.le_total k l.length with h | h
  · rw [Nat.min_eq_left h]
  · rw [Nat.min_eq_right h, List.take_of_length_le h, List.take_of_length_le (Nat.le_refl _)]

/-- what a leader sends -/
theorem toMsg_inv (gi : GInv g) (h : NodeInv g x n) (hr : n.role = 3) {y : Nat} (hy : 1 ≤ y) : MsgInv g (Rx.toMsg n y) ∧ (Rx.toMsg n y).frm = x := by
  obtain ⟨h1, h2, h3, h6, t, h4, h5⟩ := h.r3 hr
  have hfl := h.flen gi
  have hb := h.log.base
  have hln : g.lead n.term ≠ none := by rw [h1]; simp
  unfold Rx.toMsg
  rw [h4]
  simp only [Option.getD_some]
  split
  · refine ⟨{ tb := Nat.le_trans h.tb (Nat.le_succ _), ib := Nat.le_trans hb hfl, to1 := hy, frm1 := by simp only [h.id]; exact h.x1, ask := fun hh => (by cases hh), vote := fun hh => (by cases hh), app := fun hh => (by cases hh), noents := fun _ => rfl, nomem := fun hh => absurd rfl hh, inst := fun _ => ?_, told := fun hh => (by rcases hh with hh | hh <;> cases hh) }, h.id⟩
    simp only
    rw [← h2]
    exact ⟨hln, hb, h.log.bterm, h.img.2.2, h.cmOk h.base⟩
  · rename_i hnx
    have hnl : t.next y ≤ (g.full x).length + 1 := by
      unfold Track.next at hnx ⊢
      cases hg : t.get y with
      | none => rw [hg] at hnx; simp at hnx
      | some m =>
        unfold Track.get at hg
        cases hf : t.find? (·.1 == y) with
        | none => rw [hf] at hg; cases hg
        | some p =>
          rw [hf] at hg
          have := (h5 p (List.mem_of_find?_eq_some hf)).2.1
          simp at hg; rw [← hg]; exact this
    generalize t.next y = nx at hnx hnl
    have hdl : n.log.termD (nx - 1) = termAt (g.full x) (nx - 1) := h.log.termD (by omega) (by omega)
    have hfr : n.log.from_ nx 8 = ((g.full x).drop (nx - 1)).take 8 := h.log.from_ (by omega) hnl 8
    refine ⟨{ tb := Nat.le_trans h.tb (Nat.le_succ _), ib := by simp only; omega, to1 := hy, frm1 := by simp only [h.id]; exact h.x1, ask := fun hh => (by cases hh), vote := fun hh => (by cases hh), app := fun _ => ?_, noents := fun hh => absurd rfl hh, nomem := fun _ => rfl, inst := fun hh => (by cases hh), told := fun hh => (by rcases hh with hh | hh <;> cases hh) }, h.id⟩
    simp only
    rw [← h2, hfr, hdl]
    refine ⟨hln, by simp; omega, take_self _ _, rfl, h.cmOk (Nat.le_refl _)⟩

theorem all_inv (gi : GInv g) (h : NodeInv g x n) (hr : n.role = 3) : NodeInv g x n.all := by
  rw [Rx.all_eq]
  refine (h.since (Nat.zero_le _)).send' fun m hm => ?_
  obtain ⟨y, hy, rfl⟩ := List.mem_map.1 hm
  exact toMsg_inv gi h hr (h.other gi hy).1
theorem to_inv (gi : GInv g) (h : NodeInv g x n) (hr : n.role = 3) {y : Nat} (hy : 1 ≤ y) : NodeInv g x (n.to y) := by
  rw [Rx.to_eq]
  exact h.send' fun m hm => by simp at hm; subst hm; exact toMsg_inv gi h hr hy

/-- what a majority has -/
theorem agreed_spec {l : List Nat} {f : Nat → Nat} {i : Nat} (hi : Node.agreed l f = i) (hpos : 0 < i) : goodM l ∧ l.length < 2 * (l.filter fun y => decide (i ≤ f y)).length := by
  unfold Node.agreed at hi
  split at hi
  · rename_i hg
    refine ⟨hg, ?_⟩
    have hperm := Rx.sortN_perm (l.map f)
    have hsort := Rx.sortN_sorted (l.map f)
    generalize Node.sortN (l.map f) = s at hi hperm hsort
    have hlen : s.length = l.length := by have := hperm.length_eq; simpa using this
    have hl0 : 0 < l.length := List.length_pos_iff.2 hg.1
    have hk : l.length - (l.length / 2 + 1) < s.length := by omega
    rw [List.getElem?_eq_getElem hk] at hi
    simp only [Option.getD_some] at hi
    have hdrop : ∀ y ∈ s.drop (l.length - (l.length / 2 + 1)), i ≤ y := by
      intro y hy
      obtain ⟨j, hj⟩ := List.mem_iff_getElem?.1 hy
      rw [List.getElem?_drop] at hj
      have hjl := (List.getElem?_eq_some_iff.1 hj).1
      rw [List.getElem?_eq_getElem hjl] at hj
      rw [← Option.some.inj hj, ← hi]
      rcases Nat.eq_zero_or_pos j with h0 | h0
      · subst h0; exact Nat.le_refl _
      · exact List.pairwise_iff_getElem.1 hsort _ _ hk hjl (by omega)
    have h1 : (s.drop (l.length - (l.length / 2 + 1))).length ≤ (s.filter fun y => decide (i ≤ y)).length := by
      have e1 : (s.drop (l.length - (l.length / 2 + 1))).filter (fun y => decide (i ≤ y)) = s.drop (l.length - (l.length / 2 + 1)) := List.filter_eq_self.2 fun y hy => by simpa using hdrop y hy
      have : ((s.drop (l.length - (l.length / 2 + 1))).filter (fun y => decide (i ≤ y))).length ≤ (s.filter fun y => decide (i ≤ y)).length := ((List.drop_sublist _ _).filter _).length_le
      rwa [e1] at this
    have h2 : (s.filter fun y => decide (i ≤ y)).length = (l.filter fun y => decide (i ≤ f y)).length := by
      rw [(hperm.filter _).length_eq, List.filter_map, List.length_map]; rfl
    simp only [List.length_drop] at h1
    omega
  · omega

theorem agree_inv (gi : GInv g) (h : NodeInv g x n) (hr : n.role = 3) : ∃ g', GInv g' ∧ Ext x g g' ∧ NodeInv g' x n.agree := by
  obtain ⟨h1, h2, h3, h6, t, h4, h5⟩ := h.r3 hr
  unfold Node.agree
  simp only
  generalize hi : (Node.agreed n.members fun y => if y = n.id then n.log.last.1 else (n.track.getD []).mat y) = i
  split
  · exact ⟨g, gi, Ext.refl _ _, h⟩
  · rename_i hc
    have hci : n.commit < i := by omega
    have hti : n.log.term i = some n.term := Classical.byContradiction fun hh => hc (.inr hh)
    rw [h.log.term] at hti
    have hil : i ≤ (g.full x).length ∧ termAt (g.full x) i = n.term := by
      split at hti
      · cases hti
      · exact ⟨by omega, Option.some.inj hti⟩
    have hil' := hil.1
    have hel : (g.el n.term).length < i := by
      have hlt : i - 1 < (g.full x).length := by omega
      have hx := List.getElem?_eq_getElem hlt
      have ht : ((g.full x)[i - 1]).term = n.term := by
        have := termAt_some hx
        rw [show i - 1 + 1 = i by omega, hil.2] at this
        exact this.symm
      have := gi.eln (T := n.term) (i := i - 1) (e := (g.full x)[i - 1]) (by rw [← h2]; exact hx) ht
      omega
    obtain ⟨hg, hmaj⟩ := agreed_spec hi (by omega)
    have hQ : Maj (confL g.C0 (g.tl n.term)) (n.members.filter fun y => decide (i ≤ if y = n.id then n.log.last.1 else (n.track.getD []).mat y)) := by
      refine ⟨(goodM_nodup hg).filter _, fun y hy => ?_, ?_⟩
      · rw [← h2, ← h.members]; exact (List.mem_filter.1 hy).1
      · rw [← h2, ← h.members]; exact hmaj
    have hack : ∀ y ∈ n.members.filter (fun y => decide (i ≤ if y = n.id then n.log.last.1 else (n.track.getD []).mat y)), g.ack y n.term i := by
      intro y hy
      have hy2 := (List.mem_filter.1 hy).2
      simp only [decide_eq_true_eq] at hy2
      split at hy2
      · rename_i hyx
        rw [hyx, h.id]
        exact gi.ackd _ _ _ _ h6 hil'
      · rw [h4] at hy2
        simp only [Option.getD_some] at hy2
        unfold Track.mat at hy2
        cases hg2 : t.get y with
        | none => rw [hg2] at hy2; simp at hy2; omega
        | some m =>
          rw [hg2] at hy2
          unfold Track.get at hg2
          cases hf : t.find? (·.1 == y) with
          | none => rw [hf] at hg2; cases hg2
          | some p =>
            rw [hf] at hg2
            have hp := h5 p (List.mem_of_find?_eq_some hf)
            have hpy : p.1 = y := by have := List.find?_some hf; simpa using this
            simp at hg2
            subst hg2
            simp at hy2
            rcases hp.2.2 with h0 | ha
            · omega
            · rw [hpy] at ha; exact gi.ackd _ _ _ _ ha hy2
    have hnew : ∀ c' p', g.ev n.term c' p' → c' < i := fun c' p' hev => Nat.lt_of_le_of_lt (h3 c' p' hev) hci
    have gi1 := commit_inv gi h1 hel (by rw [← h2]; exact hil') hQ hack hnew
    have e1 := commit_ext (x := x) (T := n.term) i h1
    have hn1 : NodeInv (g.commit n.term i) x { n with commit := i } :=
      { h with
        base := Nat.le_trans h.base (Nat.le_of_lt hci)
        cm := hil'
        cmo := .inr ⟨n.term, i, (g.tl n.term).length, .inr ⟨rfl, rfl, rfl⟩, Nat.le_refl _, Nat.le_refl _, by show (g.full x).take i = (g.tl n.term).take i; rw [h2]⟩
        r3 := fun _ => ⟨h1, h2, fun c p hev => by
          rcases hev with hev | ⟨_, rfl, _⟩
          · exact Nat.le_of_lt (hnew c p hev)
          · exact Nat.le_refl _, h6, t, h4, h5⟩
        out := fun m hm => ⟨(h.out m hm).1.ext e1, (h.out m hm).2⟩ }
    have hn2 := all_inv gi1 hn1 hr
    split
    · exact ⟨_, gi1, e1, hn2⟩
    · exact ⟨_, gi1, e1, follow_inv hn2 hn2.tb⟩

end
end Sf
end Go.Proofs.YtkoipeddfbeliaaGreat

/-
  Safety, in plain Lean: what a node's functions keep: votes, and to lead.
-/
namespace Go.Proofs.YtkoipeddfbeliaaGreat
namespace Sf
open Md

section
variable {g : G} {x : Nat} {n : Md.Node}

/-- what may come of a node -/
def Op (x : Nat) (g : G) (n' : Md.Node) : Prop := ∃ g', GInv g' ∧ Ext x g g' ∧ NodeInv g' x n'
theorem Op.same (gi : GInv g) (h : NodeInv g x n) : Op x g n := ⟨g, gi, Ext.refl _ _, h⟩
theorem Op.then {g1 : G} (e : Ext x g g1) (h : Op x g1 n) : Op x g n := by
  obtain ⟨g', h1, h2, h3⟩ := h
  exact ⟨g', h1, e.trans h2, h3⟩

/-- a leader's entry -/
theorem push_node (gi : GInv g) (h : NodeInv g x n) (hr : n.role = 3) (hb : (g.tl n.term).length + 1 ≤ g.B) {cf : Bool} {data : List UInt8} {log' : Log} (ha : n.log.add n.term cf data = some log') {t' : Track}
    (hcf : cf = true → (∃ ms, goodM ms ∧ data = Node.encM ms) ∧ Node.confStep (confL g.C0 (g.full x)) (dec data) = true ∧ ∃ c p, g.ev n.term c p ∧ c ≤ (g.full x).length ∧ (∀ (k : Nat) (y : Ent), c ≤ k → (g.full x)[k]? = some y → y.conf = false))
    (ht : ∀ p ∈ t', p.2.1 < p.2.2 ∧ p.2.2 ≤ (g.full x).length + 2 ∧ (p.2.1 = 0 ∨ g.ack p.1 n.term p.2.1)) :
    ∃ g', GInv g' ∧ Ext x g g' ∧ NodeInv g' x { n with log := log', track := some t' } := by
  obtain ⟨h1, h2, h3, h6, t, h4, h5⟩ := h.r3 hr
  obtain ⟨k1, k2, k3, k4⟩ := h.log.add ha
  rw [h2] at k1 hcf ht
  generalize haa : (⟨(g.tl n.term).length + 1, n.term, cf, data⟩ : Ent) = a at k1
  have hidx : a.index = (g.tl n.term).length + 1 := by rw [← haa]
  have hterm : a.term = n.term := by rw [← haa]
  have gi1 := push_inv (x := x) (a := a) gi h1 (fun T' y hv => (h.vt1 T' y hv).1) hb hterm hidx (by rw [← haa]; exact k4) (by rw [← haa]; exact hcf)
  have e1 := push_ext (x := x) a h1
  have hfull : (g.push n.term x a).full x = g.tl n.term ++ [a] := by show (if x = x then _ else _) = _; rw [if_pos rfl]
  have htl : (g.push n.term x a).tl n.term = g.tl n.term ++ [a] := by show (if n.term = n.term then _ else _) = _; rw [if_pos rfl]
  have hcm := h.cm
  rw [h2] at hcm
  have hbase := h.log.base
  rw [h2] at hbase
  refine ⟨_, gi1, e1, { h with log := by rw [hfull]; exact k1, base := by simp only [k2]; exact h.base, img := ?_, gd := by rw [hfull, ← htl]; exact gi1.tgd n.term, tle := ?_, cm := by rw [hfull]; simp; omega, cmo := ?_, ci := fun u c hack => ?_, r3 := fun _ => ?_, nt := fun hh => absurd hr hh, r2 := fun hh => (by rw [hr] at hh; cases hh), pl := fun hh => (by rw [hr] at hh; rcases hh with hh | hh <;> cases hh), out := fun m hm => ⟨(h.out m hm).1.ext e1, (h.out m hm).2⟩ }⟩
  · simp only [k2, k3]
    refine ⟨h.img.1, h.img.2.1, ?_⟩
    rw [h.img.2.2, hfull, List.take_append_of_le_length hbase, h2]; rfl
  · rw [hfull]
    intro e he
    rcases List.mem_append.1 he with he | he
    · exact h.tle e (by rw [h2]; exact he)
    · simp at he; rw [he, hterm]; exact Nat.le_refl _
  · rcases h.cmo with h0 | ⟨u, c, p, g1, g2, g3, g4⟩
    · exact .inl h0
    · refine .inr ⟨u, c, p, g1, g2, g3, ?_⟩
      have := gi.evb u c p g1
      show ((g.push n.term x a).full x).take n.commit = _
      rw [hfull, List.take_append_of_le_length hcm, e1.take (u := u) (c := n.commit) (by omega), ← g4, h2]
  · rcases hack with hack | ⟨_, rfl, hc⟩
    · obtain ⟨q1, q2⟩ := h.ci u c hack
      obtain ⟨_, hc⟩ := gi.ackb x u c hack
      refine ⟨q1, fun hh => ?_⟩
      rw [e1.take hc, hfull]
      have := q2 fun T' a1 a2 a3 => by
        have := hh T' a1 a2 a3
        rw [e1.take hc] at this
        exact this
      rw [h2] at this
      exact this.trans (List.prefix_append _ _)
    · refine ⟨Nat.le_refl _, fun _ => ?_⟩
      rw [hfull, htl]; exact List.take_prefix _ _
  · refine ⟨h1, by rw [hfull, htl], h3, ?_, t', rfl, fun p hp => ?_⟩
    · rw [hfull]; exact .inr ⟨rfl, rfl, by simp⟩
    · obtain ⟨q1, q2, q3⟩ := ht p hp
      refine ⟨q1, by rw [hfull]; simp; omega, q3.imp (fun hh => hh) .inl⟩

theorem mem_follow {nodes : List Nat} {last : Nat} {t : Track} {p : Nat × Nat × Nat} (h : p ∈ t.follow nodes last) : p ∈ t ∨ ∃ y, p = (y, 0, last + 1) :=
  (Rx.mem_followT (nodes := nodes) h).imp (fun hh => (List.mem_filter.1 hh).1) fun hh => hh

theorem add_inv (gi : GInv g) (h : NodeInv g x n) (hr : n.role = 3) (hb : (g.tl n.term).length + 1 ≤ g.B) {cf : Bool} {data : List UInt8}
    (hcf : cf = true → (∃ ms, goodM ms ∧ data = Node.encM ms) ∧ Node.confStep (confL g.C0 (g.full x)) (dec data) = true ∧ ∃ c p, g.ev n.term c p ∧ c ≤ (g.full x).length ∧ (∀ (k : Nat) (y : Ent), c ≤ k → (g.full x)[k]? = some y → y.conf = false)) :
    Op x g (n.add cf data).1 := by
  obtain ⟨h1, h2, h3, h6, t, h4, h5⟩ := h.r3 hr
  unfold Node.add
  cases ha : n.log.add n.term cf data with
  | none => exact Op.same gi h
  | some log' =>
    simp only
    obtain ⟨k1, k2, k3, k4⟩ := h.log.add ha
    have hlast : log'.last.1 = (g.full x).length + 1 := by rw [k1.last]; simp
    obtain ⟨g1, gi1, e1, hn1⟩ := push_node gi h hr hb ha (t' := (n.track.getD []).follow ({ n with log := log' } : Md.Node).others log'.last.1) hcf fun p hp => by
      rcases mem_follow hp with hp | ⟨y, rfl⟩
      · rw [h4] at hp
        obtain ⟨q1, q2, q3⟩ := h5 p hp
        exact ⟨q1, by omega, q3⟩
      · exact ⟨Nat.succ_pos _, by simp only; omega, .inl rfl⟩
    have hn2 := all_inv gi1 hn1 hr
    exact Op.then e1 (agree_inv gi1 hn2 (by rw [Rx.all_eq]; exact hr))

theorem BalIs.vote {b : Ballot} (h : BalIs b) (y : Nat) (yes : Bool) : BalIs (b.vote y yes) := by
  have := Rx.BalOk.vote (b := b) ⟨h.nd, h.mem, h.len⟩ y yes
  exact ⟨this.1, this.2.1, this.2.2⟩
theorem vote_mem {b : Ballot} {y z : Nat} {yes : Bool} (h : (z, true) ∈ (b.vote y yes).votes) : (z, true) ∈ b.votes ∨ (z = y ∧ yes = true) := by
  unfold Ballot.vote at h
  split at h
  · simp only [List.mem_append, List.mem_singleton, Prod.mk.injEq] at h
    rcases h with h | ⟨h1, h2⟩
    · exact .inl h
    · exact .inr ⟨h1, h2.symm⟩
  · exact .inl h
theorem vote_members (b : Ballot) (y : Nat) (yes : Bool) : (b.vote y yes).members = b.members := by unfold Ballot.vote; split <;> rfl

/-- a candidate that has won leads -/
theorem leads_inv (gi : GInv g) (h : NodeInv g x n) (hr : n.role = 2) (hw : n.pollState = 1) (hb : ∀ T, (g.tl T).length + 1 ≤ g.B) : Op x g n.leads := by
  obtain ⟨b, h1, h2, h3, h4⟩ := h.pl (.inr hr)
  obtain ⟨hcl, ht1⟩ := h.r2 hr
  have hst : b.state = 1 := by unfold Node.pollState at hw; rw [h1] at hw; exact hw
  have hmaj : goodM b.members ∧ b.members.length / 2 + 1 ≤ b.yes := by
    unfold Ballot.state at hst
    split at hst
    · rename_i hg
      split at hst
      · rename_i hy; exact ⟨hg, hy⟩
      · split at hst <;> cases hst
    · cases hst
  have hV : Maj (confL g.C0 (g.full x)) ((b.votes.filter (·.2)).map (·.1)) := by
    refine ⟨(List.filter_sublist.map _).nodup h3.nd, fun y hy => ?_, ?_⟩
    · rw [← h2]
      obtain ⟨p, hp, rfl⟩ := List.mem_map.1 hy
      exact h3.mem _ (List.mem_map_of_mem (List.mem_filter.1 hp).1)
    · rw [← h2, List.length_map]
      have := hmaj.2
      unfold Ballot.yes at this
      omega
  have hvt : ∀ y ∈ (b.votes.filter (·.2)).map (·.1), g.vt n.term y x := fun y hy => by
    obtain ⟨p, hp, rfl⟩ := List.mem_map.1 hy
    have hp' := List.mem_filter.1 hp
    refine h4 hr p.1 ?_
    have : p = (p.1, true) := by rw [← hp'.2]
    rw [← this]; exact hp'.1
  have hno : g.lead n.term = none := by
    cases hl : g.lead n.term with
    | none => rfl
    | some y =>
      have := elect_one gi hcl hV hvt hl
      rw [← this] at hl
      exact absurd hr ((h.ldx _ hl).2 rfl)
  unfold Node.leads
  simp only
  generalize htt : Track.follow [] ({ n with since := 0, role := 3, leader := n.id, poll := none } : Md.Node).others n.log.last.1 = t0
  have ht0 : ∀ p ∈ t0, ∃ y, p = (y, 0, (g.full x).length + 1) := fun p hp => by
    rw [← htt] at hp
    rcases mem_follow hp with hp | ⟨y, hy⟩
    · cases hp
    · rw [h.log.last] at hy; exact ⟨y, hy⟩
  cases ha : n.log.add n.term false [0, 0, 0] with
  | none =>
    simp only
    rw [Rx.follow_same (n := { n with since := 0, role := 3, leader := n.id, poll := none, track := some t0 })]
    exact Op.same gi { h with sb := Nat.zero_le _, ldx := fun T hl => ⟨(h.ldx T hl).1, fun _ hh => by cases hh⟩, rl := Nat.zero_le _, r3 := fun hh => (by cases hh), nt := fun _ => rfl, r2 := fun hh => (by cases hh), pl := fun hh => (by rcases hh with hh | hh <;> cases hh), np := fun _ => rfl }
  | some log' =>
    simp only
    have gi1 := elect_inv (x := x) gi (by omega) hno hcl hV hvt
    have e1 := elect_ext (x := x) (L := g.full x) gi hno
    have htT : (g.elect n.term x (g.full x)).tl n.term = g.full x := by show (if n.term = n.term then _ else _) = _; rw [if_pos rfl]
    have hlT : (g.elect n.term x (g.full x)).lead n.term = some x := by show (if n.term = n.term then _ else _) = _; rw [if_pos rfl]
    have gi2 := keep_inv (x := x) (T := n.term) (i := (g.full x).length) gi1 (g.full x) (fun T' y hv => (h.vt1 T' y hv).1) (by rw [hlT]; simp) (by rw [htT]; exact Nat.le_refl _)
    have e2 := keep_ext (g := g.elect n.term x (g.full x)) (x := x) n.term (g.full x) (g.full x).length
    have e12 := e1.trans e2
    have hfull : ((g.elect n.term x (g.full x)).keep x n.term (g.full x) (g.full x).length).full x = g.full x := by show (if x = x then _ else _) = _; rw [if_pos rfl]
    have hn2 : NodeInv ((g.elect n.term x (g.full x)).keep x n.term (g.full x) (g.full x).length) x { n with since := 0, role := 3, leader := n.id, poll := none, track := some t0 } := by
      refine ⟨h.id, h.x1, by rw [hfull]; exact h.log, h.base, by rw [hfull]; exact h.img, by rw [hfull]; exact e12.gd h.gd, by rw [hfull]; exact h.tle, h.tb, Nat.zero_le _, by rw [hfull]; exact h.cm, ?_, fun u c hack => ?_, h.vt1,
        fun hh => (h.vt2 hh).elim .inl fun h5 => .inr (e12.lead _ _ h5), h.vt3, h.clx, fun T hl => ⟨?_, fun _ hh => by cases hh⟩, Nat.le_refl _, fun _ => ?_, fun hh => absurd rfl hh, fun hh => (by cases hh), fun hh => (by rcases hh with hh | hh <;> cases hh), fun _ => rfl, fun m hm => ⟨(h.out m hm).1.ext e12, (h.out m hm).2⟩, h.cfg⟩
      · rcases h.cmo with h0 | ⟨u, c, p, g1, g2, g3, g4⟩
        · exact .inl h0
        · refine .inr ⟨u, c, p, g1, g2, g3, ?_⟩
          have := gi.evb u c p g1
          rw [hfull, e12.take (u := u) (c := n.commit) (by omega)]; exact g4
      · rcases hack with hack | ⟨_, rfl, hc⟩
        · obtain ⟨q1, q2⟩ := h.ci u c hack
          obtain ⟨ql, hc⟩ := gi.ackb x u c hack
          refine ⟨q1, fun hh => ?_⟩
          rw [e12.take hc, hfull]
          refine q2 fun T' a1 a2 a3 => ?_
          have := hh T' a1 a2 (e12.led a3)
          rw [e12.take hc, e12.el T' a3] at this
          exact this
        · refine ⟨Nat.le_refl _, fun _ => ?_⟩
          rw [hfull]
          show ((g.elect n.term x (g.full x)).tl n.term).take c <+: _
          rw [htT]; exact List.take_prefix _ _
      · have hl : (if T = n.term then some x else g.lead T) = some x := hl
        split at hl
        · rename_i hh; rw [hh]; exact Nat.le_refl _
        · exact (h.ldx T hl).1
      · refine ⟨hlT, by rw [hfull]; exact htT.symm, fun c p hev => ?_, by rw [hfull]; exact .inr ⟨rfl, rfl, Nat.le_refl _⟩, t0, rfl, fun p hp => ?_⟩
        · exact absurd hno (gi.evl hev)
        · obtain ⟨y, rfl⟩ := ht0 p hp
          rw [hfull]; simp
    obtain ⟨g3, gi3, e3, hn3⟩ := push_node gi2 hn2 rfl (by
        show ((g.elect n.term x (g.full x)).tl n.term).length + 1 ≤ g.B
        rw [htT]
        by_cases h0 : g.full x = []
        · rw [h0]; have := hb 0; simp; omega
        · have := (h.gd.last h0).1.length_le; have := hb (Sf.lastT (g.full x)); omega) (cf := false) (data := [0, 0, 0]) ha (t' := t0) (fun hh => by cases hh) fun p hp => by
      obtain ⟨y, rfl⟩ := ht0 p hp
      rw [hfull]; simp
    have hn4 := all_inv gi3 hn3 rfl
    exact Op.then (e12.trans e3) (agree_inv gi3 hn4 (by rw [Rx.all_eq]))

theorem poll1_bal (h : NodeInv g x n) (gi : GInv g) : BalIs ((Ballot.mk n.members []).vote n.id true) ∧ ((Ballot.mk n.members []).vote n.id true).members = confL g.C0 (g.full x) ∧ ∀ y, (y, true) ∈ ((Ballot.mk n.members []).vote n.id true).votes → y = x := by
  refine ⟨BalIs.vote ⟨by simp, by simp, Rx.goodM_len (l := n.members) (h.good gi)⟩ _ _, by rw [vote_members]; exact h.members, fun y hy => ?_⟩
  rcases vote_mem hy with hh | ⟨hh, _⟩
  · cases hh
  · rw [hh, h.id]

theorem stands_inv (gi : GInv g) (h : NodeInv g x n) (hr : n.role = 1) (ht : n.term + 1 ≤ g.B) (hb : ∀ T, (g.tl T).length + 1 ≤ g.B) : Op x g n.stands := by
  have gi1 := stand_inv gi h (T := n.term + 1) (Nat.lt_succ_self _)
  have e1 := stand_ext (g := g) (x := x) (T := n.term + 1) (by
    cases hc : g.cl (n.term + 1) x with
    | none => rfl
    | some A => have := h.clx _ A hc; omega)
  obtain ⟨p1, p2, p3⟩ := poll1_bal h gi
  have hn1 : NodeInv (g.stand (n.term + 1) x) x ({ n with since := 0, role := 2, term := n.term + 1, vote := n.id } : Md.Node).poll1 := by
    refine ⟨h.id, h.x1, h.log, h.base, h.img, h.gd, fun e he => Nat.le_succ_of_le (h.tle e he), ht, Nat.zero_le _, h.cm, h.cmo.imp (fun hh => hh) fun ⟨u, c, p, g1, g2, g3⟩ => ⟨u, c, p, g1, Nat.le_succ_of_le g2, g3⟩, fun u c hack => ?_, fun T y hv => ?_, fun _ => .inl (.inr ⟨rfl, rfl, h.id⟩), ?_, fun T A hc => ?_, fun T hl => ?_, by show (2 : Nat) ≤ 3; omega,
      fun hh => (by cases hh), fun _ => h.nt (by omega), fun _ => ⟨?_, by show 1 ≤ n.term + 1; omega⟩, fun _ => ⟨_, rfl, p2, p1, fun _ y hy => .inr ⟨rfl, p3 y hy, rfl⟩⟩, fun hh => (by rcases hh with hh | hh <;> cases hh), fun m hm => ⟨(h.out m hm).1.ext e1, (h.out m hm).2⟩, h.cfg⟩
    · obtain ⟨q1, q2⟩ := h.ci u c hack
      exact ⟨Nat.le_succ_of_le q1, fun hh => q2 fun T' a1 a2 a3 => hh T' a1 (Nat.le_succ_of_le a2) a3⟩
    · rcases hv with hv | ⟨rfl, _, rfl⟩
      · obtain ⟨q1, q2, q3⟩ := h.vt1 T y hv
        exact ⟨Nat.le_succ_of_le q1, fun hh => by have hh : T = n.term + 1 := hh; omega, q3⟩
      · exact ⟨Nat.le_refl _, fun _ => h.id, by have := h.x1; omega⟩
    · show n.id ≤ 7; rw [h.id]; exact h.x1.2
    · have hc : (if T = n.term + 1 ∧ x = x then some (g.full x) else g.cl T x) = some A := hc
      split at hc
      · rename_i hh; rw [hh.1]; exact Nat.le_refl _
      · exact Nat.le_succ_of_le (h.clx T A hc)
    · have := (h.ldx T hl).1
      exact ⟨Nat.le_succ_of_le this, fun hh => by have hh : T = n.term + 1 := hh; omega⟩
    · show (if n.term + 1 = n.term + 1 ∧ x = x then some (g.full x) else g.cl (n.term + 1) x) = _
      rw [if_pos ⟨rfl, rfl⟩]; rfl
  unfold Node.stands
  simp only
  split
  · rename_i hw
    exact Op.then e1 (leads_inv gi1 hn1 rfl hw hb)
  · exact Op.then e1 (Op.same gi1 (ask_inv gi1 hn1 (.inr ⟨rfl, rfl, rfl⟩) (by show n.term + 1 ≤ g.B + 1; omega)))

theorem asks_inv (gi : GInv g) (h : NodeInv g x n) (ht : n.term + 1 ≤ g.B) (hb : ∀ T, (g.tl T).length + 1 ≤ g.B) : Op x g n.asks := by
  obtain ⟨p1, p2, p3⟩ := poll1_bal h gi
  have hn1 : NodeInv g x ({ n with since := 0, role := 1, leader := 0, track := none } : Md.Node).poll1 :=
    { h with sb := Nat.zero_le _, ldx := fun T hl => ⟨(h.ldx T hl).1, fun _ hh => by cases hh⟩, rl := by show (1 : Nat) ≤ 3; omega, r3 := fun hh => (by cases hh), nt := fun _ => rfl, r2 := fun hh => (by cases hh),
             pl := fun _ => ⟨_, rfl, p2, p1, fun hh => by cases hh⟩, np := fun hh => (by rcases hh with hh | hh <;> cases hh) }
  unfold Node.asks
  simp only
  split
  · exact stands_inv gi hn1 rfl ht hb
  · exact Op.same gi (ask_inv gi hn1 (.inl rfl) (by show n.term + 1 ≤ g.B + 1; omega))

theorem tick_inv (gi : GInv g) (h : NodeInv g x n) (ht : n.term + 1 ≤ g.B) (hs : n.since + 1 ≤ g.B) (hb : ∀ T, (g.tl T).length + 1 ≤ g.B) (draw : Nat) : Op x g (n.tick draw) := by
  unfold Node.tick
  have h1 := h.since hs
  simp only
  split
  · rename_i hr
    split
    · exact Op.same gi (all_inv gi h1 hr)
    · exact Op.same gi h1
  · split
    · exact asks_inv gi h1 ht hb
    · exact Op.same gi h1

theorem askPre_inv (gi : GInv g) (h : NodeInv g x n) {m : Msg} (hm : MsgInv g m) : Op x g (n.askPre m) := by
  unfold Node.askPre
  simp only
  refine Op.same gi (h.send (plain_msg (k := 1) h (by decide) ?_ (Nat.zero_le _) hm.frm1.1 (fun hh => by cases hh) (fun hh => by cases hh) (fun hh => by rcases hh with hh | hh <;> cases hh)))
  split
  · exact hm.tb
  · exact Nat.le_succ_of_le h.tb

theorem poll_vote (h : NodeInv g x n) (hr : n.role = 1 ∨ n.role = 2) {y : Nat} {yes : Bool} (hv : n.role = 2 → yes = true → g.vt n.term y x) : NodeInv g x { n with poll := n.poll.map (·.vote y yes) } := by
  obtain ⟨b, h1, h2, h3, h4⟩ := h.pl hr
  exact { h with
    pl := fun _ => ⟨b.vote y yes, by rw [h1]; rfl, by rw [vote_members]; exact h2, h3.vote y yes, fun hr2 z hz => by
      rcases vote_mem hz with hz | ⟨rfl, hy⟩
      · exact h4 hr2 z hz
      · exact hv hr2 hy⟩
    np := fun hh => by simp only at hh; omega }

theorem tellPre_inv (gi : GInv g) (h : NodeInv g x n) {m : Msg} (ht : n.term + 1 ≤ g.B) (hmt : m.term ≤ g.B) (hb : ∀ T, (g.tl T).length + 1 ≤ g.B) : Op x g (n.tellPre m) := by
  unfold Node.tellPre
  split
  · exact Op.same gi (follow_inv h hmt)
  · split
    · exact Op.same gi h
    · rename_i hc
      have hr : n.role = 1 := Decidable.byContradiction fun hh => hc (.inl hh)
      have hn1 := poll_vote h (.inl hr) (y := m.frm) (yes := m.yes) fun hh => by omega
      simp only
      split
      · exact stands_inv gi hn1 hr ht hb
      · split
        · exact Op.same gi (follow_inv hn1 h.tb)
        · exact Op.same gi hn1

theorem tellVote_inv (gi : GInv g) (h : NodeInv g x n) {m : Msg} (hk : m.kind = 3) (hmt : m.term = n.term) (hto : m.to = x) (hm : MsgInv g m) (hb : ∀ T, (g.tl T).length + 1 ≤ g.B) : Op x g (n.tellVote m) := by
  unfold Node.tellVote
  split
  · exact Op.same gi h
  · rename_i hc
    have hr : n.role = 2 := Decidable.byContradiction hc
    have hn1 := poll_vote h (.inr hr) (y := m.frm) (yes := m.yes) fun _ hy => by
      rcases hm.vote hk hy with hh | hh
      · rw [hmt, hto] at hh; exact hh
      · rw [hmt, hto] at hh
        exact absurd hr ((h.ldx _ hh).2 rfl)
    simp only
    split
    · rename_i hw
      exact leads_inv gi hn1 hr hw hb
    · split
      · exact Op.same gi (follow_inv hn1 h.tb)
      · exact Op.same gi hn1

theorem askVote_inv (gi : GInv g) (h : NodeInv g x n) {m : Msg} (hk : m.kind = 2) (hmt : m.term = n.term) (hm : MsgInv g m) : Op x g (n.askVote m) := by
  unfold Node.askVote
  simp only
  have hsend : ∀ {g1 : G} {n1 : Md.Node} {yes : Bool}, NodeInv g1 x n1 → g.B ≤ g1.B → (yes = true → g1.vt n.term x m.frm ∨ g1.lead n.term = some m.frm) → NodeInv g1 x (n1.send ⟨3, 0, m.frm, n.term, 0, 0, 0, yes, [], []⟩) := fun hn1 hB hy =>
    hn1.send (plain_msg (k := 3) hn1 (by decide) (Nat.le_succ_of_le (Nat.le_trans h.tb hB)) (Nat.zero_le _) hm.frm1.1 (fun hh => by cases hh) (fun _ => hy) (fun hh => by rcases hh with hh | hh <;> cases hh))
  generalize hy : ((decide (n.vote = 0) || decide (n.vote = m.frm)) && decide (n.role ≠ 3) && n.younger m) = yes
  cases yes with
  | false =>
    simp only [Bool.false_eq_true, if_false]
    exact Op.same gi (hsend h (Nat.le_refl _) fun hh => by cases hh)
  | true =>
    simp only [if_true]
    simp only [Bool.and_eq_true, Bool.or_eq_true, decide_eq_true_eq] at hy
    obtain ⟨⟨hv, hr⟩, hyo⟩ := hy
    have hf := hm.frm1
    by_cases hvm : n.vote = m.frm
    · have hn1 : NodeInv g x { n with vote := m.frm, since := 0 } := by
        have : ({ n with vote := m.frm, since := 0 } : Md.Node) = { n with since := 0 } := by rw [← hvm]
        rw [this]; exact h.since (Nat.zero_le _)
      refine Op.same gi (hsend hn1 (Nat.le_refl _) fun _ => ?_)
      rw [← hvm]; exact h.vt2 (by omega)
    · have hv0 : n.vote = 0 := hv.resolve_right hvm
      have hnv : ∀ y, ¬ g.vt n.term x y := fun y hh => by
        obtain ⟨_, h2, h3⟩ := h.vt1 _ _ hh
        exact h3 ((h2 rfl).symm.trans hv0)
      by_cases hl : g.lead n.term = some m.frm
      · have hn1 : NodeInv g x { n with vote := m.frm, since := 0 } :=
          { h with sb := Nat.zero_le _, vt1 := fun T y hh => ⟨(h.vt1 T y hh).1, fun ht => by rw [ht] at hh; exact absurd hh (hnv y), (h.vt1 T y hh).2.2⟩, vt2 := fun _ => .inr hl, vt3 := hf.2 }
        exact Op.same gi (hsend hn1 (Nat.le_refl _) fun _ => .inr hl)
      · obtain ⟨A, hA, hi, hlt⟩ := hm.ask hk
        rw [hmt] at hA
        have hyo2 : Sf.lastT (g.full x) < Sf.lastT A ∨ (Sf.lastT A = Sf.lastT (g.full x) ∧ (g.full x).length ≤ A.length) := by
          unfold Node.younger at hyo
          rw [h.log.last, hi, hlt] at hyo
          simp only [Bool.or_eq_true, Bool.and_eq_true, decide_eq_true_eq, beq_iff_eq] at hyo
          exact hyo
        have gi1 := grant_inv gi h hv0 hA hl hyo2
        have e1 := grant_ext (g := g) (x := x) n.term m.frm
        have hn1 : NodeInv (g.grant n.term x m.frm) x { n with vote := m.frm, since := 0 } :=
          { h with
            sb := Nat.zero_le _
            vt1 := fun T y hh => by
              rcases hh with hh | ⟨rfl, _, rfl⟩
              · exact ⟨(h.vt1 T y hh).1, fun ht => by rw [ht] at hh; exact absurd hh (hnv y), (h.vt1 T y hh).2.2⟩
              · exact ⟨Nat.le_refl _, fun _ => rfl, by omega⟩
            vt2 := fun _ => .inl (.inr ⟨rfl, rfl, rfl⟩)
            vt3 := hf.2
            pl := fun hr => by
              obtain ⟨b, q1, q2, q3, q4⟩ := h.pl hr
              exact ⟨b, q1, q2, q3, fun hr2 y hy => .inl (q4 hr2 y hy)⟩
            out := fun m hm => ⟨(h.out m hm).1.ext e1, (h.out m hm).2⟩ }
        exact Op.then e1 (Op.same gi1 (hsend hn1 (Nat.le_refl _) fun _ => .inl (.inr ⟨rfl, rfl, rfl⟩)))

end
end Sf
end Go.Proofs.YtkoipeddfbeliaaGreat

/-
  Safety, in plain Lean: what a node's functions keep: entries and images that come, a step, what is proposed.
-/
namespace Go.Proofs.YtkoipeddfbeliaaGreat
namespace Sf
open Md

section
variable {g : G} {x : Nat} {n : Md.Node}

theorem Gd.lm (gi : GInv g) {A : List Ent} (hA : Gd g.tl A) (T : Nat) (k : Nat) (h1 : k < A.length) (h2 : k < (g.tl T).length) (h : termAt A (k + 1) = termAt (g.tl T) (k + 1)) : A.take (k + 1) = (g.tl T).take (k + 1) := by
  have hx := List.getElem?_eq_getElem h1
  have hy := List.getElem?_eq_getElem h2
  rw [termAt_some hx, termAt_some hy] at h
  rw [(hA.same gi hx).2.1, ((gi.tgd T).same gi hy).2.1, h]

/-- a node's log becomes another one that has what it had of the leader's -/
theorem keep_node (gi : GInv g) (h : NodeInv g x n) (hl : g.lead n.term ≠ none) {A : List Ent} {log' : Log} {img' : Img} {i cm' : Nat} (hr : n.role = 0) (hlog : LogIs log' A) (hA : A = g.full x ∨ ∃ k, A = (g.tl n.term).take k)
    (hi : i ≤ (g.tl n.term).length) (hiA : (g.tl n.term).take i <+: A) (hkeep : ∀ k, k ≤ (g.tl n.term).length → (g.tl n.term).take k <+: g.full x → (g.tl n.term).take k <+: A)
    (hbase : log'.base ≤ cm') (himg : img'.index = log'.base ∧ img'.term = log'.bterm ∧ img'.members = confL g.C0 (A.take log'.base)) (hcm : cm' = n.commit ∨ (cm' ≤ i ∧ CmOk g n.term cm')) :
    ∃ g', GInv g' ∧ Ext x g g' ∧ NodeInv g' x { n with log := log', img := img', commit := cm' } ∧ (∀ c, c ≤ i → g'.ack x n.term c) := by
  have gi1 := keep_inv (x := x) (T := n.term) (i := i) gi A (fun T' y hv => (h.vt1 T' y hv).1) hl hi
  have e1 := keep_ext (g := g) (x := x) n.term A i
  have hfull : (g.keep x n.term A i).full x = A := by show (if x = x then _ else _) = _; rw [if_pos rfl]
  have hgA : Gd g.tl A := by
    rcases hA with hA | ⟨k, hA⟩
    · rw [hA]; exact h.gd
    · rw [hA]; exact (gi.tgd n.term).pre (List.take_prefix _ _)
  obtain ⟨hc1, hc2⟩ := h.cmLead gi hl
  have hcA : (g.tl n.term).take n.commit <+: A := hkeep _ hc1 (by rw [← hc2]; exact List.take_prefix _ _)
  have hcl := hcA.length_le
  simp only [List.length_take] at hcl
  have hil := hiA.length_le
  simp only [List.length_take] at hil
  refine ⟨_, gi1, e1, { h with log := by rw [hfull]; exact hlog, base := hbase, img := by rw [hfull]; exact himg, gd := by rw [hfull]; exact hgA, tle := ?_, cm := by rw [hfull]; simp only; omega, cmo := ?_, ci := fun u c hack => ?_, r3 := fun hh => (by rw [hr] at hh; cases hh), r2 := fun hh => (by rw [hr] at hh; cases hh), pl := fun hh => (by rw [hr] at hh; rcases hh with hh | hh <;> cases hh), out := fun m hm => ⟨(h.out m hm).1.ext e1, (h.out m hm).2⟩ }, fun c hc => .inr ⟨rfl, rfl, hc⟩⟩
  · rw [hfull]
    rcases hA with hA | ⟨k, hA⟩
    · rw [hA]; exact h.tle
    · rw [hA]; exact fun e he => gi.tle (List.mem_of_mem_take he)
  · show cm' = 0 ∨ ∃ u c p, g.ev u c p ∧ u ≤ n.term ∧ cm' ≤ c ∧ ((g.keep x n.term A i).full x).take cm' = (g.tl u).take cm'
    rw [hfull]
    have go : ∀ k, k ≤ (g.tl n.term).length → (g.tl n.term).take k <+: A → (k = 0 ∨ ∃ u c p, g.ev u c p ∧ u ≤ n.term ∧ k ≤ c) → k = 0 ∨ ∃ u c p, g.ev u c p ∧ u ≤ n.term ∧ k ≤ c ∧ A.take k = (g.tl u).take k := by
      intro k hk hkA hh
      rcases hh with h0 | ⟨u, c, p, g1, g2, g3⟩
      · exact .inl h0
      · refine .inr ⟨u, c, p, g1, g2, g3, ?_⟩
        have h5 := take_pre hkA (i := k) (by simp; omega)
        rw [h5, List.take_take, Nat.min_self]
        exact (ev_lead gi hl g1 g2 g3).2
    rcases hcm with rfl | ⟨k1, k2⟩
    · exact go _ hc1 hcA (h.cmo.imp (fun hh => hh) fun ⟨u, c, p, g1, g2, g3, _⟩ => ⟨u, c, p, g1, g2, g3⟩)
    · exact go _ (by omega) ((take_mono k1).trans hiA) k2
  · rcases hack with hack | ⟨_, rfl, hc⟩
    · obtain ⟨q1, q2⟩ := h.ci u c hack
      obtain ⟨ql, hc⟩ := gi.ackb x u c hack
      refine ⟨q1, fun hh => ?_⟩
      rw [hfull]
      show (g.tl u).take c <+: A
      have h5 := q2 hh
      rcases Nat.lt_or_ge u n.term with hlt | hge
      · have h6 := (hh n.term hlt (Nat.le_refl _) hl).trans (gi.elp n.term)
        have h6 : (g.tl u).take c <+: g.tl n.term := h6
        have hlen := h6.length_le
        simp only [List.length_take] at hlen
        have h7 : (g.tl n.term).take c = (g.tl u).take c := by
          rw [take_pre h6 (i := c) (by simp; omega), List.take_take, Nat.min_self]
        rw [← h7]
        exact hkeep c (by omega) (by rw [h7]; exact h5)
      · have : u = n.term := by omega
        subst this
        exact hkeep c hc h5
    · refine ⟨Nat.le_refl _, fun _ => ?_⟩
      rw [hfull]
      exact (take_mono hc).trans hiA

/-- that a node has what is committed is told -/
theorem tell_inv (gi : GInv g) (h : NodeInv g x n) {k : Nat} {m : Msg} {yes : Bool} {i : Nat} (hk : k = 5 ∨ k = 7) (hf : 1 ≤ m.frm) (hi : i ≤ g.B) (ha : yes = true → i = 0 ∨ g.ack x n.term i) : Op x g (n.tell k m yes i) := by
  unfold Node.tell
  refine Op.same gi (h.send ?_)
  rcases hk with rfl | rfl
  · exact plain_msg (k := 5) h (by decide) (Nat.le_succ_of_le h.tb) hi hf (fun hh => by cases hh) (fun hh => by cases hh) (fun _ => ha)
  · exact plain_msg (k := 7) h (by decide) (Nat.le_succ_of_le h.tb) hi hf (fun hh => by cases hh) (fun hh => by cases hh) (fun _ => ha)

theorem append_inv (gi : GInv g) (h : NodeInv g x n) {m : Msg} (hk : m.kind = 4) (hmt : m.term = n.term) (hm : MsgInv g m) : Op x g (n.append m) := by
  obtain ⟨a1, a2, a3, a4, a5⟩ := hm.app hk
  rw [hmt] at a1 a2 a3 a4 a5
  unfold Node.append
  rw [Rx.follow_same]
  have hn0 : NodeInv g x { n with role := 0, leader := m.frm, poll := none, track := none, since := 0 } :=
    { h with sb := Nat.zero_le _, ldx := fun T hl => ⟨(h.ldx T hl).1, fun _ hh => (by cases hh)⟩, rl := Nat.zero_le _, r3 := fun hh => (by cases hh), nt := fun _ => rfl, r2 := fun hh => (by cases hh), pl := fun hh => (by rcases hh with hh | hh <;> cases hh), np := fun _ => rfl }
  have hbl := gi.bnd n.term
  obtain ⟨hc1, hc2⟩ := h.cmLead gi a1
  simp only
  split
  · obtain ⟨g1, gi1, e1, hn1, hack⟩ := keep_node gi hn0 a1 (A := g.full x) (log' := n.log) (img' := n.img) (i := n.commit) (cm' := n.commit) rfl h.log (.inl rfl) hc1 (by show List.take n.commit (g.tl n.term) <+: _; rw [← hc2]; exact List.take_prefix _ _) (fun _ _ hh => hh) h.base h.img (.inl rfl)
    exact Op.then e1 (tell_inv gi1 hn1 (.inl rfl) hm.frm1.1 (Nat.le_trans (Nat.le_trans hc1 hbl) (Nat.le_of_eq e1.B.symm)) fun _ => .inr (hack _ (Nat.le_refl _)))
  · cases hput : n.log.put m.index m.logTerm m.ents with
    | none =>
      simp only
      refine tell_inv gi hn0 (.inl rfl) hm.frm1.1 ?_ fun hh => by cases hh
      have := hm.ib; omega
    | some gc =>
      obtain ⟨log', c⟩ := gc
      simp only
      obtain ⟨A, k1, k2, k3, k4, k5, k6⟩ := h.log.put hput a3 a2 a4 (gi.idx n.term) (h.gd.lm gi n.term)
      refine Exists.elim (keep_node gi hn0 a1 (A := A) (log' := log') (img' := n.img) (i := m.index + m.ents.length) (cm' := max n.commit (min m.commit (m.index + m.ents.length))) rfl k1
        (k5.imp (fun hh => hh) fun hh => ⟨_, hh⟩) a2 k4 k6 (by have := h.base; simp only [k2]; omega) ?_ ?_) fun g1 ⟨gi1, e1, hn1, hack⟩ => Op.then e1 (tell_inv gi1 hn1 (.inl rfl) hm.frm1.1 (Nat.le_trans (Nat.le_trans a2 hbl) (Nat.le_of_eq e1.B.symm)) fun _ => .inr (hack _ (Nat.le_refl _)))
      · simp only [k2, k3]
        refine ⟨h.img.1, h.img.2.1, ?_⟩
        have hb := h.base
        have hbl := h.log.base
        have h5 := k6 n.commit hc1 (by rw [← hc2]; exact List.take_prefix _ _)
        have h6 := take_pre h5 (i := n.log.base) (by simp; omega)
        rw [h.img.2.2, h6, ← hc2, List.take_take, Nat.min_eq_left hb]
      · rcases Nat.le_total (min m.commit (m.index + m.ents.length)) n.commit with hle | hle
        · left; simp only; omega
        · right
          refine ⟨by omega, ?_⟩
          rw [Nat.max_eq_right hle]
          rcases a5 with h0 | ⟨u, c, p, g1, g2, g3⟩
          · exact .inl (by omega)
          · exact .inr ⟨u, c, p, g1, g2, by omega⟩

theorem install_inv (gi : GInv g) (h : NodeInv g x n) {m : Msg} (hk : m.kind = 6) (hmt : m.term = n.term) (hm : MsgInv g m) : Op x g (n.install m) := by
  obtain ⟨a1, a2, a3, a4, a5⟩ := hm.inst hk
  rw [hmt] at a1 a2 a3 a4 a5
  unfold Node.install
  rw [Rx.follow_same]
  have hn0 : NodeInv g x { n with role := 0, leader := m.frm, poll := none, track := none, since := 0 } :=
    { h with sb := Nat.zero_le _, ldx := fun T hl => ⟨(h.ldx T hl).1, fun _ hh => (by cases hh)⟩, rl := Nat.zero_le _, r3 := fun hh => (by cases hh), nt := fun _ => rfl, r2 := fun hh => (by cases hh), pl := fun hh => (by rcases hh with hh | hh <;> cases hh), np := fun _ => rfl }
  have hbl := gi.bnd n.term
  obtain ⟨hc1, hc2⟩ := h.cmLead gi a1
  simp only
  split
  · obtain ⟨g1, gi1, e1, hn1, hack⟩ := keep_node gi hn0 a1 (A := g.full x) (log' := n.log) (img' := n.img) (i := n.commit) (cm' := n.commit) rfl h.log (.inl rfl) hc1 (by show List.take n.commit (g.tl n.term) <+: _; rw [← hc2]; exact List.take_prefix _ _) (fun _ _ hh => hh) h.base h.img (.inl rfl)
    exact Op.then e1 (tell_inv gi1 hn1 (.inr rfl) hm.frm1.1 (Nat.le_trans (Nat.le_trans hc1 hbl) (Nat.le_of_eq e1.B.symm)) fun _ => .inr (hack _ (Nat.le_refl _)))
  · rename_i hgt
    have hb := h.base
    have hti := h.log.term m.index
    by_cases hyes : n.log.term m.index = some m.logTerm
    · rw [if_pos hyes]
      rw [hyes] at hti
      have hlen : m.index ≤ (g.full x).length := by
        split at hti
        · cases hti
        · omega
      rw [if_neg (by omega)] at hti
      have hta : termAt (g.full x) m.index = termAt (g.tl n.term) m.index := by rw [← a3]; exact (Option.some.inj hti).symm
      have hpre : (g.full x).take m.index = (g.tl n.term).take m.index := by
        have hpos : m.index = (m.index - 1) + 1 := by omega
        rw [hpos] at hta ⊢
        exact h.gd.lm gi n.term _ (by omega) (by omega) hta
      obtain ⟨k1, k2, k3⟩ := h.log.cut (i := m.index) (by omega) hlen
      obtain ⟨g1, gi1, e1, hn1, hack⟩ := keep_node gi hn0 a1 (A := g.full x) (log' := n.log.cut m.index) (img' := ⟨m.index, m.logTerm, m.members⟩) (i := m.index) (cm' := m.index) rfl k1 (.inl rfl) a2
        (by show List.take m.index (g.tl n.term) <+: _; rw [← hpre]; exact List.take_prefix _ _) (fun _ _ hh => hh) (by rw [k2]; exact Nat.le_refl _) (by rw [k2, k3]; exact ⟨rfl, by simp only; rw [a3, hta], by simp only; rw [a4, hpre]⟩) (.inr ⟨Nat.le_refl _, a5⟩)
      exact Op.then e1 (tell_inv gi1 hn1 (.inr rfl) hm.frm1.1 (Nat.le_trans (Nat.le_trans a2 hbl) (Nat.le_of_eq e1.B.symm)) fun _ => .inr (hack _ (Nat.le_refl _)))
    · rw [if_neg hyes]
      have k1 := LogIs.new (A := g.tl n.term) (i := m.index) (t := m.logTerm) a2 a3 (gi.idx n.term)
      refine Exists.elim (keep_node gi hn0 a1 (A := (g.tl n.term).take m.index) (log' := Log.new m.index m.logTerm) (img' := ⟨m.index, m.logTerm, m.members⟩) (i := m.index) (cm' := m.index) rfl k1 (.inr ⟨_, rfl⟩) a2
        (List.prefix_refl _) (fun k hk hkp => ?_) (Nat.le_refl _) (by simp only [Log.new]; exact ⟨trivial, trivial, by rw [a4, List.take_take, Nat.min_self]⟩) (.inr ⟨Nat.le_refl _, a5⟩)) fun g1 ⟨gi1, e1, hn1, hack⟩ => Op.then e1 (tell_inv gi1 hn1 (.inr rfl) hm.frm1.1 (Nat.le_trans (Nat.le_trans a2 hbl) (Nat.le_of_eq e1.B.symm)) fun _ => .inr (hack _ (Nat.le_refl _)))
      · have hk : k ≤ (g.tl n.term).length := hk
        have hkp : (g.tl n.term).take k <+: g.full x := hkp
        show (g.tl n.term).take k <+: (g.tl n.term).take m.index
        refine take_mono (Nat.le_of_not_lt fun hlt => hyes ?_)
        have hlen := hkp.length_le
        simp only [List.length_take] at hlen
        have h7 := termAt_pre hkp (i := m.index) (by simp; omega)
        have h8 := termAt_pre (List.take_prefix k (g.tl n.term)) (i := m.index) (by simp; omega)
        rw [h.log.term, if_neg (by omega), a3, h7, h8]

theorem told_inv (gi : GInv g) (h : NodeInv g x n) {m : Msg} (hk : m.yes = true → m.kind = 5 ∨ m.kind = 7) (hmt : m.term = n.term) (hm : MsgInv g m) : Op x g (n.told m) := by
  unfold Node.told
  simp only
  split
  · exact Op.same gi h
  · rename_i hr
    have hr : n.role = 3 := Decidable.byContradiction hr
    obtain ⟨h1, h2, h3, h6, t, h4, h5⟩ := h.r3 hr
    have hgd : n.track.getD [] = t := by rw [h4]; rfl
    rw [hgd]
    have hget : ∀ {y : Nat} {p : Nat × Nat}, t.get y = some p → p.1 < p.2 ∧ p.2 ≤ (g.full x).length + 1 ∧ (p.1 = 0 ∨ g.ack y n.term p.1) := fun {y p} hg => by
      unfold Track.get at hg
      cases hf : t.find? (·.1 == y) with
      | none => rw [hf] at hg; cases hg
      | some q =>
        rw [hf] at hg
        have hq := h5 q (List.mem_of_find?_eq_some hf)
        have hqy : q.1 = y := by have := List.find?_some hf; simpa using this
        simp at hg; rw [← hg, ← hqy]; exact hq
    have hset : ∀ (y : Nat) (p : Nat × Nat), p.1 < p.2 ∧ p.2 ≤ (g.full x).length + 1 ∧ (p.1 = 0 ∨ g.ack y n.term p.1) → NodeInv g x { n with track := some (t.set y p) } := fun y p hp =>
      { h with
        nt := fun hh => absurd hr hh
        r3 := fun _ => ⟨h1, h2, h3, h6, _, rfl, fun q hq => by
          unfold Track.set at hq
          obtain ⟨q', hq', rfl⟩ := List.mem_map.1 hq
          split
          · exact hp
          · exact h5 q' hq'⟩ }
    have hself : NodeInv g x { n with track := some t } := by rw [← h4]; exact h
    split
    · have hn1 : NodeInv g x { n with track := some (t.no m.frm m.index) } := by
        unfold Track.no
        split
        · rename_i hh
          obtain ⟨p, hp⟩ := Option.isSome_iff_exists.1 hh
          have hq := hget hp
          have e1 : t.next m.frm = p.2 := by simp [Track.next, hp]
          have e2 : t.mat m.frm = p.1 := by simp [Track.mat, hp]
          simp only
          split
          · exact hself
          · exact hset _ _ ⟨by simp only; omega, by simp only; omega, by simp only [e2]; exact hq.2.2⟩
        · exact hself
      split
      · exact Op.same gi (to_inv gi hn1 hr hm.frm1.1)
      · exact Op.same gi hn1
    · rename_i hy
      have hy : m.yes = true := by simpa using hy
      split
      · exact Op.same gi h
      · rename_i hle
        rw [h.log.last] at hle ⊢
        simp only at hle ⊢
        cases hyy : t.yes m.frm m.index with
        | none => exact Op.same gi h
        | some t' =>
          simp only
          have hn1 : NodeInv g x { n with track := some t' } := by
            unfold Track.yes at hyy
            split at hyy
            · rename_i hh
              rw [← Option.some.inj hyy]
              obtain ⟨p, hp⟩ := Option.isSome_iff_exists.1 hh.1
              have hq := hget hp
              have e1 : t.next m.frm = p.2 := by simp [Track.next, hp]
              refine hset _ _ ⟨by simp only; omega, by simp only; omega, ?_⟩
              have := hm.told (hk hy) hy
              rw [hmt] at this; exact this
            · cases hyy
          split
          · have hn2 := to_inv gi hn1 hr hm.frm1.1
            exact agree_inv gi hn2 (by rw [Rx.to_eq]; exact hr)
          · exact agree_inv gi hn1 hr

theorem act_inv (gi : GInv g) (h : NodeInv g x n) {m : Msg} (hk : m.kind ≠ 0 ∧ m.kind ≠ 1 ∧ m.kind < 8) (hmt : m.term = n.term) (hto : m.to = x) (hm : MsgInv g m) (hb : ∀ T, (g.tl T).length + 1 ≤ g.B) : Op x g (n.act m) := by
  unfold Node.act
  split
  · rename_i h2; exact askVote_inv gi h h2 hmt hm
  · split
    · rename_i h3; exact tellVote_inv gi h h3 hmt hto hm hb
    · split
      · exact Op.same gi h
      · split
        · rename_i h4; exact append_inv gi h h4 hmt hm
        · split
          · rename_i h6; exact install_inv gi h h6 hmt hm
          · exact told_inv gi h (fun _ => by omega) hmt hm

theorem step_inv (gi : GInv g) (h : NodeInv g x n) {m : Msg} (hm : MsgInv g m) (ht : n.term + 1 ≤ g.B) (hmt : m.term ≤ g.B) (hb : ∀ T, (g.tl T).length + 1 ≤ g.B) : Op x g (n.step m) := by
  unfold Node.step
  split
  · exact Op.same gi h
  · rename_i hr
    have hr : n.right m = true := by simpa using hr
    have hrr : ¬ (m.to ≠ n.id ∨ m.frm = n.id ∨ m.frm < 1 ∨ 7 < m.frm ∨ 8 ≤ m.kind ∨ far < m.term) := fun hh => by
      unfold Node.right at hr; rw [if_pos hh] at hr; cases hr
    have hto : m.to = x := by rw [← h.id]; exact Decidable.byContradiction fun hh => hrr (.inl hh)
    split
    · exact askPre_inv gi h hm
    · split
      · exact tellPre_inv gi h ht hmt hb
      · rename_i h0 h1
        have hk : m.kind ≠ 0 ∧ m.kind ≠ 1 ∧ m.kind < 8 := ⟨h0, h1, by omega⟩
        split
        · rename_i hlt
          have hn1 := follow_inv h (t := m.term) (l := 0) hmt
          have hft : (n.follow m.term 0).term = m.term := by unfold Node.follow; rw [if_pos hlt]
          exact act_inv gi hn1 hk hft.symm hto hm hb
        · split
          · split
            · exact tell_inv gi h (.inl rfl) hm.frm1.1 (Nat.zero_le _) fun hh => by cases hh
            · exact Op.same gi h
          · exact act_inv gi h hk (by omega) hto hm hb

theorem propose_inv (gi : GInv g) (h : NodeInv g x n) (hb : ∀ T, (g.tl T).length + 1 ≤ g.B) (data : List UInt8) : Op x g (n.propose data).1 := by
  unfold Node.propose
  split
  · exact Op.same gi h
  · rename_i hr
    exact add_inv gi h (Decidable.byContradiction hr) (hb _) fun hh => by cases hh

theorem change_inv (gi : GInv g) (h : NodeInv g x n) (hb : ∀ T, (g.tl T).length + 1 ≤ g.B) (l : List Nat) : Op x g (n.change l) := by
  unfold Node.change
  split
  · exact Op.same gi h
  · rename_i hr
    have hr : n.role = 3 := Decidable.byContradiction hr
    split
    · exact Op.same gi h
    · rename_i hs
      have hs : Node.confStep n.members l = true := by simpa using hs
      split
      · exact Op.same gi h
      · rename_i hc
        obtain ⟨h1, h2, h3, h6, t, h4, h5⟩ := h.r3 hr
        have hgl : goodM l := (confStep_spec hs).2.1
        have hdec : dec (Node.encM l) = l := Rx.dec_enc hgl
        refine add_inv gi h hr (hb _) fun _ => ⟨⟨l, hgl, rfl⟩, by rw [hdec, ← h.members]; exact hs, ?_⟩
        have hcl := h.cm
        have hct : n.log.termD n.commit = n.term := Decidable.byContradiction fun hh => hc (.inr hh)
        rw [h.log.termD h.base hcl] at hct
        have htm : n.term ≠ 0 := fun hh => by rw [hh, gi.lead0] at h1; cases h1
        have hcp : n.commit ≠ 0 := fun hh => by
          rw [hh] at hct; simp [termAt] at hct; omega
        rcases h.cmo with h0 | ⟨u, c, p, g1, g2, g3, g4⟩
        · exact absurd h0 hcp
        · -- the entry is of this term, so is what committed it
          have hlt : n.commit - 1 < (g.full x).length := by omega
          have hx := List.getElem?_eq_getElem hlt
          have hxt : ((g.full x)[n.commit - 1]).term = n.term := by
            have := termAt_some hx
            rw [show n.commit - 1 + 1 = n.commit by omega, hct] at this; exact this.symm
          have hxu : (g.tl u)[n.commit - 1]? = some (g.full x)[n.commit - 1] := by
            have := congrArg (·[n.commit - 1]?) g4
            simp only [List.getElem?_take, show n.commit - 1 < n.commit by omega, if_true] at this
            rw [← this]; exact hx
          have hle := gi.tle (List.mem_of_getElem? hxu)
          have hun : u = n.term := by omega
          subst hun
          have := h3 c p g1
          have hcc : c = n.commit := by omega
          subst hcc
          refine ⟨n.commit, p, g1, hcl, ?_⟩
          refine h.log.confAt (ms := n.img.members) h.base ?_
          exact Nat.le_of_not_lt fun hh => hc (.inl hh)

theorem compact_inv (gi : GInv g) (h : NodeInv g x n) (i : Nat) : Op x g (n.compact i) := by
  unfold Node.compact
  split
  · exact Op.same gi h
  · rename_i hc
    have hcm := h.cm
    have hb := h.base
    obtain ⟨k1, k2, k3⟩ := h.log.cut (i := i) (by omega) (by omega)
    refine Op.same gi { h with log := k1, base := by simp only [k2]; omega, img := ?_ }
    simp only [k2, k3]
    exact ⟨trivial, h.log.termD (by omega) (by omega), h.log.conf h.img.2.2 (by omega)⟩

theorem anew_inv (gi : GInv g) (h : NodeInv g x n) : Op x g n.anew := by
  unfold Node.anew
  have hb := h.base
  have hbl := h.log.base
  refine Op.same gi { h with log := ⟨?_, ?_, ?_, h.log.idx⟩, base := ?_, img := ?_, sb := Nat.zero_le _, cm := ?_, cmo := ?_, ldx := fun T hl => ⟨(h.ldx T hl).1, fun _ hh => (by cases hh)⟩, rl := Nat.zero_le _, r3 := fun hh => (by cases hh), nt := fun _ => rfl, r2 := fun hh => (by cases hh), pl := fun hh => (by rcases hh with hh | hh <;> cases hh), np := fun _ => rfl, out := fun m hm => (by cases hm) }
  · simp only; rw [h.img.1]; exact hbl
  · simp only; rw [h.img.1]; exact h.log.l
  · simp only; rw [h.img.1, h.img.2.1]; exact h.log.bterm
  · exact Nat.le_refl _
  · simp only; exact ⟨trivial, trivial, by rw [h.img.1]; exact h.img.2.2⟩
  · simp only; rw [h.img.1]; exact hbl
  · simp only; rw [h.img.1]
    rcases h.cmo with h0 | ⟨u, c, p, g1, g2, g3, g4⟩
    · exact .inl (by omega)
    · refine .inr ⟨u, c, p, g1, g2, by omega, ?_⟩
      have := congrArg (List.take n.log.base) g4
      rw [List.take_take, List.take_take, Nat.min_eq_left hb] at this
      exact this

end
end Sf
end Go.Proofs.YtkoipeddfbeliaaGreat

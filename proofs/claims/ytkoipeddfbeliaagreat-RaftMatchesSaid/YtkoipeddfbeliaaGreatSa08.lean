import Derived.Test.YtkoipeddfbeliaaGreatSa07
import Derived.Test.YtkoipeddfbeliaaGreatSa03
import Derived.Test.YtkoipeddfbeliaaGreatSa06
/-
  Tracks: these nodes from now on.
-/
namespace Go.Proofs.YtkoipeddfbeliaaGreat
namespace Rx
open Go.RowKit Md
set_option maxRecDepth 100000

/-- the entries that are left -/
def leftE (L : List MapEntry) (D : List Nat) : List MapEntry := L.filter fun e => !D.contains e.born

theorem leftE_map {L : List MapEntry} {D : List Nat} : (leftE L D).map (·.born) = (L.map (·.born)).filter fun b => !D.contains b := by
  unfold leftE
  rw [List.filter_map]; rfl

theorem erase_at {α : Type} {f : α → Nat} : ∀ {L : List α} {i : Nat} {e : α}, (L.map f).Nodup → L[i]? = some e → L.eraseIdx i = L.filter fun x => !(f x == f e)
  | [], i, e, _, h => by simp at h
  | y :: L, 0, e, nd, h => by
    simp at h; subst h
    simp only [List.map_cons, List.nodup_cons] at nd
    rw [List.eraseIdx_zero, List.tail_cons, List.filter_cons]
    simp only [beq_self_eq_true, Bool.not_true, Bool.false_eq_true, if_false]
    rw [eq_comm, List.filter_eq_self]
    intro x hx
    have : f x ≠ f y := fun hh => nd.1 (hh ▸ List.mem_map.2 ⟨x, hx, rfl⟩)
    simpa using this
  | y :: L, i + 1, e, nd, h => by
    simp only [List.map_cons, List.nodup_cons] at nd
    have hi : L[i]? = some e := by simpa using h
    have hne : f y ≠ f e := fun hh => nd.1 (hh ▸ List.mem_map.2 ⟨e, List.mem_of_getElem? hi, rfl⟩)
    rw [List.eraseIdx_cons_succ, erase_at nd.2 hi, List.filter_cons]
    have : (f y == f e) = false := by simpa using hne
    simp [this]

theorem leftE_cons {L : List MapEntry} {D : List Nat} {b : Nat} : leftE L (b :: D) = (leftE L D).filter fun e => !(e.born == b) := by
  unfold leftE
  rw [List.filter_filter]
  apply List.filter_congr
  intro x _
  simp only [List.contains_cons, Bool.not_or]

def kn (e : MapEntry) : Nat := match e.key with | .int _ n => n.toNat | _ => 0

/-- the first loop of Follow: those that are not such are taken out -/
structure Thin (w0 w : World) (b mb r : Nat) (L : List MapEntry) (clock : Nat) (nodes : List Nat) (S : Array Nat) (D : List Nat) : Prop where
  blk : Blk w b #[.map (some mb)] 140
  step : Step [b, mb] [b, mb] w0 w
  it : w.heap[r]? = some (.mapIter (some mb) clock S clock)
  m : ∃ es, w.heap[mb]? = some (.map es clock) ∧ es.toList = leftE L D
  gone : ∀ e ∈ L, D.contains e.born = true → kn e ∉ nodes
  seen : ∀ e ∈ L, S.contains e.born = true → D.contains e.born = true ∨ kn e ∈ nodes

theorem leftE_all {L : List MapEntry} {D : List Nat} {S : Array Nat} {nodes : List Nat} (gone : ∀ e ∈ L, D.contains e.born = true → kn e ∉ nodes) (seen : ∀ e ∈ L, S.contains e.born = true → D.contains e.born = true ∨ kn e ∈ nodes)
    (hall : ∀ e ∈ leftE L D, S.contains e.born = true) : leftE L D = L.filter fun e => decide (kn e ∈ nodes) := by
  unfold leftE at *
  apply List.filter_congr
  intro e he
  cases hd : D.contains e.born with
  | true => simp [gone e he hd]
  | false =>
    have hin : e ∈ L.filter fun e => !D.contains e.born := List.mem_filter.2 ⟨he, by rw [hd]; rfl⟩
    rcases seen e he (hall e hin) with h | h
    · rw [hd] at h; cases h
    · simp [h]

theorem filter_lt {α : Type} {L : List α} {p q : α → Bool} (hpq : ∀ x ∈ L, p x = true → q x = true) {e : α} (he : e ∈ L) (hq : q e = true) (hp : p e = false) : (L.filter p).length < (L.filter q).length := by
  induction L with
  | nil => simp at he
  | cons y L ih =>
    have hle : (L.filter p).length ≤ (L.filter q).length := by
      rw [← List.countP_eq_length_filter, ← List.countP_eq_length_filter]
      exact List.countP_mono_left fun x hx => hpq x (List.mem_cons_of_mem _ hx)
    rcases List.mem_cons.1 he with rfl | he
    · simp only [List.filter_cons, hp, hq]; simp; omega
    · have := ih (fun x hx => hpq x (List.mem_cons_of_mem _ hx)) he
      have h1 := hpq y (by simp)
      simp only [List.filter_cons]
      cases hpy : p y
      · cases q y <;> simp <;> omega
      · rw [h1 hpy]; simp; omega

/-- one round of an iteration over a map that only loses what is seen -/
theorem vnext_mk {w : World} {r m clock : Nat} {S : Array Nat} {es : Array MapEntry} {F : Bool → List Value → World → Prop} (h1 : w.heap[r]? = some (.mapIter (some m) clock S clock)) (h2 : w.heap[m]? = some (.map es clock)) (hlt : ∀ e ∈ es.toList, e.born < clock)
    (hnd : (es.toList.map (·.born)).Nodup)
    (hend : (∀ e ∈ es.toList, S.contains e.born = true) → ∀ w', Ex w w' → w'.heap = w.heap → F false [] w')
    (hgo : ∀ e ∈ es.toList, S.contains e.born = false → es.find? (fun x => x.born == e.born) = some e → ∀ w', w'.heap[r]? = some (.mapIter (some m) clock (S.push e.born) clock) → Fr [r] w w' → (∀ k, k ≠ r → w'.heap[k]? = w.heap[k]?) → F true [e.key, e.val] w') :
    vnext w (.pointer (some ⟨r, 0, none⟩)) F := by
  refine ⟨r, none, m, clock, S, clock, es, clock, rfl, h1, h2, ?_, ?_⟩
  · rw [Bool.and_eq_false_iff]
    by_cases h0 : es.isEmpty
    · left; simp [h0]
    · right
      rw [Bool.eq_false_iff]
      intro hall
      have hne : es.toList ≠ [] := by intro hh; apply h0; simp_all
      obtain ⟨e, he⟩ := List.exists_mem_of_ne_nil _ hne
      have := hlt e he
      have h5 := (Array.all_eq_true'.1 hall) e (by simpa using he)
      simp at h5
      omega
  · intro c hc w3 hw3
    have e3 : Ex w w3 := hw3.elim (fun hh => hh ▸ Ex.refl _) (fun hh => hh ▸ Ex.drew _)
    have hheap : w3.heap = w.heap := hw3.elim (fun hh => hh ▸ rfl) (fun hh => hh ▸ rfl)
    have hold : (es.filter fun e => !S.contains e.born).filter (fun e => decide (e.born < clock)) = es.filter fun e => !S.contains e.born := by
      rw [Array.filter_eq_self]
      intro x hx
      have := hlt x (by simpa using (Array.mem_filter.1 hx).1)
      simpa using this
    have hnew : (es.filter fun e => !S.contains e.born).filter (fun e => decide (e.born ≥ clock)) = #[] := by
      rw [Array.filter_eq_empty_iff]
      intro x hx
      have := hlt x (by simpa using (Array.mem_filter.1 hx).1)
      simp; omega
    have hrlt : r < w3.heap.size := by
      rw [hheap]; exact (Array.getElem?_eq_some_iff.1 h1).1
    unfold candidates at hc
    simp only [hold, hnew] at hc
    cases c with
    | none =>
      have hem : (es.filter fun e => !S.contains e.born).isEmpty = true := by
        cases hh : (es.filter fun e => !S.contains e.born).isEmpty with
        | true => rfl
        | false => rw [hh] at hc; simp at hc
      refine hend (fun x hx => ?_) w3 e3 hheap
      have h0 : (es.filter fun e => !S.contains e.born) = #[] := by simpa using hem
      rw [Array.filter_eq_empty_iff] at h0
      have := h0 x (by simpa using hx)
      simpa using this
    | some e =>
      have hin : e ∈ es.filter fun e => !S.contains e.born := by
        rw [Array.toList_append, List.mem_append] at hc
        rcases hc with hc | hc
        · split at hc <;> simp at hc
        · simpa using hc
      obtain ⟨hem, hes⟩ := Array.mem_filter.1 hin
      have hes' : S.contains e.born = false := by simpa using hes
      have hel : e ∈ es.toList := by simpa using hem
      have hfind : es.find? (fun x => x.born == e.born) = some e := by
        cases hf : es.find? (fun x => x.born == e.born) with
        | none =>
          have := Array.find?_eq_none.1 hf e hem
          simp at this
        | some e' =>
          have h1 := Array.find?_some hf
          have h2 := Array.mem_of_find?_eq_some hf
          simp only [beq_iff_eq] at h1
          have h2' : e' ∈ es.toList := by simpa using h2
          congr 1
          obtain ⟨i, hi, rfl⟩ := List.mem_iff_getElem.1 h2'
          obtain ⟨j, hj, rfl⟩ := List.mem_iff_getElem.1 hel
          have := (List.getElem_inj (i := i) (j := j) (h₀ := by simpa using hi) (h₁ := by simpa using hj) hnd).1 (by simpa using h1)
          subst this; rfl
      refine vput_mk (K := fun w' => F true [e.key, e.val] w') hrlt fun w4 k1 k2 k3 k4 => ?_
      refine hgo e hel hes' hfind w4 k1 ?_ fun k hk => (k3 k hk).trans (by rw [hheap])
      exact ⟨by rw [← hheap]; exact k2.size, k2.os.trans e3.os, fun k hk hkr => (k3 k (by simpa using hkr)).trans (by rw [hheap])⟩

theorem ventry_mk {w : World} {r m clock since : Nat} {S : Array Nat} {es : Array MapEntry} {e : MapEntry} {F : Value → Value → Prop} (h1 : w.heap[r]? = some (.mapIter (some m) since (S.push e.born) clock)) (h2 : w.heap[m]? = some (.map es clock))
    (hf : es.find? (fun x => x.born == e.born) = some e) (hF : F e.key e.val) : ventry w (.pointer (some ⟨r, 0, none⟩)) F :=
  ⟨r, none, m, since, S.push e.born, clock, es, clock, rfl, h1, h2, e.born, e, back_push _ _, rfl, hf, hF⟩

end Rx
end Go.Proofs.YtkoipeddfbeliaaGreat

/-
  Tracks: Follow, New.
-/
namespace Go.Proofs.YtkoipeddfbeliaaGreat
namespace Rx
open Go.RowKit Md
set_option maxRecDepth 100000

def unseen (L : List MapEntry) (S : Array Nat) : Nat := (L.filter fun e => !S.contains e.born).length
def left76 (L : List MapEntry) (r : Nat) (w : World) : Nat := match w.heap[r]? with | some (.mapIter _ _ S _) => unseen L S | _ => 0

theorem unseen_push {L : List MapEntry} {S : Array Nat} {e : MapEntry} (he : e ∈ L) (hs : S.contains e.born = false) : unseen L (S.push e.born) < unseen L S := by
  refine filter_lt (fun x _ hx => ?_) he (by rw [hs]; rfl) (by rw [contains_push]; simp)
  rw [contains_push] at hx
  cases hc : S.contains x.born with
  | false => rfl
  | true => rw [hc] at hx; simp at hx

section
variable {w : World} {b mb : Nat} {t : Track}

/-- what the entries are -/
theorem keys_kn {L : List MapEntry} (h : L.map (fun e => (e.key, e.val)) = (tl t).map (fun p => (iv p.1, p.2))) : (∀ e ∈ L, e.key = iv (kn e)) ∧ L.map kn = t.map (·.1) ∧ L.map (fun e => (kn e, e.val)) = tl t := by
  have hkn : ∀ e n, e.key = iv n → kn e = n := by intro e n h; simp [kn, h, iv]
  refine ⟨fun e he => ?_, ?_, ?_⟩
  · have : (e.key, e.val) ∈ (tl t).map (fun p => (iv p.1, p.2)) := by rw [← h]; exact List.mem_map.2 ⟨e, he, rfl⟩
    obtain ⟨p, _, hp⟩ := List.mem_map.1 this
    simp only [Prod.mk.injEq] at hp
    rw [hkn e p.1 hp.1.symm]; exact hp.1.symm
  · have h2 := congrArg (List.map fun q : Value × Value => match q.1 with | .int _ n => n.toNat | _ => 0) h
    simp only [List.map_map, tl] at h2
    exact h2.trans (by simp [Function.comp_def, iv])
  · have h2 := congrArg (List.map fun q : Value × Value => ((match q.1 with | .int _ n => n.toNat | _ => 0 : Nat), q.2)) h
    simp only [List.map_map, tl] at h2
    exact h2.trans (by simp [Function.comp_def, iv, tl])

theorem thin_cut {L : List MapEntry} {D : List Nat} {es : Array MapEntry} {e : MapEntry} (hk : ∀ e ∈ L, e.key = iv (kn e)) (hkd : (L.map kn).Nodup) (hbd : (L.map (·.born)).Nodup) (hes : es.toList = leftE L D) (he : e ∈ es.toList) :
    ∃ r, Instr.findNow (.int .i64) e.key es.toList 0 = some r ∧ ∃ es', (∀ clock, mapCut es clock r = .map es' clock) ∧ es'.toList = leftE L (e.born :: D) := by
  have hsub : ∀ x ∈ es.toList, x ∈ L := fun x hx => by rw [hes] at hx; exact (List.mem_filter.1 hx).1
  have hkn : es.toList.map (fun e => (e.key, e.val)) = (es.toList.map fun e => (kn e, e.val)).map fun p => (iv p.1, p.2) := by
    rw [List.map_map]
    apply List.map_congr_left
    intro x hx
    simp [hk x (hsub x hx)]
  have hf := findNow_first (kn e) _ es.toList 0 hkn
  rw [← hk e (hsub e he)] at hf
  have hkd' : (es.toList.map kn).Nodup := by rw [hes]; exact (List.filter_sublist.map _).nodup hkd
  have hbd' : (es.toList.map (·.born)).Nodup := by rw [hes]; exact (List.filter_sublist.map _).nodup hbd
  cases hfi : first (es.toList.map fun e => (kn e, e.val)) (kn e) with
  | none =>
    exact absurd rfl (first_none hfi (kn e, e.val) (List.mem_map.2 ⟨e, he, rfl⟩))
  | some q =>
    obtain ⟨i, v⟩ := q
    rw [hfi] at hf
    refine ⟨_, hf, es.eraseIdxIfInBounds i, fun clock => by simp [mapCut], ?_⟩
    obtain ⟨f1, _⟩ := first_some hfi
    rw [List.getElem?_map] at f1
    cases hx : es.toList[i]? with
    | none => rw [hx] at f1; simp at f1
    | some x =>
      rw [hx] at f1
      simp only [Option.map_some, Option.some.injEq, Prod.mk.injEq] at f1
      have hxe : x = e := by
        obtain ⟨j, hj, rfl⟩ := List.mem_iff_getElem.1 he
        obtain ⟨hi, rfl⟩ := List.getElem?_eq_some_iff.1 hx
        have := (List.getElem_inj (i := i) (j := j) (h₀ := by simpa using hi) (h₁ := by simpa using hj) hkd').1 (by simpa using f1.1)
        subst this; rfl
      subst hxe
      rw [leftE_cons, ← hes]
      have : (es.eraseIdxIfInBounds i).toList = es.toList.eraseIdx i := by simp
      rw [this]
      exact erase_at hbd' hx

/-- marks for those that have none -/
def grow76 (t : Track) (nodes : List Nat) (last : Nat) : Track := nodes.foldl (fun (t : Track) n => if t.has n then t else t ++ [(n, 0, last + 1)]) t

theorem has_mem (t : Track) (x : Nat) : t.has x = true ↔ x ∈ t.map (·.1) := by
  rcases first_tl t x with ⟨h1, h2⟩ | ⟨i, m, h1, h2, h3⟩
  · simp only [Track.has, h2]
    constructor
    · intro h; cases h
    · intro h
      obtain ⟨p, hp, rfl⟩ := List.mem_map.1 h
      exact absurd rfl (first_none h1 (p.1, mkv p.2) (List.mem_map.2 ⟨p, hp, rfl⟩))
  · simp only [Track.has, h2]
    exact ⟨fun _ => List.mem_map.2 ⟨_, List.mem_of_getElem? h3, rfl⟩, fun _ => rfl⟩

theorem follow76 (h : TrackR w b mb t) (hne : b ≠ mb) {s : SV} {nodes : List Nat} (hs : Ints w s nodes) (hn : s.n ≤ 1000000) (last : Nat) (hl : last < 18446744073709551615) :
    Calls Tryz.prog 76 #[.pointer (some ⟨b, 0, none⟩), .slice s.p s.n s.c, .int .u64 (last : Int)] w fun e w' => e = .returned (.tuple #[]) ∧ TrackR w' b mb (t.follow nodes last) ∧ Step [b, mb] [b, mb] w w' := by
  refine ret (R := fun v w' => v = .tuple #[] ∧ TrackR w' b mb (t.follow nodes last) ∧ Step [b, mb] [b, mb] w w') (c76 _ s.p s.n s.c last w ?_) (fun v w' ⟨h1, h2⟩ => ⟨by rw [h1], h2⟩)
  have hsn := hs.n
  obtain ⟨es0, clock, g1, g2, g3, g4⟩ := h.m
  obtain ⟨hk, hkeys, hkv⟩ := keys_kn g2
  have hkd : (es0.toList.map kn).Nodup := by rw [hkeys]; exact h.nd
  refine ⟨some mb, by rw [add_mk, h.blk.cell]; rfl, mb, es0, clock, rfl, g1, vnew_mk fun w1 e1 s1 b1 => ?_⟩
  have hmlt := h.m.lt
  have hblt := h.blk.lt
  refine ⟨fun _ w' => ∃ S D, Thin w w' b mb w.heap.size es0.toList clock nodes S D, fun _ w' => left76 es0.toList w.heap.size w', ⟨#[], [], ?_⟩, ?_⟩
  · exact ⟨e1.blk h.blk, e1.step _, b1, ⟨es0, e1.ext _ _ g1, (List.filter_eq_self.2 (by simp)).symm⟩, by simp, by simp⟩
  rintro w9 ⟨S, D, T⟩
  obtain ⟨es, m1, m2⟩ := T.m
  have hsub : ∀ x ∈ es.toList, x ∈ es0.toList := fun x hx => by rw [m2] at hx; exact (List.mem_filter.1 hx).1
  have hbd : (es.toList.map (·.born)).Nodup := by rw [m2]; exact (List.filter_sublist.map _).nodup g3
  refine vnext_mk T.it m1 (fun e he => g4 e (hsub e he)) hbd (fun hall w12 e12 hh12 => ?_) (fun e he hes hf w12 k1 k2 k3 => ?_)
  · -- all is seen
    have hL : es.toList = es0.toList.filter fun e => decide (kn e ∈ nodes) := by
      rw [m2]; exact leftE_all T.gone T.seen (by rw [← m2]; exact hall)
    have hT : TrackR w12 b mb (t.filter fun p => decide (p.1 ∈ nodes)) := by
      refine ⟨e12.blk T.blk, ⟨es, clock, e12.ext _ _ m1, ?_, hbd, fun e he => g4 e (hsub e he)⟩, (List.filter_sublist.map _).nodup h.nd⟩
      have h1 : es.toList.map (fun e => (e.key, e.val)) = (es.toList.map fun e => (kn e, e.val)).map fun p => (iv p.1, p.2) := by
        rw [List.map_map]
        apply List.map_congr_left
        intro x hx
        simp [hk x (hsub x hx)]
      rw [h1, hL]
      congr 1
      have h2 : (es0.toList.filter fun e => decide (kn e ∈ nodes)).map (fun e => (kn e, e.val)) = (es0.toList.map fun e => (kn e, e.val)).filter fun p => decide (p.1 ∈ nodes) := by
        rw [List.filter_map]; rfl
      rw [h2, hkv]
      simp only [tl, List.filter_map]
      rfl
    have step12 := T.step.trans (e12.step [b, mb])
    refine vif_f rfl ⟨fun vs w' => ∃ j : Nat, vs = [iv j] ∧ j ≤ nodes.length ∧ TrackR w' b mb (grow76 (t.filter fun p => decide (p.1 ∈ nodes)) (nodes.take j) last) ∧ Step [b, mb] [b, mb] w w',
      fun vs _ => match vs with | [.int _ j] => ((nodes.length : Int) - j).toNat | _ => 0, ⟨0, rfl, by omega, by simpa [grow76] using hT, step12⟩, ?_⟩
    rintro i26 w13 ⟨j, hv, hj, hR, hS⟩
    simp only [iv, List.cons.injEq, Value.int.injEq, and_true, true_and] at hv
    subst hv
    refine vif_mk (fun h4 => ?_) fun h4 => ?_
    · have hjl : j < nodes.length := by simp at h4; omega
      have hs13 : Ints w13 s nodes := Sl.keeps hs hS.keeps (.inl rfl)
      refine Sl.load hs13 (i := j) (v := iv nodes[j]) (by simp [hjl]) fun a ha => ⟨_, ha, (has71 hR nodes[j]).mono ?_⟩
      rintro _ w14 ⟨rfl, e14⟩
      have hR14 := hR.ex e14
      have hgr : grow76 (t.filter fun p => decide (p.1 ∈ nodes)) (nodes.take (j + 1)) last = if (grow76 (t.filter fun p => decide (p.1 ∈ nodes)) (nodes.take j) last).has nodes[j] then grow76 (t.filter fun p => decide (p.1 ∈ nodes)) (nodes.take j) last else grow76 (t.filter fun p => decide (p.1 ∈ nodes)) (nodes.take j) last ++ [(nodes[j], 0, last + 1)] := by
        unfold grow76
        rw [List.take_succ_eq_append_getElem hjl, List.foldl_append]; rfl
      generalize hcur : grow76 (t.filter fun p => decide (p.1 ∈ nodes)) (nodes.take j) last = cur at hR hR14 hgr
      refine ⟨_, rfl, vif_mk (fun h5 => ?_) fun h5 => ?_⟩
      · have hno : cur.has nodes[j] = false := by simpa using h5
        rw [hno, if_neg (by simp)] at hgr
        refine vdraw_mk fun w15 e15 _ => ?_
        have hR15 := hR14.ex e15
        refine ⟨fun w' => TrackR w' b mb cur ∧ w' = w15, ⟨hR15, rfl⟩, some mb, fun w' hw' => by rw [add_mk, hw'.1.blk.cell]; rfl, (above97 last hl).mono ?_⟩
        rintro _ w16 ⟨rfl, hw⟩
        subst hw
        refine ⟨_, rfl, ⟨hR15, rfl⟩, hR15.m.find nodes[j] fun es clock g1 g2 g3 g4 g5 => ⟨_, g5, ?_⟩⟩
        have hf : first (tl cur) nodes[j] = none := by
          rcases first_tl cur nodes[j] with ⟨h1, _⟩ | ⟨i, m, h1, h2, _⟩
          · exact h1
          · simp [Track.has, h2] at hno
        refine vput_mk hR15.m.lt fun w17 k1 k2 k3 k4 => ?_
        rw [wi (by omega) (by omega)]
        refine ⟨⟨j + 1, by simp [iv], hjl, ?_, ((hS.trans (e14.step _)).trans (e15.step _)).trans ⟨k2.mono (by simp), map_keeps g1 k3, fun x hx => .inl hx⟩⟩, by simp only; omega⟩
        rw [hgr]
        refine ⟨k2.blk hR15.blk (by simpa using hne), ?_, ?_⟩
        · have hp := mapPut_r (x := nodes[j]) (v := mkv (0, last + 1)) g2 g3 g4 k1
          have hv : putL (tl cur) nodes[j] (mkv (0, last + 1)) = tl (cur ++ [(nodes[j], 0, last + 1)]) := by unfold putL; rw [hf]; simp [tl]
          rw [hv] at hp; exact hp
        · rw [List.map_append, List.nodup_append]
          refine ⟨hR.nd, by simp, fun a ha c hc => ?_⟩
          simp at hc; subst hc
          intro hh
          subst hh
          rw [← has_mem, hno] at ha
          cases ha
      · have hyes : cur.has nodes[j] = true := by simpa using h5
        rw [hyes, if_pos rfl] at hgr
        rw [wi (by omega) (by omega)]
        exact ⟨⟨j + 1, by simp [iv], hjl, by rw [hgr]; exact hR14, hS.trans (e14.step _)⟩, by simp only; omega⟩
    · have hjl : j = nodes.length := by simp at h4; omega
      subst hjl
      rw [List.take_length] at hR
      exact ⟨rfl, hR, hS⟩
  · -- one more is seen
    have he0 := hsub e he
    have hm12 : w12.heap[mb]? = some (.map es clock) := by rw [k3 mb (by omega)]; exact m1
    have hun := unseen_push he0 hes
    have hleft : left76 es0.toList w.heap.size w9 = unseen es0.toList S := by unfold left76; rw [T.it]
    have f12 : Fr [w.heap.size] w9 w12 := k2
    have st12 : Step [b, mb] [b, mb] w w12 := by
      refine ⟨⟨Nat.le_trans T.step.fr.size f12.size, f12.os.trans T.step.fr.os, fun k hk hkm => by rw [k3 k (by omega)]; exact T.step.fr.rest k hk hkm⟩, ?_, fun x hx => .inl hx⟩
      refine ⟨fun k cs ty hk' hty => (k3 k (by have := hk'.lt; omega)).trans (T.step.keeps.flat k cs ty hk' hty), fun k cs hk' => ?_⟩
      obtain ⟨cs', q1, q2⟩ := T.step.keeps.ents k cs hk'
      exact ⟨cs', (k3 k (by have := hk'.lt; omega)).trans q1, q2⟩
    have hb12 : Blk w12 b #[.map (some mb)] 140 := (k3 b (by omega)).trans T.blk
    refine vif_t rfl (ventry_mk k1 hm12 hf ?_)
    rw [hk e he0]
    have hs12 : Ints w12 s nodes := Sl.keeps hs st12.keeps (.inl rfl)
    refine (contains59 hs12 (by omega) (kn e)).mono ?_
    rintro _ w16 ⟨rfl, hw⟩
    subst hw
    refine ⟨_, rfl, vif_mk (fun h5 => ?_) fun h5 => ?_⟩
    · have hnot : kn e ∉ nodes := by simpa using h5
      obtain ⟨r, hr1, es', hr2, hr3⟩ := thin_cut hk hkd g3 m2 he
      rw [hk e he0] at hr1
      refine ⟨some mb, by rw [add_mk, hb12.cell]; rfl, mb, es, clock, rfl, hm12, r, hr1, ?_⟩
      rw [hr2]
      refine vput_mk (by rw [show w16.heap.size = w16.heap.size from rfl]; exact (Array.getElem?_eq_some_iff.1 hm12).1) fun w17 q1 q2 q3 q4 => ?_
      have hit : w17.heap[w.heap.size]? = some (.mapIter (some mb) clock (S.push e.born) clock) := by rw [q3 _ (by omega)]; exact k1
      refine ⟨⟨S.push e.born, e.born :: D, q2.blk hb12 (by simpa using hne), st12.trans ⟨q2.mono (by simp), map_keeps hm12 q3, fun x hx => .inl hx⟩, hit, ⟨es', q1, hr3⟩, fun x hx hd => ?_, fun x hx hsx => ?_⟩, ?_⟩
      · simp only [List.contains_cons, Bool.or_eq_true, beq_iff_eq] at hd
        rcases hd with hd | hd
        · have : x = e := by
            obtain ⟨i, hi, rfl⟩ := List.mem_iff_getElem.1 hx
            obtain ⟨j, hj, rfl⟩ := List.mem_iff_getElem.1 he0
            have := (List.getElem_inj (i := i) (j := j) (h₀ := by simpa using hi) (h₁ := by simpa using hj) g3).1 (by simpa using hd)
            subst this; rfl
          rw [this]; exact hnot
        · exact T.gone x hx hd
      · rw [contains_push] at hsx
        simp only [Bool.or_eq_true, beq_iff_eq] at hsx
        rcases hsx with hsx | hsx
        · rcases T.seen x hx hsx with h6 | h6
          · left; simp only [List.contains_cons, h6, Bool.or_true]
          · exact .inr h6
        · left; simp only [List.contains_cons, hsx, beq_self_eq_true, Bool.true_or]
      · show left76 es0.toList w.heap.size w17 < left76 es0.toList w.heap.size w9
        rw [hleft]; unfold left76; rw [hit]; exact hun
    · have hin : kn e ∈ nodes := by simpa using h5
      refine ⟨⟨S.push e.born, D, hb12, st12, k1, ⟨es, hm12, m2⟩, T.gone, fun x hx hsx => ?_⟩, ?_⟩
      · rw [contains_push] at hsx
        simp only [Bool.or_eq_true, beq_iff_eq] at hsx
        rcases hsx with hsx | hsx
        · exact T.seen x hx hsx
        · right
          have : x = e := by
            obtain ⟨i, hi, rfl⟩ := List.mem_iff_getElem.1 hx
            obtain ⟨j, hj, rfl⟩ := List.mem_iff_getElem.1 he0
            have := (List.getElem_inj (i := i) (j := j) (h₀ := by simpa using hi) (h₁ := by simpa using hj) g3).1 (by simpa using hsx)
            subst this; rfl
          rw [this]; exact hin
      · show left76 es0.toList w.heap.size w16 < left76 es0.toList w.heap.size w9
        rw [hleft]; unfold left76; rw [k1]; exact hun

theorem new95 {w : World} {s : SV} {nodes : List Nat} (hs : Ints w s nodes) (hn : s.n ≤ 1000000) (last : Nat) (hl : last < 18446744073709551615) :
    Calls Tryz.prog 95 #[.slice s.p s.n s.c, .int .u64 (last : Int)] w fun e w' => ∃ b mb, e = .returned (.pointer (some ⟨b, 0, none⟩)) ∧ TrackR w' b mb (Track.follow [] nodes last) ∧ Ex w w' ∧ w.heap.size ≤ b ∧ w.heap.size ≤ mb ∧ b ≠ mb := by
  refine ret (R := fun v w' => ∃ b mb, v = .pointer (some ⟨b, 0, none⟩) ∧ TrackR w' b mb (Track.follow [] nodes last) ∧ Ex w w' ∧ w.heap.size ≤ b ∧ w.heap.size ≤ mb ∧ b ≠ mb) (c95 s.p s.n s.c last w ?_) (fun v w' ⟨b, mb, h1, h2⟩ => ⟨b, mb, by rw [h1], h2⟩)
  refine vnew_mk fun w1 e1 s1 b1 => vnew_mk fun w2 e2 s2 b2 => ?_
  have hT : TrackR w2 w1.heap.size w.heap.size [] := ⟨b2, ⟨#[], 0, e2.ext _ _ b1, by simp [tl], by simp, by simp⟩, by simp⟩
  refine (follow76 hT (by omega) (Sl.ex hs (e1.trans e2)) hn last hl).mono ?_
  rintro _ w3 ⟨rfl, h3, st⟩
  refine ⟨rfl, w1.heap.size, w.heap.size, rfl, h3, ⟨fun k o hk => ?_, ?_, ?_⟩, by omega, Nat.le_refl _, by omega⟩
  · have hlt : k < w.heap.size := (Array.getElem?_eq_some_iff.1 hk).1
    rw [st.fr.rest k (by omega) (by simp; omega)]
    exact (e1.trans e2).ext k o hk
  · have := st.fr.size; omega
  · exact st.fr.os.trans (e1.trans e2).os

end
end Rx
end Go.Proofs.YtkoipeddfbeliaaGreat

/-
  PRINTED BY wip/gen.py: what the functions ask and do, one by one.
-/
namespace Go.Proofs.YtkoipeddfbeliaaGreat
namespace Rx
open Go.RowKit
set_option maxRecDepth 100000
set_option linter.unusedVariables false

/-- (*compline/raft.Node).State -/
def F10 (x0 : Addr) (w : World) (R : Value → World → Prop) : Prop :=
 vnew w (.cells #[.int .u64 0, .int .i64 0, .int .u64 0, .int .u64 0, .slice Option.none 0 0, .slice Option.none 0 0, .slice Option.none 0 0] 43) fun a1 w2 => ∃ (p3 : Option Addr), w2.cell? (x0.add 9) = some (.pointer p3) ∧ Calls Tryz.prog 26 #[.pointer p3] w2 fun e4 w5 => ∃ (i6 : Int), ∃ (i7 : Int), e4 = .returned (.tuple #[.int .u64 (i6), .int .u64 (i7)]) ∧ ∃ (p8 : Option Addr), w5.cell? (x0.add 9) = some (.pointer p8) ∧ Calls Tryz.prog 27 #[.pointer p8, .int .u64 (IntKind.u64.wrap (i6 + 1)), .int .i64 1024] w5 fun e9 w10 => ∃ (s11 : Option Addr) (s11n s11c : Nat), ∃ (i12 : Int), e9 = .returned (.tuple #[.slice s11 s11n s11c, .int .i64 (i12)]) ∧ vdraw w10 fun w13 => ∃ J14 : World → Prop, J14 w13 ∧ vcells 4 w13 (x0.add 10) fun g15 => ∃ (i16 : Int), (∀ w, J14 w → w.cell? (x0.add 4) = some (.int .u64 (i16))) ∧ ∃ (i17 : Int), (∀ w, J14 w → w.cell? (x0.add 5) = some (.int .i64 (i17))) ∧ Calls Tryz.prog 28 #[.agg g15] w13 fun e18 w19 => ∃ (g20 : Array Value), g20.size = 4 ∧ e18 = .returned (.agg g20) ∧ J14 w19 ∧ ∃ (v21 : Value) (r27 : List Value), g20.toList = v21 :: r27 ∧ ∃ (v22 : Value) (r28 : List Value), r27 = v22 :: r28 ∧ ∃ (v23 : Value) (r29 : List Value), r28 = v23 :: r29 ∧ ∃ (v24 : Value) (r30 : List Value), r29 = v24 :: r30 ∧ r30 = [] ∧ vstoreN w19 a1 7 #[.int .u64 (i16), .int .i64 (i17), v21, v22, v23, v24, .slice s11 s11n s11c] fun w25 => vcells 7 w25 a1 fun g26 => R (.agg g26) w25

def A10 : Ann := .seq (.leaf) (.seq (.seq (.leaf) (.two (.seq (.leaf) (.leaf)) (.leaf))) (.seq (.leaf) (.seq (.leaf) (.seq (.ordJ (.op 0 (.op 1 (.op 2 (.op 4 (.op 5 (.op 6 (.op 8 (.op 9 (.op 10 (.op 13 (.op 11 (.far 3 (.far 7 (.op 12 (.rest (.op 14 (.op 15 .done)))))))))))))))))) (.leaf)))))

theorem e10 (x0 : Addr) (w : World) (R : Value → World → Prop) : F10 x0 w R = vfun Tryz.prog Tryz.f10 A10 [.pointer (some x0)] w R := by kernel_rfl
theorem c10 (x0 : Addr) (w : World) {R : Value → World → Prop} (h : F10 x0 w R) : Calls Tryz.prog 10 #[.pointer (some x0)] w fun e w' => ∃ v, e = .returned v ∧ R v w' :=
  calls_of_vfun (an := A10) mixed Tryz.func10 (by kernel_rfl) (by kernel_rfl) ((e10 x0 w R).mp h)

/-- (*compline/raft.Node).Tick -/
def F13 (x0 : Addr) (x1 : Int) (w : World) (R : Value → World → Prop) : Prop :=
 ∃ (i1 : Int), w.cell? (x0.add 8) = some (.int .i64 (i1)) ∧ vstore1 w (x0.add 8) (.int .i64 (IntKind.i64.wrap (i1 + 1))) fun w2 => ∃ (i3 : Int), w2.cell? (x0.add 6) = some (.int .i64 (i3)) ∧ vif ((i3 : Int) == 3)
 (vdraw w2 fun w4 => ∃ (i5 : Int), w4.cell? (x0.add 8) = some (.int .i64 (i5)) ∧ ∃ (i6 : Int), w4.cell? ((x0.add 0).add 3) = some (.int .i64 (i6)) ∧ vif (decide ((i5 : Int) ≥ i6))
 (Calls Tryz.prog 29 #[.pointer (some x0)] w4 fun e7 w8 => e7 = .returned (.tuple #[]) ∧ R (.tuple #[]) w8)
 (R (.tuple #[]) w4))
 (vdraw w2 fun w9 => ∃ (i10 : Int), w9.cell? (x0.add 4) = some (.int .u64 (i10)) ∧ vif (decide ((i10 : Int) < 4611686018427387904))
 (∃ (i11 : Int), w9.cell? (x0.add 8) = some (.int .i64 (i11)) ∧ ∃ (i12 : Int), w9.cell? ((x0.add 0).add 2) = some (.int .i64 (i12)) ∧ ∃ (i13 : Int), w9.cell? ((x0.add 0).add 2) = some (.int .i64 (i13)) ∧ vnz (IntKind.u64.wrap i13) (vif (decide ((i11 : Int) ≥ (IntKind.i64.wrap (i12 + (IntKind.i64.wrap ((x1 : Int).tmod (IntKind.u64.wrap i13)))))))
 ((Calls Tryz.prog 31 #[.pointer (some x0)] w9 fun e14 w15 => ∃ (s16 : Option Addr) (s16n s16c : Nat), e14 = .returned (.slice s16 s16n s16c) ∧ ∃ (i17 : Int), w15.cell? ((x0.add 0).add 0) = some (.int .i64 (i17)) ∧ Calls Tryz.prog 30 #[.slice s16 s16n s16c, .int .i64 (i17)] w15 fun e18 w19 => ∃ (b20 : Bool), e18 = .returned (.bool (b20)) ∧ vif (b20)
 (Calls Tryz.prog 32 #[.pointer (some x0)] w19 fun e21 w22 => e21 = .returned (.tuple #[]) ∧ R (.tuple #[]) w22)
 (R (.tuple #[]) w19))
 ∧ (∃ (i23 : Int), w9.cell? ((x0.add 0).add 0) = some (.int .i64 (i23)) ∧ Calls Tryz.prog 31 #[.pointer (some x0)] w9 fun e24 w25 => ∃ (s26 : Option Addr) (s26n s26c : Nat), e24 = .returned (.slice s26 s26n s26c) ∧ Calls Tryz.prog 30 #[.slice s26 s26n s26c, .int .i64 (i23)] w25 fun e27 w28 => ∃ (b29 : Bool), e27 = .returned (.bool (b29)) ∧ vif (b29)
 (Calls Tryz.prog 32 #[.pointer (some x0)] w28 fun e30 w31 => e30 = .returned (.tuple #[]) ∧ R (.tuple #[]) w31)
 (R (.tuple #[]) w28)))
 ((R (.tuple #[]) w9)
 ∧ (R (.tuple #[]) w9))))
 ((R (.tuple #[]) w9)
 ∧ (R (.tuple #[]) w9)))

def A13 : Ann := .seq (.seq (.leaf) (.two (.leaf) (.leaf))) (.seq (.leaf) (.one (.seq (.leaf) (.two (.seq (.ord (.op 0 (.op 1 (.op 2 (.op 4 (.op 5 (.op 6 (.op 7 (.op 3 (.op 8 (.op 9 .done))))))))))) (.two (.leaf) (.leaf))) (.seq (.ord (.op 0 (.op 1 (.op 2 (.op 3 (.op 4 (.op 5 (.op 6 (.op 7 (.op 8 (.op 10 (.op 11 (.op 12 (.op 13 (.op 15 (.op 16 (.op 17 (.op 18 (.op 19 (.op 9 (.op 14 (.op 20 (.op 21 (.op 22 (.op 23 (.op 24 (.op 25 (.op 26 (.op 27 (.op 28 (.op 30 (.op 31 (.op 32 (.op 33 (.or (.op 29 (.op 34 (.op 35 (.op 36 (.op 37 .done))))) (.op 34 (.op 29 (.op 35 (.op 36 (.op 37 .done)))))))))))))))))))))))))))))))))))))))) (.two (.leaf) (.leaf)))))))

theorem e13 (x0 : Addr) (x1 : Int) (w : World) (R : Value → World → Prop) : F13 x0 x1 w R = vfun Tryz.prog Tryz.f13 A13 [.pointer (some x0), .int .u64 (x1)] w R := by kernel_rfl
theorem c13 (x0 : Addr) (x1 : Int) (w : World) {R : Value → World → Prop} (h : F13 x0 x1 w R) : Calls Tryz.prog 13 #[.pointer (some x0), .int .u64 (x1)] w fun e w' => ∃ v, e = .returned v ∧ R v w' :=
  calls_of_vfun (an := A13) mixed Tryz.func13 (by kernel_rfl) (by kernel_rfl) ((e13 x0 x1 w R).mp h)

/-- (*compline/raft.Node).Saved -/
def F14 (x0 : Addr) (w : World) (R : Value → World → Prop) : Prop :=
 vstore1 w (x0.add 18) (.bool false) fun w1 => vstore1 w1 (x0.add 19) (.bool false) fun w2 => ∃ (p3 : Option Addr), w2.cell? (x0.add 9) = some (.pointer p3) ∧ Calls Tryz.prog 33 #[.pointer p3] w2 fun e4 w5 => ∃ (i6 : Int), ∃ (i7 : Int), e4 = .returned (.tuple #[.int .u64 (i6), .int .u64 (i7)]) ∧ vstore1 w5 (x0.add 20) (.int .u64 (i6)) fun w8 => R (.tuple #[]) w8

def A14 : Ann := .seq (.leaf) (.two (.seq (.leaf) (.leaf)) (.leaf))

theorem e14 (x0 : Addr) (w : World) (R : Value → World → Prop) : F14 x0 w R = vfun Tryz.prog Tryz.f14 A14 [.pointer (some x0)] w R := by kernel_rfl
theorem c14 (x0 : Addr) (w : World) {R : Value → World → Prop} (h : F14 x0 w R) : Calls Tryz.prog 14 #[.pointer (some x0)] w fun e w' => ∃ v, e = .returned v ∧ R v w' :=
  calls_of_vfun (an := A14) mixed Tryz.func14 (by kernel_rfl) (by kernel_rfl) ((e14 x0 w R).mp h)

/-- (*compline/raft.Node).Out -/
def F15 (x0 : Addr) (w : World) (R : Value → World → Prop) : Prop :=
 ∃ (s1 : Option Addr) (s1n s1c : Nat), w.cell? (x0.add 17) = some (.slice s1 s1n s1c) ∧ vstore1 w (x0.add 17) (.slice Option.none 0 0) fun w2 => R (.slice s1 s1n s1c) w2

def A15 : Ann := .seq (.leaf) (.seq (.seq (.leaf) (.two (.seq (.leaf) (.leaf)) (.leaf))) (.seq (.leaf) (.seq (.leaf) (.seq (.leaf) (.leaf)))))

theorem e15 (x0 : Addr) (w : World) (R : Value → World → Prop) : F15 x0 w R = vfun Tryz.prog Tryz.f15 A15 [.pointer (some x0)] w R := by kernel_rfl
theorem c15 (x0 : Addr) (w : World) {R : Value → World → Prop} (h : F15 x0 w R) : Calls Tryz.prog 15 #[.pointer (some x0)] w fun e w' => ∃ v, e = .returned v ∧ R v w' :=
  calls_of_vfun (an := A15) mixed Tryz.func15 (by kernel_rfl) (by kernel_rfl) ((e15 x0 w R).mp h)

/-- (*compline/raft.Node).Step -/
def F16 (x0 : Addr) (x1 : Array Value) (w : World) (R : Value → World → Prop) : Prop :=
 vnew w (.cells x1 54) fun a1 w2 => ∃ J3 : List Value → World → Prop, (vcells 11 w2 a1 fun g4 => Calls Tryz.prog 34 #[.pointer (some x0), .agg g4] w2 fun e5 w6 => ∃ (b7 : Bool), e5 = .returned (.bool (b7)) ∧ vif (!b7)
 (R (.tuple #[]) w6)
 (J3 [] w6))
 ∧ (∀ w8, J3 [] w8 → ∃ J9 : List Value → World → Prop, (∃ (i10 : Int), w8.cell? (a1.add 0) = some (.int .i64 (i10)) ∧ vif ((i10 : Int) == 4)
 (J9 [.bool true] w8)
 (∃ (i11 : Int), w8.cell? (a1.add 0) = some (.int .i64 (i11)) ∧ J9 [.bool ((i11 : Int) == 6)] w8))
 ∧ (∀ (b12 : Bool), ∀ w13, J9 [.bool (b12)] w13 → ∃ J14 : List Value → World → Prop, (∃ (i15 : Int), w13.cell? (a1.add 0) = some (.int .i64 (i15)) ∧ vif ((i15 : Int) == 0)
 (vcells 11 w13 a1 fun g16 => Calls Tryz.prog 35 #[.pointer (some x0), .agg g16] w13 fun e17 w18 => e17 = .returned (.tuple #[]) ∧ R (.tuple #[]) w18)
 (∃ (i19 : Int), w13.cell? (a1.add 0) = some (.int .i64 (i19)) ∧ vif ((i19 : Int) == 1)
 (vcells 11 w13 a1 fun g20 => Calls Tryz.prog 36 #[.pointer (some x0), .agg g20] w13 fun e21 w22 => e21 = .returned (.tuple #[]) ∧ R (.tuple #[]) w22)
 (vdraw w13 fun w23 => ∃ (i24 : Int), w23.cell? (a1.add 3) = some (.int .u64 (i24)) ∧ ∃ (i25 : Int), w23.cell? (x0.add 4) = some (.int .u64 (i25)) ∧ vif (decide ((i24 : Int) > i25))
 (∃ (i26 : Int), w23.cell? (a1.add 3) = some (.int .u64 (i26)) ∧ Calls Tryz.prog 37 #[.pointer (some x0), .int .u64 (i26), .int .i64 0] w23 fun e27 w28 => e27 = .returned (.tuple #[]) ∧ J14 [] w28)
 (vdraw w23 fun w29 => ∃ (i30 : Int), w29.cell? (a1.add 3) = some (.int .u64 (i30)) ∧ ∃ (i31 : Int), w29.cell? (x0.add 4) = some (.int .u64 (i31)) ∧ vif (decide ((i30 : Int) < i31))
 (vif (b12)
 (vcells 11 w29 a1 fun g32 => Calls Tryz.prog 38 #[.pointer (some x0), .int .i64 5, .agg g32, .bool false, .int .u64 0] w29 fun e33 w34 => e33 = .returned (.tuple #[]) ∧ R (.tuple #[]) w34)
 (R (.tuple #[]) w29))
 (J14 [] w29)))))
 ∧ (∀ w35, J14 [] w35 → ∃ (i36 : Int), w35.cell? (a1.add 0) = some (.int .i64 (i36)) ∧ vif ((i36 : Int) == 2)
 (vcells 11 w35 a1 fun g37 => Calls Tryz.prog 39 #[.pointer (some x0), .agg g37] w35 fun e38 w39 => e38 = .returned (.tuple #[]) ∧ R (.tuple #[]) w39)
 (∃ (i40 : Int), w35.cell? (a1.add 0) = some (.int .i64 (i40)) ∧ vif ((i40 : Int) == 3)
 (vcells 11 w35 a1 fun g41 => Calls Tryz.prog 40 #[.pointer (some x0), .agg g41] w35 fun e42 w43 => e42 = .returned (.tuple #[]) ∧ R (.tuple #[]) w43)
 (∃ J44 : List Value → World → Prop, (vif (b12)
 (∃ (i45 : Int), w35.cell? (x0.add 6) = some (.int .i64 (i45)) ∧ J44 [.bool ((i45 : Int) == 3)] w35)
 (J44 [.bool false] w35))
 ∧ (∀ (b46 : Bool), ∀ w47, J44 [.bool (b46)] w47 → vif (b46)
 (R (.tuple #[]) w47)
 (∃ (i48 : Int), w47.cell? (a1.add 0) = some (.int .i64 (i48)) ∧ vif ((i48 : Int) == 4)
 (vcells 11 w47 a1 fun g49 => Calls Tryz.prog 41 #[.pointer (some x0), .agg g49] w47 fun e50 w51 => e50 = .returned (.tuple #[]) ∧ R (.tuple #[]) w51)
 (∃ (i52 : Int), w47.cell? (a1.add 0) = some (.int .i64 (i52)) ∧ vif ((i52 : Int) == 6)
 (vcells 11 w47 a1 fun g53 => Calls Tryz.prog 42 #[.pointer (some x0), .agg g53] w47 fun e54 w55 => e54 = .returned (.tuple #[]) ∧ R (.tuple #[]) w55)
 (vcells 11 w47 a1 fun g56 => Calls Tryz.prog 43 #[.pointer (some x0), .agg g56] w47 fun e57 w58 => e57 = .returned (.tuple #[]) ∧ R (.tuple #[]) w58)))))))))

def A16 : Ann := .seq (.leaf) (.cut [] (.seq (.leaf) (.two (.leaf) (.leaf))) (.cut [(4, .bool)] (.leaf) (.cut [] (.one (.seq (.leaf) (.two (.seq (.leaf) (.leaf)) (.seq (.leaf) (.two (.seq (.leaf) (.leaf)) (.seq (.ord (.op 0 (.op 2 (.op 3 (.op 4 (.op 1 (.op 5 (.op 6 (.op 7 .done))))))))) (.two (.leaf) (.seq (.ord (.op 0 (.op 2 (.op 3 (.op 4 (.op 1 (.op 5 (.op 6 (.op 7 .done))))))))) (.two (.seq (.seq (.leaf) (.two (.leaf) (.leaf))) (.leaf)) (.leaf)))))))))) (.one (.seq (.leaf) (.two (.leaf) (.seq (.leaf) (.two (.leaf) (.cut [(76, .bool)] (.leaf) (.two (.leaf) (.seq (.leaf) (.two (.leaf) (.seq (.leaf) (.two (.leaf) (.leaf)))))))))))))))

theorem e16 (x0 : Addr) (x1 : Array Value) (w : World) (R : Value → World → Prop) : F16 x0 x1 w R = vfun Tryz.prog Tryz.f16 A16 [.pointer (some x0), .agg x1] w R := by kernel_rfl
theorem c16 (x0 : Addr) (x1 : Array Value) (w : World) {R : Value → World → Prop} (h : F16 x0 x1 w R) : Calls Tryz.prog 16 #[.pointer (some x0), .agg x1] w fun e w' => ∃ v, e = .returned v ∧ R v w' :=
  calls_of_vfun (an := A16) mixed Tryz.func16 (by kernel_rfl) (by kernel_rfl) ((e16 x0 x1 w R).mp h)

/-- (*compline/raft.Node).Role -/
def F17 (x0 : Addr) (w : World) (R : Value → World → Prop) : Prop :=
 ∃ (i1 : Int), w.cell? (x0.add 6) = some (.int .i64 (i1)) ∧ R (.int .i64 (i1)) w

def A17 : Ann := .seq (.leaf) (.seq (.seq (.leaf) (.two (.seq (.leaf) (.leaf)) (.leaf))) (.seq (.leaf) (.leaf)))

theorem e17 (x0 : Addr) (w : World) (R : Value → World → Prop) : F17 x0 w R = vfun Tryz.prog Tryz.f17 A17 [.pointer (some x0)] w R := by kernel_rfl
theorem c17 (x0 : Addr) (w : World) {R : Value → World → Prop} (h : F17 x0 w R) : Calls Tryz.prog 17 #[.pointer (some x0)] w fun e w' => ∃ v, e = .returned v ∧ R v w' :=
  calls_of_vfun (an := A17) mixed Tryz.func17 (by kernel_rfl) (by kernel_rfl) ((e17 x0 w R).mp h)

/-- (*compline/raft.Node).Propose -/
def F18 (x0 : Addr) (x1 : Option Addr) (x1n x1c : Nat) (w : World) (R : Value → World → Prop) : Prop :=
 ∃ (i1 : Int), w.cell? (x0.add 6) = some (.int .i64 (i1)) ∧ vif ((i1 : Int) != 3)
 (R (.tuple #[.int .u64 0, .int .i64 18]) w)
 (Calls Tryz.prog 44 #[.pointer (some x0), .bool false, .slice x1 x1n x1c] w fun e2 w3 => ∃ (i4 : Int), ∃ (i5 : Int), e2 = .returned (.tuple #[.int .u64 (i4), .int .i64 (i5)]) ∧ R (.tuple #[.int .u64 (i4), .int .i64 (i5)]) w3)

def A18 : Ann := .seq (.leaf) (.seq (.one (.seq (.leaf) (.two (.seq (.leaf) (.leaf)) (.seq (.leaf) (.two (.seq (.leaf) (.leaf)) (.leaf)))))) (.seq (.leaf) (.leaf)))

theorem e18 (x0 : Addr) (x1 : Option Addr) (x1n x1c : Nat) (w : World) (R : Value → World → Prop) : F18 x0 x1 x1n x1c w R = vfun Tryz.prog Tryz.f18 A18 [.pointer (some x0), .slice x1 x1n x1c] w R := by kernel_rfl
theorem c18 (x0 : Addr) (x1 : Option Addr) (x1n x1c : Nat) (w : World) {R : Value → World → Prop} (h : F18 x0 x1 x1n x1c w R) : Calls Tryz.prog 18 #[.pointer (some x0), .slice x1 x1n x1c] w fun e w' => ∃ v, e = .returned v ∧ R v w' :=
  calls_of_vfun (an := A18) mixed Tryz.func18 (by kernel_rfl) (by kernel_rfl) ((e18 x0 x1 x1n x1c w R).mp h)

/-- (*compline/raft.Node).Commit -/
def F19 (x0 : Addr) (w : World) (R : Value → World → Prop) : Prop :=
 ∃ (i1 : Int), w.cell? (x0.add 14) = some (.int .u64 (i1)) ∧ R (.int .u64 (i1)) w

def A19 : Ann := .seq (.leaf) (.seq (.seq (.leaf) (.two (.seq (.leaf) (.leaf)) (.leaf))) (.seq (.leaf) (.leaf)))

theorem e19 (x0 : Addr) (w : World) (R : Value → World → Prop) : F19 x0 w R = vfun Tryz.prog Tryz.f19 A19 [.pointer (some x0)] w R := by kernel_rfl
theorem c19 (x0 : Addr) (w : World) {R : Value → World → Prop} (h : F19 x0 w R) : Calls Tryz.prog 19 #[.pointer (some x0)] w fun e w' => ∃ v, e = .returned v ∧ R v w' :=
  calls_of_vfun (an := A19) mixed Tryz.func19 (by kernel_rfl) (by kernel_rfl) ((e19 x0 w R).mp h)

/-- (*compline/raft.Node).Term -/
def F20 (x0 : Addr) (w : World) (R : Value → World → Prop) : Prop :=
 ∃ (i1 : Int), w.cell? (x0.add 4) = some (.int .u64 (i1)) ∧ R (.int .u64 (i1)) w

def A20 : Ann := .seq (.leaf) (.seq (.seq (.leaf) (.two (.seq (.leaf) (.leaf)) (.leaf))) (.seq (.leaf) (.leaf)))

theorem e20 (x0 : Addr) (w : World) (R : Value → World → Prop) : F20 x0 w R = vfun Tryz.prog Tryz.f20 A20 [.pointer (some x0)] w R := by kernel_rfl
theorem c20 (x0 : Addr) (w : World) {R : Value → World → Prop} (h : F20 x0 w R) : Calls Tryz.prog 20 #[.pointer (some x0)] w fun e w' => ∃ v, e = .returned v ∧ R v w' :=
  calls_of_vfun (an := A20) mixed Tryz.func20 (by kernel_rfl) (by kernel_rfl) ((e20 x0 w R).mp h)

/-- (*compline/raft.Node).Last -/
def F21 (x0 : Addr) (w : World) (R : Value → World → Prop) : Prop :=
 ∃ (p1 : Option Addr), w.cell? (x0.add 9) = some (.pointer p1) ∧ Calls Tryz.prog 33 #[.pointer p1] w fun e2 w3 => ∃ (i4 : Int), ∃ (i5 : Int), e2 = .returned (.tuple #[.int .u64 (i4), .int .u64 (i5)]) ∧ R (.int .u64 (i4)) w3

def A21 : Ann := .seq (.leaf) (.seq (.seq (.leaf) (.two (.seq (.leaf) (.leaf)) (.leaf))) (.seq (.leaf) (.seq (.leaf) (.leaf))))

theorem e21 (x0 : Addr) (w : World) (R : Value → World → Prop) : F21 x0 w R = vfun Tryz.prog Tryz.f21 A21 [.pointer (some x0)] w R := by kernel_rfl
theorem c21 (x0 : Addr) (w : World) {R : Value → World → Prop} (h : F21 x0 w R) : Calls Tryz.prog 21 #[.pointer (some x0)] w fun e w' => ∃ v, e = .returned v ∧ R v w' :=
  calls_of_vfun (an := A21) mixed Tryz.func21 (by kernel_rfl) (by kernel_rfl) ((e21 x0 w R).mp h)

/-- compline/raft.New -/
def F22 (x0 : Array Value) (x1 : Array Value) (w : World) (R : Value → World → Prop) : Prop :=
 vnew w (.cells x0 64) fun a1 w2 => vnew w2 (.cells x1 43) fun a3 w4 => ∃ J5 : List Value → World → Prop, (∃ (i6 : Int), w4.cell? (a1.add 0) = some (.int .i64 (i6)) ∧ Calls Tryz.prog 45 #[.int .i64 (i6)] w4 fun e7 w8 => ∃ (b9 : Bool), e7 = .returned (.bool (b9)) ∧ vif (!b9)
 (R (.tuple #[.pointer Option.none, .int .i64 1]) w8)
 (∃ (s10 : Option Addr) (s10n s10c : Nat), w8.cell? (a1.add 1) = some (.slice s10 s10n s10c) ∧ Calls Tryz.prog 46 #[.slice s10 s10n s10c] w8 fun e11 w12 => ∃ (b13 : Bool), e11 = .returned (.bool (b13)) ∧ vif (!b13)
 (R (.tuple #[.pointer Option.none, .int .i64 1]) w12)
 (∃ (i14 : Int), w12.cell? (a1.add 2) = some (.int .i64 (i14)) ∧ vif (decide ((i14 : Int) < 1))
 (R (.tuple #[.pointer Option.none, .int .i64 1]) w12)
 (∃ (i15 : Int), w12.cell? (a1.add 2) = some (.int .i64 (i15)) ∧ vif (decide ((i15 : Int) > 1000))
 (R (.tuple #[.pointer Option.none, .int .i64 1]) w12)
 (∃ (i16 : Int), w12.cell? (a1.add 3) = some (.int .i64 (i16)) ∧ vif (decide ((i16 : Int) < 1))
 (R (.tuple #[.pointer Option.none, .int .i64 1]) w12)
 (∃ (i17 : Int), w12.cell? (a1.add 3) = some (.int .i64 (i17)) ∧ ∃ (i18 : Int), w12.cell? (a1.add 2) = some (.int .i64 (i18)) ∧ vif (decide ((i17 : Int) > i18))
 (R (.tuple #[.pointer Option.none, .int .i64 1]) w12)
 (J5 [] w12)))))))
 ∧ (∀ w19, J5 [] w19 → ∃ (s20 : Option Addr) (s20n s20c : Nat), w19.cell? (a1.add 1) = some (.slice s20 s20n s20c) ∧ Calls Tryz.prog 47 #[.slice s20 s20n s20c] w19 fun e21 w22 => ∃ (s23 : Option Addr) (s23n s23c : Nat), e21 = .returned (.slice s23 s23n s23c) ∧ vstore1 w22 (a1.add 1) (.slice s23 s23n s23c) fun w24 => vdraw w24 fun w25 => ∃ J26 : World → Prop, J26 w25 ∧ vcells 4 w25 (a3.add 2) fun g27 => ∃ (g28 : Array Value), g28.size = 4 ∧ (∀ w, J26 w → CellsAt w a1 g28.toList) ∧ ∃ (i29 : Int), (∀ w, J26 w → w.cell? (a3.add 0) = some (.int .u64 (i29))) ∧ ∃ (i30 : Int), (∀ w, J26 w → w.cell? (a3.add 1) = some (.int .i64 (i30))) ∧ ∃ (i31 : Int), (∀ w, J26 w → w.cell? ((a3.add 2).add 0) = some (.int .u64 (i31))) ∧ ∃ (i32 : Int), (∀ w, J26 w → w.cell? ((a3.add 2).add 1) = some (.int .u64 (i32))) ∧ ∃ (i33 : Int), (∀ w, J26 w → w.cell? ((a3.add 2).add 0) = some (.int .u64 (i33))) ∧ Calls Tryz.prog 28 #[.agg g27] w25 fun e34 w35 => ∃ (g36 : Array Value), g36.size = 4 ∧ e34 = .returned (.agg g36) ∧ J26 w35 ∧ Calls Tryz.prog 48 #[.int .u64 (i31), .int .u64 (i32)] w35 fun e37 w38 => ∃ (p39 : Option Addr), e37 = .returned (.pointer p39) ∧ J26 w38 ∧ ∃ (v40 : Value) (r86 : List Value), g28.toList = v40 :: r86 ∧ ∃ (v41 : Value) (r87 : List Value), r86 = v41 :: r87 ∧ ∃ (v42 : Value) (r88 : List Value), r87 = v42 :: r88 ∧ ∃ (v43 : Value) (r89 : List Value), r88 = v43 :: r89 ∧ r89 = [] ∧ ∃ (v44 : Value) (r82 : List Value), g36.toList = v44 :: r82 ∧ ∃ (v45 : Value) (r83 : List Value), r82 = v45 :: r83 ∧ ∃ (v46 : Value) (r84 : List Value), r83 = v46 :: r84 ∧ ∃ (v47 : Value) (r85 : List Value), r84 = v47 :: r85 ∧ r85 = [] ∧ vnew w38 (.cells #[v40, v41, v42, v43, .int .u64 (i29), .int .i64 (i30), .int .i64 0, .int .i64 0, .int .i64 0, .pointer p39, v44, v45, v46, v47, .int .u64 (i33), .pointer Option.none, .pointer Option.none, .slice Option.none 0 0, .bool false, .bool false, .int .u64 0] 74) fun a48 w49 => ∃ J50 : List Value → World → Prop, (∃ (s51 : Option Addr) (s51n s51c : Nat), w49.cell? ((a48.add 10).add 2) = some (.slice s51 s51n s51c) ∧ vif (((s51n : Nat) : Int) == 0)
 (∃ (s52 : Option Addr) (s52n s52c : Nat), w49.cell? (a1.add 1) = some (.slice s52 s52n s52c) ∧ Calls Tryz.prog 47 #[.slice s52 s52n s52c] w49 fun e53 w54 => ∃ (s55 : Option Addr) (s55n s55c : Nat), e53 = .returned (.slice s55 s55n s55c) ∧ vstore1 w54 ((a48.add 10).add 2) (.slice s55 s55n s55c) fun w56 => J50 [] w56)
 (J50 [] w49))
 ∧ (∀ w57, J50 [] w57 → vdraw w57 fun w58 => ∃ (p59 : Option Addr), w58.cell? (a48.add 9) = some (.pointer p59) ∧ ∃ (i60 : Int), w58.cell? ((a3.add 2).add 0) = some (.int .u64 (i60)) ∧ ∃ (i61 : Int), w58.cell? ((a3.add 2).add 1) = some (.int .u64 (i61)) ∧ ∃ (s62 : Option Addr) (s62n s62c : Nat), w58.cell? (a3.add 6) = some (.slice s62 s62n s62c) ∧ Calls Tryz.prog 49 #[.pointer p59, .int .u64 (i60), .int .u64 (i61), .slice s62 s62n s62c] w58 fun e63 w64 => ∃ (i65 : Int), ∃ (i66 : Int), e63 = .returned (.tuple #[.int .u64 (i65), .int .i64 (i66)]) ∧ ∃ (p67 : Option Addr), w64.cell? (a48.add 9) = some (.pointer p67) ∧ Calls Tryz.prog 33 #[.pointer p67] w64 fun e68 w69 => ∃ (i70 : Int), ∃ (i71 : Int), e68 = .returned (.tuple #[.int .u64 (i70), .int .u64 (i71)]) ∧ vif ((i66 : Int) != 0)
 (R (.tuple #[.pointer Option.none, .int .i64 2]) w69)
 (∃ (i72 : Int), w69.cell? (a3.add 1) = some (.int .i64 (i72)) ∧ vif (decide ((i72 : Int) < 0))
 (R (.tuple #[.pointer Option.none, .int .i64 2]) w69)
 (∃ (i73 : Int), w69.cell? (a3.add 1) = some (.int .i64 (i73)) ∧ vif (decide ((i73 : Int) > 7))
 (R (.tuple #[.pointer Option.none, .int .i64 2]) w69)
 (∃ (i74 : Int), w69.cell? (a3.add 0) = some (.int .u64 (i74)) ∧ vif (decide ((i74 : Int) < i71))
 (R (.tuple #[.pointer Option.none, .int .i64 2]) w69)
 (∃ (i75 : Int), w69.cell? (a3.add 0) = some (.int .u64 (i75)) ∧ vif (decide ((i75 : Int) > 4611686018427387904))
 (R (.tuple #[.pointer Option.none, .int .i64 2]) w69)
 (∃ (i76 : Int), w69.cell? ((a3.add 2).add 0) = some (.int .u64 (i76)) ∧ vif (decide ((i76 : Int) > 4611686018427387904))
 (R (.tuple #[.pointer Option.none, .int .i64 2]) w69)
 (∃ (s77 : Option Addr) (s77n s77c : Nat), w69.cell? ((a48.add 10).add 2) = some (.slice s77 s77n s77c) ∧ Calls Tryz.prog 46 #[.slice s77 s77n s77c] w69 fun e78 w79 => ∃ (b80 : Bool), e78 = .returned (.bool (b80)) ∧ vif (!b80)
 (R (.tuple #[.pointer Option.none, .int .i64 2]) w79)
 (vstore1 w79 (a48.add 20) (.int .u64 (i70)) fun w81 => R (.tuple #[.pointer (some a48), .int .i64 0]) w81)))))))))

def A22 : Ann := .seq (.leaf) (.cut [] (.seq (.leaf) (.two (.seq (.leaf) (.leaf)) (.leaf))) (.seq (.leaf) (.seq (.ordJ (.op 1 (.op 3 (.op 5 (.op 8 (.op 9 (.op 11 (.op 12 (.op 15 (.op 16 (.op 6 (.far 0 (.far 2 (.far 4 (.far 10 (.far 13 (.far 17 (.op 7 (.op 14 (.rest (.op 18 (.op 19 (.op 20 .done))))))))))))))))))))))) (.cut [] (.seq (.leaf) (.two (.leaf) (.leaf))) (.seq (.ord (.op 0 (.op 1 (.op 2 (.op 4 (.op 5 (.op 7 (.op 8 (.op 10 (.op 3 (.op 6 (.op 9 (.op 11 (.op 12 (.op 13 (.op 14 (.op 15 (.op 16 (.op 17 .done))))))))))))))))))) (.seq (.leaf) (.seq (.seq (.leaf) (.two (.seq (.leaf) (.leaf)) (.leaf))) (.seq (.leaf) (.seq (.leaf) (.leaf))))))))))

theorem e22 (x0 : Array Value) (x1 : Array Value) (w : World) (R : Value → World → Prop) : F22 x0 x1 w R = vfun Tryz.prog Tryz.f22 A22 [.agg x0, .agg x1] w R := by kernel_rfl
theorem c22 (x0 : Array Value) (x1 : Array Value) (w : World) {R : Value → World → Prop} (h : F22 x0 x1 w R) : Calls Tryz.prog 22 #[.agg x0, .agg x1] w fun e w' => ∃ v, e = .returned v ∧ R v w' :=
  calls_of_vfun (an := A22) mixed Tryz.func22 (by kernel_rfl) (by kernel_rfl) ((e22 x0 x1 w R).mp h)

/-- (*compline/raft.Node).Change -/
def F23 (x0 : Addr) (x1 : Option Addr) (x1n x1c : Nat) (w : World) (R : Value → World → Prop) : Prop :=
 ∃ (i1 : Int), w.cell? (x0.add 6) = some (.int .i64 (i1)) ∧ vif ((i1 : Int) != 3)
 (R (.tuple #[.int .u64 0, .int .i64 18]) w)
 (Calls Tryz.prog 31 #[.pointer (some x0)] w fun e2 w3 => ∃ (s4 : Option Addr) (s4n s4c : Nat), e2 = .returned (.slice s4 s4n s4c) ∧ Calls Tryz.prog 50 #[.slice s4 s4n s4c, .slice x1 x1n x1c] w3 fun e5 w6 => ∃ (b7 : Bool), e5 = .returned (.bool (b7)) ∧ vif (!b7)
 (R (.tuple #[.int .u64 0, .int .i64 1]) w6)
 (∃ (p8 : Option Addr), w6.cell? (x0.add 9) = some (.pointer p8) ∧ Calls Tryz.prog 33 #[.pointer p8] w6 fun e9 w10 => ∃ (i11 : Int), ∃ (i12 : Int), e9 = .returned (.tuple #[.int .u64 (i11), .int .u64 (i12)]) ∧ vdraw w10 fun w13 => ∃ (p14 : Option Addr), w13.cell? (x0.add 9) = some (.pointer p14) ∧ ∃ (s15 : Option Addr) (s15n s15c : Nat), w13.cell? ((x0.add 10).add 2) = some (.slice s15 s15n s15c) ∧ Calls Tryz.prog 51 #[.pointer p14, .slice s15 s15n s15c, .int .u64 (i11)] w13 fun e16 w17 => ∃ (s18 : Option Addr) (s18n s18c : Nat), ∃ (i19 : Int), e16 = .returned (.tuple #[.slice s18 s18n s18c, .int .u64 (i19)]) ∧ vdraw w17 fun w20 => ∃ (p21 : Option Addr), w20.cell? (x0.add 9) = some (.pointer p21) ∧ ∃ (i22 : Int), w20.cell? (x0.add 14) = some (.int .u64 (i22)) ∧ Calls Tryz.prog 52 #[.pointer p21, .int .u64 (i22)] w20 fun e23 w24 => ∃ (i25 : Int), ∃ (i26 : Int), e23 = .returned (.tuple #[.int .u64 (i25), .int .i64 (i26)]) ∧ ∃ (i27 : Int), w24.cell? (x0.add 14) = some (.int .u64 (i27)) ∧ vif (decide ((i19 : Int) > i27))
 (R (.tuple #[.int .u64 0, .int .i64 10]) w24)
 (∃ (i28 : Int), w24.cell? (x0.add 4) = some (.int .u64 (i28)) ∧ vif ((i25 : Int) != i28)
 (R (.tuple #[.int .u64 0, .int .i64 10]) w24)
 (Calls Tryz.prog 53 #[.slice x1 x1n x1c] w24 fun e29 w30 => ∃ (s31 : Option Addr) (s31n s31c : Nat), ∃ (i32 : Int), e29 = .returned (.tuple #[.slice s31 s31n s31c, .int .i64 (i32)]) ∧ Calls Tryz.prog 44 #[.pointer (some x0), .bool true, .slice s31 s31n s31c] w30 fun e33 w34 => ∃ (i35 : Int), ∃ (i36 : Int), e33 = .returned (.tuple #[.int .u64 (i35), .int .i64 (i36)]) ∧ R (.tuple #[.int .u64 (i35), .int .i64 (i36)]) w34))))

def A23 : Ann := .seq (.leaf) (.seq (.one (.seq (.leaf) (.two (.seq (.leaf) (.leaf)) (.seq (.leaf) (.two (.seq (.leaf) (.leaf)) (.seq (.leaf) (.two (.seq (.leaf) (.leaf)) (.leaf)))))))) (.seq (.leaf) (.seq (.ord (.op 0 (.op 1 (.op 2 (.op 4 (.op 5 (.op 6 (.op 7 (.op 9 (.op 3 (.op 8 (.op 10 (.op 11 (.op 12 (.op 13 (.op 14 (.op 15 .done))))))))))))))))) (.seq (.seq (.ord (.op 0 (.op 1 (.op 2 (.op 4 (.op 5 (.op 6 (.op 3 (.op 7 (.op 8 (.op 9 (.op 10 (.op 11 (.op 12 (.op 13 .done))))))))))))))) (.seq (.leaf) (.two (.seq (.leaf) (.leaf)) (.leaf)))) (.seq (.leaf) (.seq (.leaf) (.leaf)))))))

theorem e23 (x0 : Addr) (x1 : Option Addr) (x1n x1c : Nat) (w : World) (R : Value → World → Prop) : F23 x0 x1 x1n x1c w R = vfun Tryz.prog Tryz.f23 A23 [.pointer (some x0), .slice x1 x1n x1c] w R := by kernel_rfl
theorem c23 (x0 : Addr) (x1 : Option Addr) (x1n x1c : Nat) (w : World) {R : Value → World → Prop} (h : F23 x0 x1 x1n x1c w R) : Calls Tryz.prog 23 #[.pointer (some x0), .slice x1 x1n x1c] w fun e w' => ∃ v, e = .returned v ∧ R v w' :=
  calls_of_vfun (an := A23) mixed Tryz.func23 (by kernel_rfl) (by kernel_rfl) ((e23 x0 x1 x1n x1c w R).mp h)

/-- (*compline/raft.Node).Compact -/
def F25 (x0 : Addr) (x1 : Int) (x2 : Option Addr) (x2n x2c : Nat) (w : World) (R : Value → World → Prop) : Prop :=
 ∃ J1 : List Value → World → Prop, (∃ (p2 : Option Addr), w.cell? (x0.add 9) = some (.pointer p2) ∧ Calls Tryz.prog 26 #[.pointer p2] w fun e3 w4 => ∃ (i5 : Int), ∃ (i6 : Int), e3 = .returned (.tuple #[.int .u64 (i5), .int .u64 (i6)]) ∧ ∃ (i7 : Int), w4.cell? (x0.add 14) = some (.int .u64 (i7)) ∧ vif (decide ((x1 : Int) > i7))
 (R (.int .i64 10) w4)
 (vif (decide ((x1 : Int) ≤ i5))
 (R (.int .i64 10) w4)
 (J1 [] w4)))
 ∧ (∀ w8, J1 [] w8 → ∃ (p9 : Option Addr), w8.cell? (x0.add 9) = some (.pointer p9) ∧ Calls Tryz.prog 52 #[.pointer p9, .int .u64 (x1)] w8 fun e10 w11 => ∃ (i12 : Int), ∃ (i13 : Int), e10 = .returned (.tuple #[.int .u64 (i12), .int .i64 (i13)]) ∧ vdraw w11 fun w14 => ∃ (p15 : Option Addr), w14.cell? (x0.add 9) = some (.pointer p15) ∧ ∃ (s16 : Option Addr) (s16n s16c : Nat), w14.cell? ((x0.add 10).add 2) = some (.slice s16 s16n s16c) ∧ Calls Tryz.prog 51 #[.pointer p15, .slice s16 s16n s16c, .int .u64 (x1)] w14 fun e17 w18 => ∃ (s19 : Option Addr) (s19n s19c : Nat), ∃ (i20 : Int), e17 = .returned (.tuple #[.slice s19 s19n s19c, .int .u64 (i20)]) ∧ Calls Tryz.prog 28 #[.agg #[.int .u64 (x1), .int .u64 (i12), .slice s19 s19n s19c, .slice x2 x2n x2c]] w18 fun e21 w22 => ∃ (g23 : Array Value), g23.size = 4 ∧ e21 = .returned (.agg g23) ∧ vstoreN w22 (x0.add 10) 4 g23 fun w24 => ∃ (p25 : Option Addr), w24.cell? (x0.add 9) = some (.pointer p25) ∧ Calls Tryz.prog 54 #[.pointer p25, .int .u64 (x1)] w24 fun e26 w27 => ∃ (i28 : Int), e26 = .returned (.int .i64 (i28)) ∧ ∃ (i29 : Int), w27.cell? (x0.add 20) = some (.int .u64 (i29)) ∧ vstore1 w27 (x0.add 19) (.bool true) fun w30 => vstore1 w30 (x0.add 20) (.int .u64 (if i29 < x1 then x1 else i29)) fun w31 => R (.int .i64 0) w31)

def A25 : Ann := .seq (.leaf) (.seq (.seq (.leaf) (.two (.seq (.leaf) (.leaf)) (.leaf))) (.cut [] (.seq (.leaf) (.seq (.leaf) (.two (.seq (.leaf) (.leaf)) (.leaf)))) (.seq (.leaf) (.seq (.ord (.op 0 (.op 1 (.op 2 (.op 4 (.op 5 (.op 6 (.op 7 (.op 9 (.op 3 (.op 8 (.op 10 (.op 11 (.op 12 (.op 13 (.op 14 (.op 15 .done))))))))))))))))) (.seq (.leaf) (.seq (.leaf) (.seq (.leaf) (.seq (.leaf) (.leaf)))))))))

theorem e25 (x0 : Addr) (x1 : Int) (x2 : Option Addr) (x2n x2c : Nat) (w : World) (R : Value → World → Prop) : F25 x0 x1 x2 x2n x2c w R = vfun Tryz.prog Tryz.f25 A25 [.pointer (some x0), .int .u64 (x1), .slice x2 x2n x2c] w R := by kernel_rfl
theorem c25 (x0 : Addr) (x1 : Int) (x2 : Option Addr) (x2n x2c : Nat) (w : World) {R : Value → World → Prop} (h : F25 x0 x1 x2 x2n x2c w R) : Calls Tryz.prog 25 #[.pointer (some x0), .int .u64 (x1), .slice x2 x2n x2c] w fun e w' => ∃ v, e = .returned v ∧ R v w' :=
  calls_of_vfun (an := A25) mixed Tryz.func25 (by kernel_rfl) (by kernel_rfl) ((e25 x0 x1 x2 x2n x2c w R).mp h)

/-- compline/raft.clone -/
def F28 (x0 : Array Value) (w : World) (R : Value → World → Prop) : Prop :=
 vnew w (.cells x0 40) fun a1 w2 => vnew w2 (.cells #[.int .u64 0, .int .u64 0, .slice Option.none 0 0, .slice Option.none 0 0] 40) fun a3 w4 => vdraw w4 fun w5 => ∃ J6 : World → Prop, J6 w5 ∧ ∃ (s7 : Option Addr) (s7n s7c : Nat), w5.cell? (a1.add 2) = some (.slice s7 s7n s7c) ∧ ∃ (s8 : Option Addr) (s8n s8c : Nat), (∀ w, J6 w → w.cell? (a1.add 3) = some (.slice s8 s8n s8c)) ∧ Calls Tryz.prog 47 #[.slice s7 s7n s7c] w5 fun e9 w10 => ∃ (s11 : Option Addr) (s11n s11c : Nat), e9 = .returned (.slice s11 s11n s11c) ∧ J6 w10 ∧ Calls Tryz.prog 56 #[.slice s8 s8n s8c] w10 fun e12 w13 => ∃ (s14 : Option Addr) (s14n s14c : Nat), e12 = .returned (.slice s14 s14n s14c) ∧ vstore1 w13 (a1.add 2) (.slice s11 s11n s11c) fun w15 => vstore1 w15 (a1.add 3) (.slice s14 s14n s14c) fun w16 => vcells 4 w16 a1 fun g17 => vstoreN w16 a3 4 g17 fun w18 => vcells 4 w18 a3 fun g19 => R (.agg g19) w18

def A28 : Ann := .seq (.leaf) (.seq (.ordJ (.op 0 (.op 3 (.op 1 (.far 4 (.op 2 (.rest (.op 6 (.op 5 (.op 7 (.op 8 (.op 9 .done)))))))))))) (.seq (.leaf) (.leaf)))

theorem e28 (x0 : Array Value) (w : World) (R : Value → World → Prop) : F28 x0 w R = vfun Tryz.prog Tryz.f28 A28 [.agg x0] w R := by kernel_rfl
theorem c28 (x0 : Array Value) (w : World) {R : Value → World → Prop} (h : F28 x0 w R) : Calls Tryz.prog 28 #[.agg x0] w fun e w' => ∃ v, e = .returned v ∧ R v w' :=
  calls_of_vfun (an := A28) mixed Tryz.func28 (by kernel_rfl) (by kernel_rfl) ((e28 x0 w R).mp h)

/-- (*compline/raft.Node).all -/
def F29 (x0 : Addr) (w : World) (R : Value → World → Prop) : Prop :=
 vstore1 w (x0.add 8) (.int .i64 0) fun w1 => Calls Tryz.prog 57 #[.pointer (some x0)] w1 fun e2 w3 => ∃ (s4 : Option Addr) (s4n s4c : Nat), e2 = .returned (.slice s4 s4n s4c) ∧ ∃ (I5 : List Value → World → Prop) (μ6 : List Value → World → Nat), (I5 [.int .i64 0] w3)
 ∧ (∀ (i7 : Int), ∀ w8, I5 [.int .i64 (i7)] w8 → vif (decide ((i7 : Int) < (s4n : Nat)))
 (vidx s4 s4n i7 fun a9 => ∃ (i10 : Int), w8.cell? (a9.add ((i7 : Int).toNat * 1)) = some (.int .i64 (i10)) ∧ Calls Tryz.prog 58 #[.pointer (some x0), .int .i64 (i10)] w8 fun e11 w12 => e11 = .returned (.tuple #[]) ∧ I5 [.int .i64 (IntKind.i64.wrap (i7 + 1))] w12 ∧ μ6 [.int .i64 (IntKind.i64.wrap (i7 + 1))] w12 < μ6 [.int .i64 (i7)] w8)
 (R (.tuple #[]) w8))

def A29 : Ann := .seq (.leaf) (.seq (.leaf) (.one (.loop [(10, .int .i64)] (.seq (.leaf) (.seq (.two (.leaf) (.leaf)) (.seq (.one (.seq (.leaf) (.leaf))) (.leaf)))))))

theorem e29 (x0 : Addr) (w : World) (R : Value → World → Prop) : F29 x0 w R = vfun Tryz.prog Tryz.f29 A29 [.pointer (some x0)] w R := by kernel_rfl
theorem c29 (x0 : Addr) (w : World) {R : Value → World → Prop} (h : F29 x0 w R) : Calls Tryz.prog 29 #[.pointer (some x0)] w fun e w' => ∃ v, e = .returned v ∧ R v w' :=
  calls_of_vfun (an := A29) mixed Tryz.func29 (by kernel_rfl) (by kernel_rfl) ((e29 x0 w R).mp h)

/-- (*compline/raft.Node).Members -/
def F31 (x0 : Addr) (w : World) (R : Value → World → Prop) : Prop :=
 ∃ (p1 : Option Addr), w.cell? (x0.add 9) = some (.pointer p1) ∧ Calls Tryz.prog 33 #[.pointer p1] w fun e2 w3 => ∃ (i4 : Int), ∃ (i5 : Int), e2 = .returned (.tuple #[.int .u64 (i4), .int .u64 (i5)]) ∧ vdraw w3 fun w6 => ∃ (p7 : Option Addr), w6.cell? (x0.add 9) = some (.pointer p7) ∧ ∃ (s8 : Option Addr) (s8n s8c : Nat), w6.cell? ((x0.add 10).add 2) = some (.slice s8 s8n s8c) ∧ Calls Tryz.prog 51 #[.pointer p7, .slice s8 s8n s8c, .int .u64 (i4)] w6 fun e9 w10 => ∃ (s11 : Option Addr) (s11n s11c : Nat), ∃ (i12 : Int), e9 = .returned (.tuple #[.slice s11 s11n s11c, .int .u64 (i12)]) ∧ R (.slice s11 s11n s11c) w10

def A31 : Ann := .seq (.leaf) (.seq (.seq (.leaf) (.two (.seq (.leaf) (.leaf)) (.leaf))) (.seq (.leaf) (.seq (.ord (.op 0 (.op 1 (.op 2 (.op 4 (.op 5 (.op 6 (.op 7 (.op 9 (.op 3 (.op 8 (.op 10 (.op 11 (.op 12 (.op 13 (.op 14 (.op 15 .done))))))))))))))))) (.seq (.leaf) (.leaf)))))

theorem e31 (x0 : Addr) (w : World) (R : Value → World → Prop) : F31 x0 w R = vfun Tryz.prog Tryz.f31 A31 [.pointer (some x0)] w R := by kernel_rfl
theorem c31 (x0 : Addr) (w : World) {R : Value → World → Prop} (h : F31 x0 w R) : Calls Tryz.prog 31 #[.pointer (some x0)] w fun e w' => ∃ v, e = .returned v ∧ R v w' :=
  calls_of_vfun (an := A31) mixed Tryz.func31 (by kernel_rfl) (by kernel_rfl) ((e31 x0 w R).mp h)

/-- (*compline/raft.Node).asks -/
def F32 (x0 : Addr) (w : World) (R : Value → World → Prop) : Prop :=
 vstore1 w (x0.add 8) (.int .i64 0) fun w1 => vstore1 w1 (x0.add 6) (.int .i64 1) fun w2 => vstore1 w2 (x0.add 7) (.int .i64 0) fun w3 => vstore1 w3 (x0.add 16) (.pointer Option.none) fun w4 => Calls Tryz.prog 60 #[.pointer (some x0)] w4 fun e5 w6 => ∃ (i7 : Int), e5 = .returned (.int .i64 (i7)) ∧ vif ((i7 : Int) == 1)
 (Calls Tryz.prog 61 #[.pointer (some x0)] w6 fun e8 w9 => e8 = .returned (.tuple #[]) ∧ R (.tuple #[]) w9)
 (∃ (i10 : Int), w6.cell? (x0.add 4) = some (.int .u64 (i10)) ∧ Calls Tryz.prog 62 #[.pointer (some x0), .int .i64 0, .int .u64 (IntKind.u64.wrap (i10 + 1))] w6 fun e11 w12 => e11 = .returned (.tuple #[]) ∧ R (.tuple #[]) w12)

def A32 : Ann := .seq (.leaf) (.seq (.seq (.leaf) (.two (.seq (.leaf) (.leaf)) (.leaf))) (.leaf))

theorem e32 (x0 : Addr) (w : World) (R : Value → World → Prop) : F32 x0 w R = vfun Tryz.prog Tryz.f32 A32 [.pointer (some x0)] w R := by kernel_rfl
theorem c32 (x0 : Addr) (w : World) {R : Value → World → Prop} (h : F32 x0 w R) : Calls Tryz.prog 32 #[.pointer (some x0)] w fun e w' => ∃ v, e = .returned v ∧ R v w' :=
  calls_of_vfun (an := A32) mixed Tryz.func32 (by kernel_rfl) (by kernel_rfl) ((e32 x0 w R).mp h)


end Rx
end Go.Proofs.YtkoipeddfbeliaaGreat

/-
  A node in memory.
-/
namespace Go.Proofs.YtkoipeddfbeliaaGreat
namespace Rx
open Go.RowKit Md
set_option maxRecDepth 100000

/-- where a node's parts lie -/
structure Raw where
  cm : SV
  lb : Nat
  ls : SV
  lps : List (Ent × SV)
  im : SV
  dat : SV
  data : List UInt8
  poll : Option (Nat × Nat × SV)
  track : Option (Nat × Nat)
  out : SV
  ops : List (Msg × MD)
  hard : Bool
  fresh : Bool
  stable : Int

def at0 (b : Nat) : Addr := ⟨b, 0, none⟩

def cellsN (n : Md.Node) (r : Raw) : Array Value := #[
  .int .i64 (n.id : Int), .slice r.cm.p r.cm.n r.cm.c, .int .i64 (n.elect : Int), .int .i64 (n.beat : Int), .int .u64 (n.term : Int), .int .i64 (n.vote : Int), .int .i64 (n.role : Int),
  .int .i64 (n.leader : Int), .int .i64 (n.since : Int), .pointer (some (at0 r.lb)), .int .u64 (n.img.index : Int), .int .u64 (n.img.term : Int), .slice r.im.p r.im.n r.im.c, .slice r.dat.p r.dat.n r.dat.c,
  .int .u64 (n.commit : Int), .pointer (r.poll.map fun p => at0 p.1), .pointer (r.track.map fun p => at0 p.1), .slice r.out.p r.out.n r.out.c, .bool r.hard, .bool r.fresh, .int .u64 r.stable]

def pollF (r : Raw) : List Nat := match r.poll with | some p => [p.1, p.2.1] | none => []
def trackF (r : Raw) : List Nat := match r.track with | some p => [p.1, p.2] | none => []
/-- a node's own blocks -/
def foot (b : Nat) (r : Raw) : List Nat := b :: r.lb :: (r.ls.own ++ (pollF r ++ (trackF r ++ r.out.own)))

def PollR (w : World) : Option Ballot → Option (Nat × Nat × SV) → Prop
  | none, none => True
  | some bal, some (pb, mb, s) => BallotR w pb mb bal s
  | _, _ => False
def TrkR (w : World) : Option Track → Option (Nat × Nat) → Prop
  | none, none => True
  | some t, some (tb, mb) => TrackR w tb mb t
  | _, _ => False

/-- all but the node's block -/
structure Sub (w : World) (n : Md.Node) (r : Raw) : Prop where
  cm : Ints w r.cm n.cm
  log : LogR w r.lb n.log r.ls r.lps
  im : Ints w r.im n.img.members
  dat : Bytes w r.dat r.data
  poll : PollR w n.poll r.poll
  track : TrkR w n.track r.track
  out : Msgs w r.out n.out r.ops
  dn : r.data.length ≤ 1000000

structure NodeR (w : World) (b : Nat) (n : Md.Node) (r : Raw) : Prop where
  blk : Blk w b (cellsN n r) 74
  sub : Sub w n r
  nd : (foot b r).Nodup

theorem Sub.step {w w' : World} {n : Md.Node} {r : Raw} (h : Sub w n r) (k : Keeps w w') {M : List Nat} (f : Fr M w w') (hm : ∀ x ∈ r.lb :: (r.ls.own ++ (pollF r ++ (trackF r ++ r.out.own))), x ∉ M) : Sub w' n r where
  cm := Sl.keeps h.cm k (.inl rfl)
  log := h.log.fr f k (hm _ (by simp)) fun x hx => hm _ (by simp [hx])
  im := Sl.keeps h.im k (.inl rfl)
  dat := Sl.keeps h.dat k (.inr rfl)
  poll := by
    have hp := h.poll
    have hm' : ∀ x ∈ pollF r, x ∉ M := fun x hx => hm _ (by simp [hx])
    cases h1 : n.poll <;> cases h2 : r.poll <;> simp only [h1, h2, PollR] at hp ⊢
    simp only [pollF, h2] at hm'
    exact hp.step k f (hm' _ (by simp)) (hm' _ (by simp))
  track := by
    have hp := h.track
    have hm' : ∀ x ∈ trackF r, x ∉ M := fun x hx => hm _ (by simp [hx])
    cases h1 : n.track <;> cases h2 : r.track <;> simp only [h1, h2, TrkR] at hp ⊢
    simp only [trackF, h2] at hm'
    exact hp.step f (hm' _ (by simp)) (hm' _ (by simp))
  out := h.out.step k f fun x hx => hm _ (by simp [hx])
  dn := h.dn

section
variable {w : World} {b : Nat} {n n' : Md.Node} {r r' : Raw}

theorem NodeR.step (h : NodeR w b n r) {w' : World} (k : Keeps w w') {M : List Nat} (f : Fr M w w') (hm : ∀ x ∈ foot b r, x ∉ M) : NodeR w' b n r :=
  ⟨f.blk h.blk (hm _ (by simp [foot])), h.sub.step k f fun x hx => hm x (List.mem_cons_of_mem _ hx), h.nd⟩
theorem NodeR.ex (h : NodeR w b n r) {w' : World} (e : Ex w w') : NodeR w' b n r := h.step e.keeps (e.fr []) (by simp)

/-- a cell of a node is written -/
theorem NodeR.store (h : NodeR w b n r) {i : Nat} (hi : i < 21) {v : Value} (n' : Md.Node) (r' : Raw) (hc : (cellsN n r).setIfInBounds i v = cellsN n' r') (hs : ∀ w', Sub w' n r → Sub w' n' r') (hf : (foot b r').Sublist (foot b r))
    {K : World → Prop} (hK : ∀ w', NodeR w' b n' r' → Step (foot b r) (foot b r') w w' → K w') : vstore1 w ⟨b, i, none⟩ v K := by
  refine vstore1_mk h.blk (by simpa [cellsN] using hi) fun w' p => ?_
  have k := p.keeps h.blk (by decide)
  have hnd := h.nd
  have hnin : b ∉ r.lb :: (r.ls.own ++ (pollF r ++ (trackF r ++ r.out.own))) := (List.nodup_cons.1 hnd).1
  refine hK w' ⟨by rw [← hc]; exact p.blk, hs w' (h.sub.step k (p.fr (M := [b]) (by simp)) fun x hx hxb => ?_), hf.nodup hnd⟩ ⟨p.fr (by simp [foot]), k, fun x hx => .inl (hf.subset hx)⟩
  simp only [List.mem_singleton] at hxb
  subst hxb
  exact hnin hx

theorem NodeR.cell (h : NodeR w b n r) (i : Nat) : w.cell? ⟨b, i, none⟩ = (cellsN n r)[i]? := h.blk.cell i

theorem NodeR.stTerm (h : NodeR w b n r) (x : Nat) {K : World → Prop} (hK : ∀ w', NodeR w' b { n with term := x } r → Step (foot b r) (foot b r) w w' → K w') : vstore1 w ⟨b, 4, none⟩ (.int .u64 (x : Int)) K :=
  h.store (by decide) { n with term := x } r rfl (fun _ s => ⟨s.cm, s.log, s.im, s.dat, s.poll, s.track, s.out, s.dn⟩) (List.Sublist.refl _) hK

theorem NodeR.stVote (h : NodeR w b n r) (x : Nat) {K : World → Prop} (hK : ∀ w', NodeR w' b { n with vote := x } r → Step (foot b r) (foot b r) w w' → K w') : vstore1 w ⟨b, 5, none⟩ (.int .i64 (x : Int)) K :=
  h.store (by decide) { n with vote := x } r rfl (fun _ s => ⟨s.cm, s.log, s.im, s.dat, s.poll, s.track, s.out, s.dn⟩) (List.Sublist.refl _) hK

theorem NodeR.stRole (h : NodeR w b n r) (x : Nat) {K : World → Prop} (hK : ∀ w', NodeR w' b { n with role := x } r → Step (foot b r) (foot b r) w w' → K w') : vstore1 w ⟨b, 6, none⟩ (.int .i64 (x : Int)) K :=
  h.store (by decide) { n with role := x } r rfl (fun _ s => ⟨s.cm, s.log, s.im, s.dat, s.poll, s.track, s.out, s.dn⟩) (List.Sublist.refl _) hK

theorem NodeR.stLeader (h : NodeR w b n r) (x : Nat) {K : World → Prop} (hK : ∀ w', NodeR w' b { n with leader := x } r → Step (foot b r) (foot b r) w w' → K w') : vstore1 w ⟨b, 7, none⟩ (.int .i64 (x : Int)) K :=
  h.store (by decide) { n with leader := x } r rfl (fun _ s => ⟨s.cm, s.log, s.im, s.dat, s.poll, s.track, s.out, s.dn⟩) (List.Sublist.refl _) hK

theorem NodeR.stSince (h : NodeR w b n r) (x : Nat) {K : World → Prop} (hK : ∀ w', NodeR w' b { n with since := x } r → Step (foot b r) (foot b r) w w' → K w') : vstore1 w ⟨b, 8, none⟩ (.int .i64 (x : Int)) K :=
  h.store (by decide) { n with since := x } r rfl (fun _ s => ⟨s.cm, s.log, s.im, s.dat, s.poll, s.track, s.out, s.dn⟩) (List.Sublist.refl _) hK

theorem NodeR.stCommit (h : NodeR w b n r) (x : Nat) {K : World → Prop} (hK : ∀ w', NodeR w' b { n with commit := x } r → Step (foot b r) (foot b r) w w' → K w') : vstore1 w ⟨b, 14, none⟩ (.int .u64 (x : Int)) K :=
  h.store (by decide) { n with commit := x } r rfl (fun _ s => ⟨s.cm, s.log, s.im, s.dat, s.poll, s.track, s.out, s.dn⟩) (List.Sublist.refl _) hK

theorem NodeR.stPoll (h : NodeR w b n r)  {K : World → Prop} (hK : ∀ w', NodeR w' b { n with poll := none } { r with poll := none } → Step (foot b r) (foot b { r with poll := none }) w w' → K w') : vstore1 w ⟨b, 15, none⟩ (.pointer none) K :=
  h.store (by decide) { n with poll := none } { r with poll := none } rfl (fun _ s => ⟨s.cm, s.log, s.im, s.dat, trivial, s.track, s.out, s.dn⟩) (by simp only [foot, pollF, trackF, List.nil_append]; exact ((List.sublist_append_right _ _).append_left _).cons_cons _ |>.cons_cons _) hK

theorem NodeR.stTrack (h : NodeR w b n r)  {K : World → Prop} (hK : ∀ w', NodeR w' b { n with track := none } { r with track := none } → Step (foot b r) (foot b { r with track := none }) w w' → K w') : vstore1 w ⟨b, 16, none⟩ (.pointer none) K :=
  h.store (by decide) { n with track := none } { r with track := none } rfl (fun _ s => ⟨s.cm, s.log, s.im, s.dat, s.poll, trivial, s.out, s.dn⟩) (by simp only [foot, pollF, trackF, List.nil_append]; exact (((List.sublist_append_right _ _).append_left _).append_left _).cons_cons _ |>.cons_cons _) hK

theorem NodeR.stOut (h : NodeR w b n r)  {K : World → Prop} (hK : ∀ w', NodeR w' b { n with out := [] } { r with out := .nil, ops := [] } → Step (foot b r) (foot b { r with out := .nil, ops := [] }) w w' → K w') : vstore1 w ⟨b, 17, none⟩ (.slice none 0 0) K :=
  h.store (by decide) { n with out := [] } { r with out := .nil, ops := [] } rfl (fun _ s => ⟨s.cm, s.log, s.im, s.dat, s.poll, s.track, Msgs.zero _, s.dn⟩) (by simp only [foot, pollF, trackF, SV.own, SV.nil]; exact ((((List.nil_sublist _).append_left _).append_left _).append_left _).cons_cons _ |>.cons_cons _) hK

theorem NodeR.stHard (h : NodeR w b n r) (x : Bool) {K : World → Prop} (hK : ∀ w', NodeR w' b n { r with hard := x } → Step (foot b r) (foot b { r with hard := x }) w w' → K w') : vstore1 w ⟨b, 18, none⟩ (.bool x) K :=
  h.store (by decide) n { r with hard := x } rfl (fun _ s => ⟨s.cm, s.log, s.im, s.dat, s.poll, s.track, s.out, s.dn⟩) (List.Sublist.refl _) hK

theorem NodeR.stFresh (h : NodeR w b n r) (x : Bool) {K : World → Prop} (hK : ∀ w', NodeR w' b n { r with fresh := x } → Step (foot b r) (foot b { r with fresh := x }) w w' → K w') : vstore1 w ⟨b, 19, none⟩ (.bool x) K :=
  h.store (by decide) n { r with fresh := x } rfl (fun _ s => ⟨s.cm, s.log, s.im, s.dat, s.poll, s.track, s.out, s.dn⟩) (List.Sublist.refl _) hK

theorem NodeR.stStable (h : NodeR w b n r) (x : Int) {K : World → Prop} (hK : ∀ w', NodeR w' b n { r with stable := x } → Step (foot b r) (foot b { r with stable := x }) w w' → K w') : vstore1 w ⟨b, 20, none⟩ (.int .u64 x) K :=
  h.store (by decide) n { r with stable := x } rfl (fun _ s => ⟨s.cm, s.log, s.im, s.dat, s.poll, s.track, s.out, s.dn⟩) (List.Sublist.refl _) hK

end

end Rx
end Go.Proofs.YtkoipeddfbeliaaGreat

/-
  The node's functions: the small ones.
-/
namespace Go.Proofs.YtkoipeddfbeliaaGreat
namespace Rx
open Go.RowKit Md
set_option maxRecDepth 100000

/-- what a function leaves of a node -/
def Act (w w' : World) (b : Nat) (r : Raw) (n' : Md.Node) : Prop := ∃ r', NodeR w' b n' r' ∧ Step (foot b r) (foot b r') w w'

section
variable {w : World} {b : Nat} {n : Md.Node} {r : Raw}

theorem follow37 (h : NodeR w b n r) (term leader : Nat) :
    Calls Tryz.prog 37 #[.pointer (some ⟨b, 0, none⟩), .int .u64 (term : Int), .int .i64 (leader : Int)] w fun e w' => e = .returned (.tuple #[]) ∧ Act w w' b r (n.follow term leader) := by
  refine ret (R := fun v w' => v = .tuple #[] ∧ Act w w' b r (n.follow term leader)) (c37 _ term leader w ?_) (fun v w' ⟨h1, h2⟩ => ⟨by rw [h1], h2⟩)
  simp only [F37, add_mk, Nat.zero_add]
  refine ⟨n.term, by rw [h.cell]; rfl, vif_mk (fun h1 => ?_) fun h1 => ?_⟩
  · have ht : n.term < term := by simp at h1; omega
    refine h.stTerm term fun w1 h1 s1 => h1.stVote 0 fun w2 h2 s2 => h2.stHard true fun w3 h3 s3 => h3.stRole 0 fun w4 h4 s4 => h4.stLeader leader fun w5 h5 s5 => h5.stPoll fun w6 h6 s6 => h6.stTrack fun w7 h7 s7 => ?_
    refine ⟨trivial, _, ?_, ((((((s1.trans s2).trans s3).trans s4).trans s5).trans s6).trans s7)⟩
    simp only [Md.Node.follow, if_pos ht]
    exact h7
  · have ht : ¬ n.term < term := by simp at h1; omega
    refine h.stRole 0 fun w4 h4 s4 => h4.stLeader leader fun w5 h5 s5 => h5.stPoll fun w6 h6 s6 => h6.stTrack fun w7 h7 s7 => ?_
    refine ⟨trivial, _, ?_, (((s4.trans s5).trans s6).trans s7)⟩
    simp only [Md.Node.follow, if_neg ht]
    exact h7

theorem NodeR.lt (h : NodeR w b n r) : ∀ x ∈ foot b r, x < w.heap.size := by
  intro x hx
  simp only [foot, List.mem_cons, List.mem_append] at hx
  rcases hx with rfl | rfl | hx | hx | hx | hx
  · exact h.blk.lt
  · exact h.sub.log.blk.lt
  · exact h.sub.log.ents.sl.own_lt x hx
  · have hp := h.sub.poll
    unfold pollF at hx
    cases h2 : r.poll with
    | none => rw [h2] at hx; simp at hx
    | some p =>
      rw [h2] at hx hp
      cases h1 : n.poll with
      | none => rw [h1] at hp; exact hp.elim
      | some bal =>
        rw [h1] at hp
        have hp : BallotR w p.1 p.2.1 bal p.2.2 := hp
        simp only [List.mem_cons, List.not_mem_nil, or_false] at hx
        rcases hx with rfl | rfl
        · exact hp.blk.lt
        · exact hp.votes.lt
  · have hp := h.sub.track
    unfold trackF at hx
    cases h2 : r.track with
    | none => rw [h2] at hx; simp at hx
    | some p =>
      rw [h2] at hx hp
      cases h1 : n.track with
      | none => rw [h1] at hp; exact hp.elim
      | some t =>
        rw [h1] at hp
        have hp : TrackR w p.1 p.2 t := hp
        simp only [List.mem_cons, List.not_mem_nil, or_false] at hx
        rcases hx with rfl | rfl
        · exact hp.blk.lt
        · exact hp.m.lt
  · exact h.sub.out.sl.own_lt x hx

theorem foot_out (b : Nat) (r : Raw) : ∀ x ∈ r.out.own, x ∈ foot b r := fun x hx => by simp [foot, hx]

theorem send66 (h : NodeR w b n r) (m : Msg) (x : MD) (hp : Parts w m x) (hl : n.out.length ≤ 1000000) :
    Calls Tryz.prog 66 #[.pointer (some ⟨b, 0, none⟩), .agg (mv m x).toArray] w fun e w' => e = .returned (.tuple #[]) ∧ Act w w' b r (n.send m) := by
  refine ret (R := fun v w' => v = .tuple #[] ∧ Act w w' b r (n.send m)) (c66 _ _ w ?_) (fun v w' ⟨h1, h2⟩ => ⟨by rw [h1], h2⟩)
  unfold F66
  refine vnew_mk fun w1 e1 s1 b1 => ?_
  have h1 := h.ex e1
  simp only [add_mk, Nat.zero_add]
  refine ⟨n.id, by rw [h1.cell]; rfl, ?_⟩
  refine vstore1_mk (cs := (mv m x).toArray) b1 (by simp [mv]) fun w2 p2 => vdraw_mk fun w3 e3 _ => ?_
  have e2 : Ex w w2 := e1.put p2 (Nat.le_refl _)
  have e13 := e2.trans e3
  have h3 := h.ex e13
  have hbox : Blk w3 w.heap.size (mv { m with frm := n.id } x).toArray 54 := e3.blk (by have := p2.blk; simpa [mv] using this)
  have hon := h3.sub.out.n
  refine ⟨r.out.p, r.out.n, r.out.c, by rw [h3.cell]; rfl, vcells_all hbox 11 rfl ⟨rfl, rfl, vnew_mk fun w4 e4 s4 b4 => ?_⟩⟩
  have h4 := h3.ex e4
  have e14 := e13.trans e4
  have hb4 : Blk w4 w3.heap.size (mc ({ m with frm := n.id }, x)).toArray 54 := by show w4.heap[w3.heap.size]? = _; rw [b4]; simp [mc]
  refine app54 (s := r.out) (q := ⟨some ⟨w3.heap.size, 0, none⟩, 1, 1⟩) h4.sub.out.sl (Sl.of_blk (n := 1) hb4 rfl) (fun v hv => one_mc [({ m with frm := n.id }, x)] v (by simpa using hv)) (by simp; omega) fun o w5 ho hon5 gg => ?_
  have k5 := gg.keeps (by decide)
  have hfoot := h4.nd
  have hown : ∀ y ∈ b :: r.lb :: (r.ls.own ++ (pollF r ++ trackF r)), y ∉ r.out.own := by
    intro y hy hyo
    have hp : List.Perm (foot b r) ((b :: r.lb :: (r.ls.own ++ (pollF r ++ trackF r))) ++ r.out.own) := by simp [foot]
    have := (hp.nodup_iff.1 hfoot)
    rw [List.nodup_append] at this
    exact this.2.2 y hy y hyo rfl
  have hb5 : Blk w5 b (cellsN n r) 74 := gg.fr.blk h4.blk (hown b (by simp))
  have hlt := h4.lt
  have hother : ∀ y ∈ r.lb :: (r.ls.own ++ (pollF r ++ (trackF r ++ []))), y ∉ b :: r.out.own := by
    intro y hy hyo
    rcases List.mem_cons.1 hyo with rfl | hyo
    · refine (List.nodup_cons.1 hfoot).1 ?_
      simp only [List.append_nil, List.mem_cons, List.mem_append] at hy ⊢
      rcases hy with hy | hy | hy | hy
      · exact .inl hy
      · exact .inr (.inl hy)
      · exact .inr (.inr (.inl hy))
      · exact .inr (.inr (.inr (.inl hy)))
    · exact hown y (by simp only [List.append_nil] at hy; exact List.mem_cons_of_mem _ hy) hyo
  have hoo : o.own = r.out.own ∨ o.own = [w4.heap.size] ∨ o.own = [] := by
    cases gg with
    | here a cs hp hb hw hr hc hn => left; simp only [SV.own, hr]
    | stay hp hr hw => right; right; simp [SV.own, hr]
    | fresh hr hw cs hb ht => right; left; simp [SV.own, hr]
  refine vstore1_mk hb5 (by simp [cellsN]) fun w6 p6 => ?_
  have k6 := p6.keeps hb5 (by decide)
  have k46 := k5.trans k6
  have f46 : Fr (b :: r.out.own) w4 w6 := (gg.fr.mono fun y hy => List.mem_cons_of_mem _ hy).trans (p6.fr (by simp))
  have hs0 : Sub w4 { n with out := [] } { r with out := .nil, ops := [] } := ⟨h4.sub.cm, h4.sub.log, h4.sub.im, h4.sub.dat, h4.sub.poll, h4.sub.track, Msgs.zero _, h4.sub.dn⟩
  have hs6 := hs0.step k46 f46 hother
  have hbo : b ∉ o.own := by
    rcases hoo with hh | hh | hh
    · rw [hh]; exact hown b (by simp)
    · rw [hh]; have := h4.blk.lt; simp; omega
    · rw [hh]; simp
  refine ⟨trivial, { r with out := o, ops := r.ops ++ [({ m with frm := n.id }, x)] }, ⟨?_, ⟨hs6.cm, hs6.log, hs6.im, hs6.dat, hs6.poll, hs6.track, ?_, hs6.dn⟩, ?_⟩, ?_⟩
  · have := p6.blk
    have hc : (cellsN n r).setIfInBounds 17 (.slice o.p o.n o.c) = cellsN (n.send m) { r with out := o, ops := r.ops ++ [({ m with frm := n.id }, x)] } := rfl
    rw [hc] at this; exact this
  · refine ⟨by rw [List.map_append, h4.sub.out.fst]; rfl, ?_, fun p hp' => ?_⟩
    · rw [List.flatMap_append]
      have : Sl w6 54 11 o (r.ops.flatMap mc ++ mc ({ m with frm := n.id }, x)) := ho.fr (p6.fr (M := [b]) (by simp)) fun y hy hyb => by simp at hyb; subst hyb; exact hbo hy
      simpa using this
    · rcases List.mem_append.1 hp' with hp' | hp'
      · exact (h4.sub.out.parts p hp').keeps k46
      · simp at hp'; subst hp'
        have hx := hp.keeps (e14.keeps.trans k46)
        exact ⟨hx.e, hx.ms, hx.d, hx.dn⟩
  · show (b :: r.lb :: (r.ls.own ++ (pollF r ++ (trackF r ++ o.own)))).Nodup
    have hp' : List.Perm (b :: r.lb :: (r.ls.own ++ (pollF r ++ (trackF r ++ o.own)))) ((b :: r.lb :: (r.ls.own ++ (pollF r ++ trackF r))) ++ o.own) := by simp
    have hp0 : List.Perm (foot b r) ((b :: r.lb :: (r.ls.own ++ (pollF r ++ trackF r))) ++ r.out.own) := by simp [foot]
    rw [hp'.nodup_iff, List.nodup_append]
    have h0 := hp0.nodup_iff.1 hfoot
    rw [List.nodup_append] at h0
    refine ⟨h0.1, ?_, fun y hy z hz hyz => ?_⟩
    · rcases hoo with hh | hh | hh
      · rw [hh]; exact h0.2.1
      · rw [hh]; simp
      · rw [hh]; simp
    · subst hyz
      rcases hoo with hh | hh | hh
      · rw [hh] at hz; exact h0.2.2 y hy y hz rfl
      · rw [hh] at hz
        have := hlt y (hp0.mem_iff.2 (List.mem_append_left _ hy))
        simp at hz; omega
      · rw [hh] at hz; simp at hz
  · refine (e14.step (foot b r)).trans ⟨f46.mono fun y hy => ?_, k46, fun y hy => ?_⟩
    · rcases List.mem_cons.1 hy with rfl | hy
      · simp [foot]
      · exact foot_out b r y hy
    · have hy : y ∈ b :: r.lb :: (r.ls.own ++ (pollF r ++ (trackF r ++ o.own))) := hy
      simp only [foot, List.mem_cons, List.mem_append] at hy ⊢
      rcases hy with hy | hy | hy | hy | hy | hy
      · exact .inl (.inl hy)
      · exact .inl (.inr (.inl hy))
      · exact .inl (.inr (.inr (.inl hy)))
      · exact .inl (.inr (.inr (.inr (.inl hy))))
      · exact .inl (.inr (.inr (.inr (.inr (.inl hy)))))
      · rcases gg.own y hy with hh | hh
        · exact .inl (.inr (.inr (.inr (.inr (.inr hh)))))
        · exact .inr hh

end
end Rx
end Go.Proofs.YtkoipeddfbeliaaGreat

/-
  The node's functions: members, others, messages.
-/
namespace Go.Proofs.YtkoipeddfbeliaaGreat
namespace Rx
open Go.RowKit Md
set_option maxRecDepth 100000

def BalOk (b : Ballot) : Prop := (b.votes.map (·.1)).Nodup ∧ (∀ x ∈ b.votes.map (·.1), x ∈ b.members) ∧ b.members.length ≤ 7
def TrkOk (t : Track) : Prop := ∀ p ∈ t, p.2.1 < p.2.2 ∧ p.2.2 ≤ 10000000000000000000

/-- what a node's numbers are bound by -/
structure Fit (n : Md.Node) : Prop where
  log : LogOk n.log
  cf : ConfOk n.log
  im : goodM n.img.members
  poll : ∀ b, n.poll = some b → BalOk b
  track : ∀ t, n.track = some t → TrkOk t

theorem confOf_good {g : Log} {ms : List Nat} (hc : ConfOk g) (hm : goodM ms) (i : Nat) : goodM (confOf g ms i).1 := by
  unfold confOf
  split
  · rename_i x hx
    have h1 := List.find?_some hx
    have h2 := List.mem_of_find?_eq_some hx
    obtain ⟨ms', h3, h4⟩ := hc x (List.mem_of_mem_take (List.mem_reverse.1 h2)) h1
    simp only [h4, dec_enc h3]; exact h3
  · exact hm
theorem Fit.members {n : Md.Node} (f : Fit n) : goodM n.members := confOf_good f.cf f.im _
theorem Fit.len {n : Md.Node} (f : Fit n) : n.members.length ≤ 7 := goodM_len f.members
theorem Fit.others {n : Md.Node} (f : Fit n) : n.others.length ≤ 7 := Nat.le_trans (List.length_filter_le _ _) f.len
theorem Fit.lastle {n : Md.Node} (f : Fit n) : n.log.last.1 ≤ 9000000000000001024 := by
  have := f.log.last; have := f.log.len; have := f.log.bnd; omega

section
variable {w : World} {b : Nat} {n : Md.Node} {r : Raw}

theorem members31 (h : NodeR w b n r) (f : Fit n) : Calls Tryz.prog 31 #[.pointer (some ⟨b, 0, none⟩)] w fun e w' => ∃ s : SV, e = .returned (.slice s.p s.n s.c) ∧ Ints w' s n.members ∧ Ex w w' ∧ ∀ x ∈ s.own, w.heap.size ≤ x := by
  refine ret (R := fun v w' => ∃ s : SV, v = .slice s.p s.n s.c ∧ Ints w' s n.members ∧ Ex w w' ∧ ∀ x ∈ s.own, w.heap.size ≤ x) (c31 _ w ?_) (fun v w' ⟨s, h1, h2⟩ => ⟨s, by rw [h1], h2⟩)
  simp only [F31, add_mk, Nat.zero_add]
  refine ⟨some (at0 r.lb), by rw [h.cell]; rfl, (last33 h.sub.log f.log.len).mono ?_⟩
  rintro _ w1 ⟨rfl, e1⟩
  have h1 := h.ex e1
  refine ⟨_, _, rfl, vdraw_mk fun w2 e2 _ => ?_⟩
  have h2 := h1.ex e2
  refine ⟨some (at0 r.lb), by rw [h2.cell]; rfl, r.im.p, r.im.n, r.im.c, by rw [h2.cell]; rfl, ?_⟩
  have hl := goodM_len f.im
  refine (of51 h2.sub.log f.log f.cf h2.sub.im (by have := h2.sub.im.n; omega) n.log.last.1).mono ?_
  rintro _ w3 ⟨s, rfl, hs, e3, ho⟩
  exact ⟨_, _, _, _, rfl, s, rfl, hs, (e1.trans e2).trans e3, fun x hx => Nat.le_trans (e1.trans e2).size (ho x hx)⟩

theorem others57 (h : NodeR w b n r) (f : Fit n) : Calls Tryz.prog 57 #[.pointer (some ⟨b, 0, none⟩)] w fun e w' => ∃ s : SV, e = .returned (.slice s.p s.n s.c) ∧ Ints w' s n.others ∧ Ex w w' ∧ ∀ x ∈ s.own, w.heap.size ≤ x := by
  refine ret (R := fun v w' => ∃ s : SV, v = .slice s.p s.n s.c ∧ Ints w' s n.others ∧ Ex w w' ∧ ∀ x ∈ s.own, w.heap.size ≤ x) (c57 _ w ?_) (fun v w' ⟨s, h1, h2⟩ => ⟨s, by rw [h1], h2⟩)
  refine vnew_mk fun w1 e1 s1 b1 => ?_
  have hb1 : Blk w1 w.heap.size #[.pointer (some ⟨b, 0, none⟩)] 44 := b1
  have h1 := h.ex e1
  refine ⟨some ⟨b, 0, none⟩, by rw [hb1.cell]; rfl, (members31 h1 f).mono ?_⟩
  rintro _ w2 ⟨s, rfl, hs, e2, ho⟩
  have h2 := h1.ex e2
  have hb2 := e2.blk hb1
  have hl := f.len
  refine ⟨_, _, _, rfl, (delete87 (q := fun x => x == n.id) hs (by have := hs.n; omega) fun x _ w3 fr3 sz3 => vcallv_mk (by kernel_rfl) ?_).mono ?_⟩
  · have hno : ∀ y, y < w1.heap.size → y ∉ s.own := fun y hy hyo => by have := ho y hyo; omega
    have hb3 := fr3.blk hb2 (hno _ (by omega))
    have hn3 : Blk w3 b (cellsN n r) 74 := fr3.blk h2.blk (hno _ h1.blk.lt)
    refine ret (R := fun v w' => v = .bool (x == n.id) ∧ w' = w3) (c88 x _ w3 ?_) (fun v w' ⟨h1, h2⟩ => ⟨by rw [h1], h2⟩)
    refine ⟨some ⟨b, 0, none⟩, by rw [hb3.cell]; rfl, (?_ : ∃ _, _)⟩
    simp only [add_mk, Nat.zero_add]
    refine ⟨n.id, by rw [hn3.cell]; rfl, ?_, trivial⟩
    congr 1
    rw [Bool.eq_iff_iff, beq_iff_eq, beq_iff_eq]; omega
  · rintro _ w3 ⟨q, rfl, hq, fr3, hqo⟩
    refine ⟨_, _, _, rfl, q, rfl, hq, ?_, fun x hx => Nat.le_trans e1.size (ho x (hqo x hx))⟩
    refine (Fr.ex ⟨Nat.le_trans (e1.trans e2).size fr3.size, fr3.os.trans (e1.trans e2).os, fun y hy _ => ?_⟩)
    rw [fr3.rest y (Nat.lt_of_lt_of_le hy (e1.trans e2).size) fun hyo => by have := ho y hyo; omega]
    exact ((e1.trans e2).fr []).rest y hy (by simp)

/-- a message without parts -/
def MD0 : MD := ⟨.nil, .nil, .nil, [], []⟩
theorem Parts.zero (w : World) {m : Msg} (h1 : m.ents = []) (h2 : m.members = []) : Parts w m MD0 := ⟨by rw [h1]; exact Ents.zero w, by rw [h2]; exact Sl.zero _ _ _, Sl.zero _ _ _, by simp [MD0]⟩

theorem Act.ex {w0 : World} {n' : Md.Node} {w' : World} (e : Ex w0 w) (h : Act w w' b r n') : Act w0 w' b r n' := by
  obtain ⟨r', h1, h2⟩ := h
  exact ⟨r', h1, (e.step _).trans h2⟩
theorem Act.mk {n' : Md.Node} {r' : Raw} {w' : World} (h : NodeR w' b n' r') (s : Step (foot b r) (foot b r') w w') : Act w w' b r n' := ⟨r', h, s⟩
theorem Act.then {r' : Raw} {w1 w' : World} {n' : Md.Node} (s : Step (foot b r) (foot b r') w w1) (h : Act w1 w' b r' n') : Act w w' b r n' := by
  obtain ⟨r2, h1, h2⟩ := h
  exact ⟨r2, h1, s.trans h2⟩

/-- what a node sends without parts -/
theorem send66' (h : NodeR w b n r) (m : Msg) (he : m.ents = []) (hm : m.members = []) (hl : n.out.length ≤ 1000000) (hf : m.frm = 0) :
    Calls Tryz.prog 66 #[.pointer (some ⟨b, 0, none⟩), .agg #[.int .i64 (m.kind : Int), .int .i64 0, .int .i64 (m.to : Int), .int .u64 (m.term : Int), .int .u64 (m.index : Int), .int .u64 (m.logTerm : Int), .int .u64 (m.commit : Int), .bool m.yes, .slice none 0 0, .slice none 0 0, .slice none 0 0]] w
      fun e w' => e = .returned (.tuple #[]) ∧ Act w w' b r (n.send m) := by
  have := send66 h m MD0 (Parts.zero w he hm) hl
  have hx : (mv m MD0).toArray = #[.int .i64 (m.kind : Int), .int .i64 0, .int .i64 (m.to : Int), .int .u64 (m.term : Int), .int .u64 (m.index : Int), .int .u64 (m.logTerm : Int), .int .u64 (m.commit : Int), .bool m.yes, .slice none 0 0, .slice none 0 0, .slice none 0 0] := by
    simp [mv, MD0, SV.nil, hf]
  rwa [hx] at this

/-- a message in a box of its own -/
def mvA (m : Msg) (x : MD) : Array Value := (mv m x).toArray

theorem tell38 (h : NodeR w b n r) (k : Nat) (m : Msg) (x : MD) (yes : Bool) (i : Nat) (hl : n.out.length ≤ 1000000) :
    Calls Tryz.prog 38 #[.pointer (some ⟨b, 0, none⟩), .int .i64 (k : Int), .agg (mvA m x), .bool yes, .int .u64 (i : Int)] w fun e w' => e = .returned (.tuple #[]) ∧ Act w w' b r (n.tell k m yes i) := by
  refine ret (R := fun v w' => v = .tuple #[] ∧ Act w w' b r (n.tell k m yes i)) (c38 _ k _ yes i w ?_) (fun v w' ⟨h1, h2⟩ => ⟨by rw [h1], h2⟩)
  refine vnew_mk fun w1 e1 s1 b1 => vdraw_mk fun w2 e2 _ => ?_
  have hb1 : Blk w1 w.heap.size (mvA m x) 54 := b1
  have h2 := h.ex (e1.trans e2)
  have hb2 := e2.blk hb1
  simp only [add_mk, Nat.zero_add]
  refine ⟨m.frm, by rw [hb2.cell]; rfl, n.term, by rw [h2.cell]; rfl, (send66' h2 ⟨k, 0, m.frm, n.term, i, 0, 0, yes, [], []⟩ rfl rfl hl rfl).mono ?_⟩
  rintro _ w3 ⟨rfl, ha⟩
  exact ⟨rfl, trivial, ha.ex (e1.trans e2)⟩

theorem younger65 (h : NodeR w b n r) (f : Fit n) (m : Msg) (x : MD) :
    Calls Tryz.prog 65 #[.pointer (some ⟨b, 0, none⟩), .agg (mvA m x)] w fun e w' => e = .returned (.bool (n.younger m)) ∧ Ex w w' := by
  refine ret (R := fun v w' => v = .bool (n.younger m) ∧ Ex w w') (c65 _ _ w ?_) (fun v w' ⟨h1, h2⟩ => ⟨by rw [h1], h2⟩)
  refine vnew_mk fun w1 e1 s1 b1 => ?_
  have hb1 : Blk w1 w.heap.size (mvA m x) 54 := b1
  have h1 := h.ex e1
  simp only [add_mk, Nat.zero_add]
  refine ⟨some (at0 r.lb), by rw [h1.cell]; rfl, (last33 h1.sub.log f.log.len).mono ?_⟩
  rintro _ w2 ⟨rfl, e2⟩
  have hb2 := e2.blk hb1
  have e12 := e1.trans e2
  refine ⟨_, _, rfl, m.logTerm, by rw [hb2.cell]; rfl, vif_mk (fun h3 => ⟨?_, e12⟩) fun h3 => ⟨m.logTerm, by rw [hb2.cell]; rfl, vif_mk (fun h4 => ⟨m.index, by rw [hb2.cell]; rfl, ?_, e12⟩) fun h4 => ⟨?_, e12⟩⟩⟩
  · have : n.log.last.2 < m.logTerm := by simp at h3; omega
    simp [Node.younger, this]
  · have h3' : ¬ n.log.last.2 < m.logTerm := by simp at h3; omega
    have h4' : m.logTerm = n.log.last.2 := by simp at h4; omega
    simp [Node.younger, h4']
  · have h3' : ¬ n.log.last.2 < m.logTerm := by simp at h3; omega
    have h4' : ¬ m.logTerm = n.log.last.2 := by simp at h4; omega
    simp [Node.younger, h3', h4']

theorem ask62 (h : NodeR w b n r) (f : Fit n) (k term : Nat) (hl : n.out.length ≤ 900000) :
    Calls Tryz.prog 62 #[.pointer (some ⟨b, 0, none⟩), .int .i64 (k : Int), .int .u64 (term : Int)] w fun e w' => e = .returned (.tuple #[]) ∧ Act w w' b r (n.ask k term) := by
  refine ret (R := fun v w' => v = .tuple #[] ∧ Act w w' b r (n.ask k term)) (c62 _ k term w ?_) (fun v w' ⟨h1, h2⟩ => ⟨by rw [h1], h2⟩)
  simp only [F62, add_mk, Nat.zero_add]
  refine ⟨some (at0 r.lb), by rw [h.cell]; rfl, (last33 h.sub.log f.log.len).mono ?_⟩
  rintro _ w1 ⟨rfl, e1⟩
  have h1 := h.ex e1
  refine ⟨_, _, rfl, (others57 h1 f).mono ?_⟩
  rintro _ w2 ⟨s, rfl, hs, e2, ho⟩
  have h2 := h1.ex e2
  have e12 := e1.trans e2
  have hol := f.others
  have hsn := hs.n
  have hsnd : ∀ (l : List Nat) (n : Md.Node), (l.foldl (fun (n : Md.Node) y => n.send ⟨k, 0, y, term, n.log.last.1, n.log.last.2, 0, false, [], []⟩) n).out.length = n.out.length + l.length := by
    intro l
    induction l with
    | nil => intro n; rfl
    | cons y l ih => intro n; rw [List.foldl_cons, ih]; simp [Node.send]; omega
  let g : Md.Node → Nat → Md.Node := fun n y => n.send ⟨k, 0, y, term, n.log.last.1, n.log.last.2, 0, false, [], []⟩
  have hlog : ∀ (l : List Nat) (m : Md.Node), (l.foldl g m).log = m.log := by
    intro l
    induction l with
    | nil => intro m; rfl
    | cons y l ih => intro m; rw [List.foldl_cons, ih]; rfl
  have hask : n.ask k term = n.others.foldl g n := by
    have : ∀ (l : List Nat) (m : Md.Node), m.log = n.log → l.foldl (fun (m : Md.Node) y => m.send ⟨k, 0, y, term, n.log.last.1, n.log.last.2, 0, false, [], []⟩) m = l.foldl g m := by
      intro l
      induction l with
      | nil => intro m _; rfl
      | cons y l ih =>
        intro m hm
        rw [List.foldl_cons, List.foldl_cons, ← ih _ (by exact hm)]
        show _ = List.foldl _ (m.send ⟨k, 0, y, term, m.log.last.1, m.log.last.2, 0, false, [], []⟩) l
        rw [hm]
    exact this _ _ rfl
  refine ⟨_, _, _, rfl, fun vs w' => ∃ j : Nat, vs = [iv j] ∧ j ≤ n.others.length ∧ Act w w' b r ((n.others.take j).foldl g n) ∧ Ints w' s n.others,
    fun vs _ => match vs with | [.int _ j] => ((n.others.length : Int) - j).toNat | _ => 0, ⟨0, rfl, by omega, ⟨r, h2, e12.step _⟩, hs⟩, ?_⟩
  rintro i w3 ⟨j, hv, hj, ⟨r3, h3, s3⟩, hs3⟩
  simp only [iv, List.cons.injEq, Value.int.injEq, and_true, true_and] at hv
  subst hv
  refine vif_mk (fun h4 => ?_) fun h4 => ?_
  · have hlt : j < n.others.length := by simp at h4; omega
    refine Sl.load hs3 (i := j) (v := iv n.others[j]) (by simp [hlt]) fun a ha => ⟨n.others[j], ha, ?_⟩
    have hoo := hsnd (n.others.take j) n
    have hlg := hlog (n.others.take j) n
    rw [← hlg]
    refine (send66' h3 ⟨k, 0, n.others[j], term, _, _, 0, false, [], []⟩ rfl rfl (by rw [hoo]; simp; omega) rfl).mono ?_
    rintro _ w4 ⟨rfl, r4, h5, s4⟩
    rw [wi (by omega) (by omega)]
    refine ⟨rfl, ⟨j + 1, by simp [iv], hlt, ⟨r4, ?_, s3.trans s4⟩, Sl.keeps hs3 s4.keeps (.inl rfl)⟩, by simp only; omega⟩
    rw [List.take_succ_eq_append_getElem hlt, List.foldl_append]
    exact h5
  · have hjl : j = n.others.length := by simp at h4; omega
    subst hjl
    rw [List.take_of_length_le (Nat.le_refl _)] at h3
    refine ⟨trivial, r3, ?_, s3⟩
    rw [hask]; exact h3

end
end Rx
end Go.Proofs.YtkoipeddfbeliaaGreat

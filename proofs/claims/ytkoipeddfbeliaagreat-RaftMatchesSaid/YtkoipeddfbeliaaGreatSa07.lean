import Derived.Test.YtkoipeddfbeliaaGreatSa06
/-
  The log in memory: what its functions read.
-/
namespace Go.Proofs.YtkoipeddfbeliaaGreat
namespace Rx
open Go.RowKit Md
set_option maxRecDepth 100000

/-- a log in memory -/
structure LogR (w : World) (b : Nat) (g : Log) (s : SV) (ps : List (Ent × SV)) : Prop where
  blk : Blk w b #[.int .u64 (g.base : Int), .int .u64 (g.bterm : Int), .slice s.p s.n s.c] 99
  ents : Ents w s g.l ps
  tail : Tail w s

theorem Tail.same {w w' : World} {s : SV} (h : Tail w s) (hb : ∀ a cs', s.p = some a → Blk w' a.block cs' 47 → Blk w a.block cs' 47) : Tail w' s := fun a ha =>
  ⟨(h a ha).1, fun cs hc i h1 h2 => (h a ha).2 cs (hb a cs ha hc) i h1 h2⟩

theorem LogR.fr {w w' : World} {b : Nat} {g : Log} {s : SV} {ps : List (Ent × SV)} (h : LogR w b g s ps) {M : List Nat} (f : Fr M w w') (k : Keeps w w') (hb : b ∉ M) (hs : ∀ x ∈ s.own, x ∉ M) : LogR w' b g s ps :=
  ⟨f.blk h.blk hb, ⟨h.ents.fst, h.ents.sl.fr f hs, fun p hp => Sl.keeps (h.ents.data p hp) k (.inr rfl), h.ents.pos, h.ents.al⟩,
    h.tail.same fun a cs' ha hb' => by
      obtain ⟨_, cs, h2, _⟩ := h.ents.sl.at_ a ha
      have := f.blk h2 (hs _ (SV.mem_own.2 ⟨a, ha, rfl⟩))
      obtain ⟨rfl, _⟩ := this.same hb'
      exact h2⟩
theorem LogR.ex {w w' : World} {b : Nat} {g : Log} {s : SV} {ps : List (Ent × SV)} (h : LogR w b g s ps) (e : Ex w w') : LogR w' b g s ps :=
  h.fr (e.fr []) e.keeps (by simp) (by simp)

/-- the indexes stand one behind the other -/
structure LogOk (g : Log) : Prop where
  idx : ∀ k x, g.l[k]? = some x → x.index = g.base + k + 1
  len : g.l.length ≤ 1024
  bnd : g.base ≤ 9000000000000000000
  data : ∀ x ∈ g.l, x.data.length ≤ 900

theorem LogOk.last {g : Log} (h : LogOk g) : g.last.1 = g.base + g.l.length := by
  unfold Log.last
  rw [List.getLast?_eq_getElem?]
  cases hl : g.l[g.l.length - 1]? with
  | none =>
    have : g.l.length = 0 := by
      rcases Nat.eq_zero_or_pos g.l.length with h0 | h0
      · exact h0
      · rw [List.getElem?_eq_getElem (by omega)] at hl; cases hl
    simp [this]
  | some x =>
    have := h.idx _ _ hl
    have := (List.getElem?_eq_some_iff.1 hl).1
    simp only; omega

section
variable {w : World} {b : Nat} {g : Log} {s : SV} {ps : List (Ent × SV)}

/-- a local copy of an entry -/
theorem local_ent {w : World} {v : Array Value} {K : Addr → World → Prop} (hv : v.size = 4) (ho : ∀ x ∈ v.toList, isOne x = true) (hK : ∀ c w', Ex w w' → w.heap.size ≤ c → Blk w' c v 47 → K ⟨c, 0, none⟩ w') :
    vnew w (.cells #[.int .u64 0, .int .u64 0, .bool false, .slice Option.none 0 0] 47) fun a w1 => vstoreN w1 a 4 v fun w2 => K a w2 := by
  refine vnew_mk fun w1 e1 s1 b1 => ?_
  refine vstoreN_mk (cs := #[.int .u64 0, .int .u64 0, .bool false, .slice Option.none 0 0]) b1 hv (by simp) ho fun w2 p => hK _ _ (e1.put p (Nat.le_refl _)) (Nat.le_refl _) ?_
  have hb := p.blk
  have : (setMany [Value.int .u64 0, .int .u64 0, .bool false, .slice Option.none 0 0] 0 v.toList).toArray = v := by
    obtain ⟨l⟩ := v
    match l, hv with
    | [x0, x1, x2, x3], _ => rfl
  simpa [this] using hb

/-- a part of a row -/
theorem Sl.elem {α : Type} {f : α → List Value} {k ty : Nat} (hk : 0 < k) (hf : ∀ a, (f a).length = k) {qs : List α} {w : World} {s : SV} (hs : Sl w ty k s (qs.flatMap f)) {i : Nat} {q : α} (hq : qs[i]? = some q) {K : Array Value → Prop} (hK : K (f q).toArray) :
    vidx s.p s.n (i : Int) fun a => vcells k w (a.add ((i : Int).toNat * k)) K := by
  have hlt := (List.getElem?_eq_some_iff.1 hq).1
  have hl := hs.len
  rw [flat_len hf] at hl
  have hn : i < s.n := Nat.lt_of_lt_of_le hlt (Nat.le_of_mul_le_mul_right (Nat.le_of_eq hl) hk)
  refine hs.idx (by omega) (by omega) fun a cs ha h1 h2 h3 h4 => ?_
  rw [addr_eta h1, add_mk]
  refine vcells_mk h2 (f q).toArray (by simp [hf]) (fun j v hj => ?_) hK
  have hjl : j < k := by have := (Array.getElem?_eq_some_iff.1 hj).1; simpa [hf] using this
  have := h4 (i * k + j) v (by rw [flat_get hf _ _ _ hjl, hq]; simpa using hj)
  rw [← this]; congr 1; simp; omega

theorem base26 (h : LogR w b g s ps) : Calls Tryz.prog 26 #[.pointer (some ⟨b, 0, none⟩)] w fun e w' => e = .returned (.tuple #[.int .u64 (g.base : Int), .int .u64 (g.bterm : Int)]) ∧ Ex w w' := by
  refine ret (R := fun v w' => v = .tuple #[.int .u64 (g.base : Int), .int .u64 (g.bterm : Int)] ∧ Ex w w') (c26 _ w ?_) (fun v w' ⟨h1, h2⟩ => ⟨by rw [h1], h2⟩)
  refine vdraw_mk fun w1 e1 _ => ?_
  have hb := e1.blk h.blk
  exact ⟨_, by rw [add_mk, hb.cell]; rfl, _, by rw [add_mk, hb.cell]; rfl, rfl, e1⟩

theorem last33 (h : LogR w b g s ps) (hl : g.l.length ≤ 1024) : Calls Tryz.prog 33 #[.pointer (some ⟨b, 0, none⟩)] w fun e w' => e = .returned (.tuple #[.int .u64 (g.last.1 : Int), .int .u64 (g.last.2 : Int)]) ∧ Ex w w' := by
  refine ret (R := fun v w' => v = .tuple #[.int .u64 (g.last.1 : Int), .int .u64 (g.last.2 : Int)] ∧ Ex w w') (c33 _ w ?_) (fun v w' ⟨h1, h2⟩ => ⟨by rw [h1], h2⟩)
  have hn := h.ents.n
  have hps := h.ents.len
  refine ⟨s.p, s.n, s.c, by rw [add_mk, h.blk.cell]; rfl, vif_mk (fun h0 => ?_) (fun h0 => ?_)⟩
  · simp at h0
    refine (base26 h).mono ?_
    rintro _ w1 ⟨rfl, e1⟩
    refine ⟨_, _, rfl, ?_, e1⟩
    have : g.l = [] := List.eq_nil_of_length_eq_zero (by omega)
    simp [Log.last, this]
  · simp at h0
    refine vdraw_mk fun w1 e1 _ => ?_
    have h1 := h.ex e1
    refine ⟨s.p, s.n, s.c, by rw [add_mk, h1.blk.cell]; rfl, s.p, s.n, s.c, by rw [add_mk, h1.blk.cell]; rfl, ?_⟩
    rw [show ((s.n : Nat) : Int) - 1 = ((s.n - 1 : Nat) : Int) by omega, wi (by omega) (by omega)]
    have hlt : s.n - 1 < ps.length := by omega
    refine Sl.elem (by decide) ec_len h1.ents.sl (List.getElem?_eq_getElem hlt) ?_
    refine local_ent rfl (by simp [ec, isOne]) fun c w2 e2 hc hb2 => vdraw_mk fun w3 e3 _ => ?_
    have hb3 := e3.blk hb2
    refine ⟨_, by rw [add_mk, hb3.cell]; rfl, _, by rw [add_mk, hb3.cell]; rfl, ?_, (e1.trans e2).trans e3⟩
    have : g.l.getLast? = some ps[s.n - 1].1 := by
      rw [← h.ents.fst, List.getLast?_eq_getElem?]
      simp only [List.length_map, List.getElem?_map]
      rw [show ps.length - 1 = s.n - 1 by omega, List.getElem?_eq_getElem hlt]; rfl
    simp [Log.last, this]

/-- the entry at an index lies where it should -/
theorem LogR.entry (h : LogR w b g s ps) (hok : LogOk g) {i : Nat} (h1 : g.base < i) (h2 : i ≤ g.last.1) : ∃ p, ps[i - g.base - 1]? = some p ∧ g.l[i - g.base - 1]? = some p.1 := by
  have hl := hok.last
  have hlen := h.ents.len
  have hlt : i - g.base - 1 < ps.length := by omega
  refine ⟨ps[i - g.base - 1], List.getElem?_eq_getElem hlt, ?_⟩
  rw [← h.ents.fst, List.getElem?_map, List.getElem?_eq_getElem hlt]; rfl

theorem sub_wrap {i j : Nat} (h : j < i) (hi : i ≤ 18446744073709551615) : IntKind.u64.wrap ((IntKind.u64.wrap ((i : Int) - (j : Int))) - 1) = ((i - j - 1 : Nat) : Int) := by
  have h1 : IntKind.u64.wrap ((i : Int) - (j : Int)) = ((i - j : Nat) : Int) := by rw [wu (by omega) (by omega)]; omega
  rw [h1, wu (by omega) (by omega)]; omega

theorem term52 (h : LogR w b g s ps) (hok : LogOk g) (i : Nat) (hi : i ≤ 18446744073709551615) :
    Calls Tryz.prog 52 #[.pointer (some ⟨b, 0, none⟩), .int .u64 (i : Int)] w fun e w' => (∃ c : Int, e = .returned (.tuple #[.int .u64 (g.termD i : Int), .int .i64 c]) ∧ (c = 0 ↔ (g.term i).isSome)) ∧ Ex w w' := by
  refine ret (R := fun v w' => (∃ c : Int, v = .tuple #[.int .u64 (g.termD i : Int), .int .i64 c] ∧ (c = 0 ↔ (g.term i).isSome)) ∧ Ex w w') (c52 _ i w ?_) (fun v w' ⟨⟨c, h1, h3⟩, h2⟩ => ⟨⟨c, by rw [h1], h3⟩, h2⟩)
  refine (last33 h hok.len).mono ?_
  rintro _ w1 ⟨rfl, e1⟩
  have h1 := h.ex e1
  refine ⟨_, _, rfl, g.base, by rw [add_mk, h1.blk.cell]; rfl, vif_mk (fun h2 => ?_) fun h2 => vif_mk (fun h3 => ?_) fun h3 => ?_⟩
  · have : i < g.base := by simp at h2; omega
    have ht : g.term i = none := by simp [Log.term, this]
    exact ⟨⟨20, by simp [Log.termD, ht], by simp [ht]⟩, e1⟩
  · have h2' : ¬ i < g.base := by simp at h2; omega
    have h3' : g.last.1 < i := by simp at h3; omega
    have ht : g.term i = none := by simp [Log.term, h2', h3']
    exact ⟨⟨7, by simp [Log.termD, ht], by simp [ht]⟩, e1⟩
  · have h2' : ¬ i < g.base := by simp at h2; omega
    have h3' : ¬ g.last.1 < i := by simp at h3; omega
    refine ⟨g.base, by rw [add_mk, h1.blk.cell]; rfl, vif_mk (fun h4 => ?_) fun h4 => ?_⟩
    · have h4' : i = g.base := by simp at h4; omega
      have ht : g.term i = some g.bterm := by simp [Log.term, h4']; omega
      exact ⟨g.bterm, by rw [add_mk, h1.blk.cell]; rfl, ⟨0, by simp [Log.termD, ht], by simp [ht]⟩, e1⟩
    · have h4' : i ≠ g.base := by simp at h4; omega
      obtain ⟨p, hp, hg⟩ := h.entry hok (i := i) (by omega) (by omega)
      have ht : g.term i = some p.1.term := by simp [Log.term, h2', h3', h4', hg]
      refine vdraw_mk fun w2 e2 _ => ?_
      have hh := h1.ex e2
      refine ⟨s.p, s.n, s.c, by rw [add_mk, hh.blk.cell]; rfl, g.base, by rw [add_mk, hh.blk.cell]; rfl, ?_⟩
      rw [sub_wrap (by omega) hi]
      have hn := h.ents.n
      have hlen := h.ents.len
      have hlt := (List.getElem?_eq_some_iff.1 hp).1
      refine hh.ents.sl.idx (by omega) (by omega) fun a cs ha g1 g2 g3 g4 => ⟨p.1.term, ?_, ⟨0, by simp [Log.termD, ht], by simp [ht]⟩, e1.trans e2⟩
      rw [addr_eta g1, add_mk, add_mk, g2.cell]
      have := g4 ((i - g.base - 1) * 4 + 1) (.int .u64 (p.1.term : Int)) (by rw [flat_get ec_len _ _ _ (by omega), hp]; rfl)
      rw [← this]; congr 1

theorem clone55 {w : World} {p : Ent × SV} (hd : Bytes w p.2 p.1.data) (hn : p.2.n ≤ 1000000000) :
    Calls Tryz.prog 55 #[.agg (ec p).toArray] w fun e w' => ∃ r : SV, e = .returned (.agg (ec (p.1, r)).toArray) ∧ Ex w w' ∧ Bytes w' r p.1.data := by
  refine ret (R := fun v w' => ∃ r : SV, v = .agg (ec (p.1, r)).toArray ∧ Ex w w' ∧ Bytes w' r p.1.data) (c55 _ w ?_) (fun v w' ⟨r, h1, h2⟩ => ⟨r, by rw [h1], h2⟩)
  refine vnew_mk fun w1 e1 s1 b1 => vnew_mk fun w2 e2 s2 b2 => ?_
  have b1' := e2.blk b1
  refine ⟨p.2.p, p.2.n, p.2.c, by rw [add_mk, Blk.cell b1']; rfl, ?_⟩
  refine (clone56 (Sl.ex hd (e1.trans e2)) (one_bytes _) hn).mono ?_
  rintro _ w3 ⟨r, rfl, e3, hr, ho⟩
  refine ⟨_, _, _, rfl, ?_⟩
  rw [add_mk]
  refine vstore1_mk (e3.blk b1') (by simp [ec]) fun w4 p4 => ?_
  have e4 : Ex w w4 := ((e1.trans e2).trans e3).put p4 (Nat.le_refl _)
  refine vcells_all p4.blk 4 (by simp [ec]) ?_
  have hne : w1.heap.size ≠ w.heap.size := by omega
  have b3 := p4.other hne (e3.blk b2)
  refine vstoreN_mk b3 (by simp [ec]) (by simp) (by simp [ec, isOne]) fun w5 p5 => ?_
  refine vcells_all p5.blk 4 (by simp [setMany_length]) ⟨r, ?_, e4.put p5 (by omega), ?_⟩
  · rfl
  · refine Sl.blk hr fun a cs ha hb => p5.other ?_ (p4.other ?_ hb)
    · have := ho _ (SV.mem_own.2 ⟨a, ha, rfl⟩); omega
    · have := ho _ (SV.mem_own.2 ⟨a, ha, rfl⟩); omega

theorem at79 (h : LogR w b g s ps) (hok : LogOk g) {i : Nat} (h1 : g.base < i) (h2 : i ≤ g.last.1) {x : Ent} (hx : g.l[i - g.base - 1]? = some x) (hd : x.data.length ≤ 1000000000) :
    Calls Tryz.prog 79 #[.pointer (some ⟨b, 0, none⟩), .int .u64 (i : Int)] w fun e w' => ∃ r : SV, e = .returned (.tuple #[.agg (ec (x, r)).toArray, .int .i64 0]) ∧ Ex w w' ∧ Bytes w' r x.data := by
  have hi : i ≤ 18446744073709551615 := by have := hok.last; have := hok.len; have := hok.bnd; omega
  refine ret (R := fun v w' => ∃ r : SV, v = .tuple #[.agg (ec (x, r)).toArray, .int .i64 0] ∧ Ex w w' ∧ Bytes w' r x.data) (c79 _ i w ?_) (fun v w' ⟨r, h1, h2⟩ => ⟨r, by rw [h1], h2⟩)
  refine vnew_mk fun w1 e1 s1 b1 => ?_
  have hh := h.ex e1
  refine (term52 hh hok i hi).mono ?_
  rintro _ w2 ⟨⟨c, rfl, hc⟩, e2⟩
  obtain ⟨p, hp, hg⟩ := h.entry hok h1 h2
  have hpx : p.1 = x := by rw [hg] at hx; exact Option.some.inj hx
  have ht : (g.term i).isSome := by
    have : ¬ i < g.base := by omega
    have h3 : ¬ g.last.1 < i := by omega
    have h4 : i ≠ g.base := by omega
    simp [Log.term, this, h3, h4]
  have hc0 := hc.2 ht
  subst hc0
  have hh2 := hh.ex e2
  refine ⟨_, _, rfl, vif_f rfl ⟨g.base, by rw [add_mk, hh2.blk.cell]; rfl, vif_f (by simp; omega) ?_⟩⟩
  refine vdraw_mk fun w3 e3 _ => ?_
  have hh3 := hh2.ex e3
  refine ⟨s.p, s.n, s.c, by rw [add_mk, hh3.blk.cell]; rfl, g.base, by rw [add_mk, hh3.blk.cell]; rfl, ?_⟩
  rw [sub_wrap h1 hi]
  have hpd := hh3.ents.data p (List.mem_of_getElem? hp)
  refine Sl.elem (by decide) ec_len hh3.ents.sl hp ((clone55 hpd (by rw [hpd.n, hpx]; exact hd)).mono ?_)
  rintro _ w4 ⟨r, rfl, e4, hr⟩
  refine ⟨_, rfl, rfl, ?_⟩
  have hb4 := ((e2.trans e3).trans e4).blk b1
  refine vstoreN_mk hb4 rfl (by simp) (by simp [ec, isOne]) fun w5 p5 => ?_
  refine vcells_all p5.blk 4 (by simp [setMany_length]) ⟨r, ?_, ?_, ?_⟩
  · rw [hpx]; rfl
  · exact (((e1.trans e2).trans e3).trans e4).put p5 (Nat.le_refl _)
  · rw [← hpx]
    refine Sl.blk hr fun a cs ha hb => p5.other (fun hh => ?_) hb
    rw [hh] at hb
    exact absurd (hb.same hb4).2 (by decide)

theorem Ents.drop {w : World} {s : SV} {l : List Ent} {ps : List (Ent × SV)} (h : Ents w s l ps) {k : Nat} (hk : k ≤ l.length) : Ents w (s.cut 4 k s.n s.c) (l.drop k) (ps.drop k) where
  fst := by rw [List.map_drop, h.fst]
  sl := by
    have hn := h.n
    have := h.sl.cut (l := k) (h := s.n) (m := s.c) (by omega) (Nat.le_refl _) h.sl.cap (Nat.le_refl _)
    rw [flat_drop ec_len, List.take_of_length_le (by rw [flat_len ec_len]; have := h.len; simp; rw [Nat.sub_mul, Nat.sub_mul]; omega)] at this
    exact this
  data := fun p hp => h.data p (List.mem_of_mem_drop hp)
  pos := fun p hp => h.pos p (List.mem_of_mem_drop hp)
  al := fun a ha => by
    simp only [SV.cut] at ha
    split at ha
    · exact h.al a ha
    · cases hp : s.p with
      | none => simp [hp] at ha
      | some b =>
        obtain ⟨g, hg⟩ := h.al b hp
        obtain ⟨h1, _⟩ := h.sl.at_ b hp
        rw [hp, addr_eta h1] at ha
        simp at ha
        subst ha
        exact ⟨g + k, by simp only; omega⟩

/-- a row that grows by one entry -/
theorem Ents.grow {w1 w' : World} {s r : SV} {l : List Ent} {ps : List (Ent × SV)} {x : Ent} {d : SV} (h : Ents w1 s l ps) (hx : Bytes w' d x.data) (hp : x.index ≠ 0)
    (hr : Sl w' 47 4 r (ps.flatMap ec ++ ec (x, d))) (hd : ∀ p ∈ ps, Bytes w' p.2 p.1.data) {z : Array Value} (g : Grow w1 w' 47 4 z s r (ec (x, d))) : Ents w' r (l ++ [x]) (ps ++ [(x, d)]) where
  fst := by simp [h.fst]
  sl := by simpa using hr
  data := fun p hp' => by
    simp only [List.mem_append, List.mem_singleton] at hp'
    rcases hp' with hp' | rfl
    · exact hd p hp'
    · exact hx
  pos := fun p hp' => by
    simp only [List.mem_append, List.mem_singleton] at hp'
    rcases hp' with hp' | rfl
    · exact h.pos p hp'
    · exact hp
  al := fun a ha => by
    cases g with
    | here b cs hp hb hw hr' hc hn => exact h.al a (hr' ▸ ha)
    | stay hp hr' hw => rw [hr'] at ha; cases ha
    | fresh hr' hw cs hb ht => rw [hr'] at ha; simp at ha; subst ha; exact ⟨0, rfl⟩

/-- bytes stay where a row of entries grows -/
theorem Grow.bytes {w w' : World} {k : Nat} {z : Array Value} {s r : SV} {new : List Value} (g : Grow w w' 47 k z s r new) {d : SV} {bs : List UInt8} (h : Bytes w d bs) : Bytes w' d bs := by
  refine Sl.blk h fun a cs ha hb => ?_
  cases g with
  | here b cs' hp hb' hw hr' hc hn => exact hw.other (fun hh => by rw [hh] at hb; exact absurd (hb.same hb').2 (by decide)) hb
  | stay hp hr' hw => rw [hw]; exact hb
  | fresh hr' hw cs' hb' ht => exact hw.blk hb

theorem from27 (h : LogR w b g s ps) (hok : LogOk g) (i most : Nat) (hi : i ≤ 18446744073709551615) (hm : most ≤ 1000000000) :
    Calls Tryz.prog 27 #[.pointer (some ⟨b, 0, none⟩), .int .u64 (i : Int), .int .i64 (most : Int)] w fun e w' => ∃ (r : SV) (c : Int) (qs : List (Ent × SV)), e = .returned (.tuple #[.slice r.p r.n r.c, .int .i64 c]) ∧ Ex w w' ∧ Ents w' r (g.from_ i most) qs ∧ ∀ x ∈ r.own, w.heap.size ≤ x := by
  refine ret (R := fun v w' => ∃ (r : SV) (c : Int) (qs : List (Ent × SV)), v = .tuple #[.slice r.p r.n r.c, .int .i64 c] ∧ Ex w w' ∧ Ents w' r (g.from_ i most) qs ∧ ∀ x ∈ r.own, w.heap.size ≤ x) (c27 _ i most w ?_) (fun v w' ⟨r, c, qs, h1, h2⟩ => ⟨r, c, qs, by rw [h1], h2⟩)
  refine (last33 h hok.len).mono ?_
  rintro _ w1 ⟨rfl, e1⟩
  have h1 := h.ex e1
  have hlast := hok.last
  have hn := h.ents.n
  have hlen := h.ents.len
  have hl1 := hok.len
  refine ⟨_, _, rfl, g.base, by rw [add_mk, h1.blk.cell]; rfl, vif_mk (fun h2 => ?_) fun h2 => ?_⟩
  · have h2' : i ≤ g.base := by simp at h2; omega
    have : g.from_ i most = [] := by simp [Log.from_, h2']
    exact ⟨.nil, 20, [], rfl, e1, by rw [this]; exact Ents.zero _, by simp [SV.own, SV.nil]⟩
  have h2' : ¬ i ≤ g.base := by simp at h2; omega
  rw [show IntKind.u64.wrap ((i : Int) - 1) = ((i - 1 : Nat) : Int) by rw [wu (by omega) (by omega)]; omega]
  refine vif_mk (fun h3 => ?_) fun h3 => ?_
  · have h3' : g.last.1 < i - 1 := by simp at h3; omega
    have : g.from_ i most = [] := by simp [Log.from_, h2', h3']
    exact ⟨.nil, 7, [], rfl, e1, by rw [this]; exact Ents.zero _, by simp [SV.own, SV.nil]⟩
  have h3' : ¬ g.last.1 < i - 1 := by simp at h3; omega
  have hfrom : g.from_ i most = (g.l.drop (i - g.base - 1)).take most := by simp [Log.from_, h2', h3']
  refine vdraw_mk fun w2 e2 _ => ?_
  have hh := h1.ex e2
  refine ⟨s.p, s.n, s.c, by rw [add_mk, hh.blk.cell]; rfl, g.base, by rw [add_mk, hh.blk.cell]; rfl, ?_⟩
  rw [sub_wrap (by omega) hi]
  have hcap := h.ents.sl.cap
  refine vslice_mk (i - g.base - 1) s.n s.c (fun G hG => ⟨by omega, by omega, by simpa using hG⟩) (fun G h => h) (fun G h => h) (.inl rfl) (fun _ => rfl) ?_
  have hcut := hh.ents.drop (k := i - g.base - 1) (by omega)
  rw [hfrom]
  generalize hkk : i - g.base - 1 = k at hcut ⊢
  have hrn : s.n - k = (g.l.drop k).length := by simp; omega
  refine ⟨fun vs w' => ∃ (j : Nat) (o : SV) (qs : List (Ent × SV)), vs = [.slice o.p o.n o.c, iv j] ∧ j ≤ (g.l.drop k).length ∧ j ≤ most ∧ Ex w2 w' ∧ Ents w' o ((g.l.drop k).take j) qs ∧ ∀ x ∈ o.own, w2.heap.size ≤ x,
    fun vs _ => match vs with | [_, .int _ j] => (((g.l.drop k).length : Int) - j).toNat | _ => 0, ⟨0, .nil, [], rfl, by omega, by omega, Ex.refl _, by simpa using Ents.zero _, by simp [SV.own, SV.nil]⟩, ?_⟩
  have e12 := e1.trans e2
  rintro s12 s12n s12c i13 w3 ⟨j, o, qs, hv, hj, hjm, e3, ho, hown⟩
  simp only [iv, List.cons.injEq, Value.int.injEq, Value.slice.injEq, and_true, true_and] at hv
  obtain ⟨⟨rfl, rfl, rfl⟩, rfl⟩ := hv
  refine vif_mk (fun h4 => ?_) fun h4 => ?_
  · have hjl : j < (g.l.drop k).length := by simp at h4 ⊢; omega
    have hpl : j < (ps.drop k).length := by rw [hcut.len]; exact hjl
    have hq : (ps.drop k)[j]? = some (ps.drop k)[j] := List.getElem?_eq_getElem hpl
    have hcut3 : Ents w3 (s.cut 4 k s.n s.c) (g.l.drop k) (ps.drop k) := hcut.keeps e3.keeps
    have hd3 := hcut3.data _ (List.getElem_mem hpl)
    have hpos := hcut3.pos _ (List.getElem_mem hpl)
    have hfst : (g.l.drop k)[j]? = some (ps.drop k)[j].1 := by
      rw [← hcut3.fst, List.getElem?_map, hq]; rfl
    have hlen9 : (ps.drop k)[j].1.data.length ≤ 900 := hok.data _ (List.mem_of_mem_drop (List.mem_of_getElem? hfst))
    generalize hpp : (ps.drop k)[j] = p at hq hd3 hpos hfst hlen9
    refine Sl.elem (by decide) ec_len hcut3.sl hq ?_
    refine local_ent rfl (by simp [ec, isOne]) fun c w4 e4 hc hb4 => vif_mk (fun h5 => ?_) fun h5 => ?_
    · have hon := ho.n
      simp only [List.length_take] at hon
      have hjeq : j = most := by simp at h5; omega
      subst hjeq
      exact ⟨o, 0, qs, rfl, (e12.trans e3).trans e4, ho.keeps e4.keeps, fun x hx => Nat.le_trans e12.size (hown x hx)⟩
    · have hon := ho.n
      simp only [List.length_take] at hon
      have hjlt : j < most := by simp at h5; omega
      refine vcells_all hb4 4 rfl ((clone55 (p := p) (Sl.ex hd3 e4) (by rw [hd3.n]; omega)).mono ?_)
      rintro _ w5 ⟨r, rfl, e5, hr⟩
      refine ⟨_, rfl, rfl, rfl, rfl, vnew_mk fun w6 e6 s6 b6 => ?_⟩
      have e36 := (e4.trans e5).trans e6
      have ho6 := ho.keeps e36.keeps
      have hbx : Blk w6 w5.heap.size (ec (p.1, r)).toArray 47 := by
        have : ((ec (p.1, r)).toArray.toList ++ []).toArray = (ec (p.1, r)).toArray := by simp
        rw [this] at b6; exact b6
      refine app47 (s := o) (q := ⟨some ⟨w5.heap.size, 0, none⟩, 1, 1⟩) (new := ec (p.1, r)) ho6.sl (Sl.of_blk (n := 1) hbx rfl) (by simp [ec, isOne]) (by simp; omega) fun t w7 ht htn gg => ?_
      rw [wi (by omega) (by omega)]
      have hr6 : Bytes w6 r p.1.data := Sl.ex hr e6
      have hg := gg.ex (e3.trans e36) hown
      refine ⟨⟨j + 1, t, qs ++ [(p.1, r)], by simp [iv], hjl, hjlt, hg.1, ?_, hg.2⟩, by simp only; omega⟩
      · have htk : (g.l.drop k).take (j + 1) = (g.l.drop k).take j ++ [p.1] := by
          rw [List.take_succ_eq_append_getElem hjl]
          congr 2
          rw [List.getElem?_eq_getElem hjl] at hfst
          exact Option.some.inj hfst
        rw [htk]
        exact ho6.grow (gg.bytes hr6) hpos ht (fun q hq' => gg.bytes (ho6.data q hq')) gg
  · have hjl : j = (g.l.drop k).length := by simp at h4 ⊢; simp at hj; omega
    subst hjl
    rw [List.take_of_length_le (Nat.le_refl _)] at ho
    rw [List.take_of_length_le (by omega)]
    exact ⟨o, 0, qs, rfl, e12.trans e3, ho, fun x hx => Nat.le_trans e12.size (hown x hx)⟩

end
end Rx
end Go.Proofs.YtkoipeddfbeliaaGreat

/-
  The log in memory: what its functions change.
-/
namespace Go.Proofs.YtkoipeddfbeliaaGreat
namespace Rx
open Go.RowKit Md
set_option maxRecDepth 100000

section
variable {w : World} {b : Nat} {g : Log} {s : SV} {ps : List (Ent × SV)}

theorem follow77 {l : List Ent} (h : Ents w s l ps) (hl : l.length ≤ 1000000) (i0 t0 : Nat) (hi : i0 ≤ 18446744073709551614) (hx : ∀ x ∈ l, x.index ≤ 18446744073709551614) :
    Calls Tryz.prog 77 #[.int .u64 (i0 : Int), .int .u64 (t0 : Int), .slice s.p s.n s.c] w fun e w' => (∃ c : Int, e = .returned (.int .i64 c) ∧ (c = 0 ↔ (okFollow i0 t0 l && okLong l) = true)) ∧ Ex w w' := by
  refine ret (R := fun v w' => (∃ c : Int, v = .int .i64 c ∧ (c = 0 ↔ (okFollow i0 t0 l && okLong l) = true)) ∧ Ex w w') (c77 i0 t0 s.p s.n s.c w ?_) (fun v w' ⟨⟨c, h1, h3⟩, h2⟩ => ⟨⟨c, by rw [h1], h3⟩, h2⟩)
  have hn := h.n
  have hlen := h.len
  refine ⟨fun vs w' => ∃ (i t j : Nat) (lg : Bool), vs = [.int .u64 (i : Int), .int .u64 (t : Int), .bool lg, .int .i64 (j : Int)] ∧ j ≤ l.length ∧ i ≤ 18446744073709551614 ∧ okFollow i0 t0 l = okFollow i t (l.drop j) ∧ okLong l = (!lg && okLong (l.drop j)) ∧ Ex w w',
    fun vs _ => match vs with | [_, _, _, .int _ j] => ((l.length : Int) - j).toNat | _ => 0, ⟨i0, t0, 0, false, rfl, by omega, hi, rfl, by simp, Ex.refl _⟩, ?_⟩
  rintro i3 i4 b5 i6 w7 ⟨i, t, j, lg, hv, hj, hib, hf, hlo, e7⟩
  simp only [List.cons.injEq, Value.int.injEq, Value.bool.injEq, and_true, true_and] at hv
  obtain ⟨rfl, rfl, rfl, rfl⟩ := hv
  refine vif_mk (fun h4 => ?_) fun h4 => ?_
  · have hjl : j < l.length := by simp at h4; omega
    have hpl : j < ps.length := by omega
    have hfst : l[j] = ps[j].1 := by
      have : l[j]? = (ps[j]?).map (·.1) := by rw [← h.fst, List.getElem?_map]
      rw [List.getElem?_eq_getElem hjl, List.getElem?_eq_getElem hpl] at this
      exact Option.some.inj this
    have hdrop : l.drop j = l[j] :: l.drop (j + 1) := List.drop_eq_getElem_cons hjl
    rw [hdrop] at hf hlo
    have hh := h.keeps e7.keeps
    have hdn := (hh.data _ (List.getElem_mem hpl)).n
    refine Sl.elem (by decide) ec_len hh.sl (List.getElem?_eq_getElem hpl) ?_
    rw [hfst] at hf hlo
    have hxj := hx _ (List.getElem_mem hjl)
    rw [hfst] at hxj
    refine local_ent rfl (by simp [ec, isOne]) fun c w8 e8 hc hb8 => ?_
    refine ⟨ps[j].1.index, by rw [add_mk, hb8.cell]; rfl, ?_⟩
    rw [wu (by omega) (by omega)]
    refine vif_mk (fun h5 => ?_) fun h5 => ?_
    · have : (ps[j].1.index == i + 1) = false := by simp at h5 ⊢; omega
      exact ⟨⟨2, rfl, by rw [hf]; simp [okFollow, this]⟩, e7.trans e8⟩
    have h5' : ps[j].1.index = i + 1 := by simp at h5; omega
    refine ⟨ps[j].1.term, by rw [add_mk, hb8.cell]; rfl, vif_mk (fun h6 => ?_) fun h6 => ?_⟩
    · have : ¬ t ≤ ps[j].1.term := by simp at h6; omega
      exact ⟨⟨2, rfl, by rw [hf]; simp [okFollow, this]⟩, e7.trans e8⟩
    have h6' : t ≤ ps[j].1.term := by simp at h6; omega
    refine vdraw_mk fun w9 e9 _ => ?_
    have hb9 := e9.blk hb8
    refine ⟨ps[j].1.index, by rw [add_mk, hb9.cell]; rfl, ps[j].1.term, by rw [add_mk, hb9.cell]; rfl, ?_⟩
    have hf' : okFollow i0 t0 l = okFollow ps[j].1.index ps[j].1.term (l.drop (j + 1)) := by
      rw [hf]; simp only [okFollow]; simp [h5', h6']
    have e79 := (e7.trans e8).trans e9
    rw [wi (by omega) (by omega)]
    refine vif_mk (fun h7 => ?_) fun h7 => ?_
    · subst h7
      exact ⟨⟨ps[j].1.index, ps[j].1.term, j + 1, true, by simp, hjl, hxj, hf', by rw [hlo]; simp, e79⟩, by simp only; omega⟩
    · subst h7
      refine ⟨ps[j].2.p, ps[j].2.n, ps[j].2.c, by rw [add_mk, hb9.cell]; rfl, ⟨ps[j].1.index, ps[j].1.term, j + 1, decide (((ps[j].2.n : Nat) : Int) > 900), by simp, hjl, hxj, hf', ?_, e79⟩, by simp only; omega⟩
      rw [hlo, hdn]
      simp only [okLong, List.all_cons, Bool.not_false, Bool.true_and]
      congr 1
      rcases Nat.lt_or_ge 900 ps[j].1.data.length with hh' | hh'
      · rw [decide_eq_false (by omega), decide_eq_true (by omega)]; rfl
      · rw [decide_eq_true (by omega), decide_eq_false (by omega)]; rfl
  · have hjl : j = l.length := by simp at h4; omega
    subst hjl
    rw [List.drop_length] at hf hlo
    simp only [okFollow, okLong, List.all_nil, Bool.and_true] at hf hlo
    refine vif_mk (fun h5 => ?_) fun h5 => ?_
    · subst h5
      exact ⟨⟨15, rfl, by rw [hf]; simp [okLong, hlo]⟩, e7⟩
    · subst h5
      exact ⟨⟨0, rfl, by rw [hf]; simp [okLong, hlo]⟩, e7⟩

theorem known78 {l : List Ent} {s' : SV} {qs : List (Ent × SV)} (hg : LogR w b g s ps) (hok : LogOk g) (h : Ents w s' l qs) (hl : l.length ≤ 1000000) (hx : ∀ x ∈ l, x.index ≤ 18446744073709551614) :
    Calls Tryz.prog 78 #[.pointer (some ⟨b, 0, none⟩), .slice s'.p s'.n s'.c] w fun e w' => e = .returned (.int .i64 (g.known l : Int)) ∧ Ex w w' := by
  refine ret (R := fun v w' => v = .int .i64 (g.known l : Int) ∧ Ex w w') (c78 _ s'.p s'.n s'.c w ?_) (fun v w' ⟨h1, h2⟩ => ⟨by rw [h1], h2⟩)
  have hn := h.n
  have hlen := h.len
  refine ⟨fun vs w' => ∃ j : Nat, vs = [.int .i64 (j : Int), .int .i64 (j : Int)] ∧ j ≤ l.length ∧ g.known l = j + g.known (l.drop j) ∧ Ex w w',
    fun vs _ => match vs with | [_, .int _ j] => ((l.length : Int) - j).toNat | _ => 0, ⟨0, rfl, by omega, by simp, Ex.refl _⟩, ?_⟩
  rintro i3 i4 w7 ⟨j, hv, hj, hf, e7⟩
  simp only [List.cons.injEq, Value.int.injEq, and_true, true_and] at hv
  obtain ⟨rfl, rfl⟩ := hv
  refine vif_mk (fun h4 => ?_) fun h4 => ?_
  · have hjl : j < l.length := by simp at h4; omega
    have hpl : j < qs.length := by omega
    have hfst : l[j] = qs[j].1 := by
      have : l[j]? = (qs[j]?).map (·.1) := by rw [← h.fst, List.getElem?_map]
      rw [List.getElem?_eq_getElem hjl, List.getElem?_eq_getElem hpl] at this
      exact Option.some.inj this
    have hdrop : l.drop j = l[j] :: l.drop (j + 1) := List.drop_eq_getElem_cons hjl
    rw [hdrop, hfst] at hf
    have hh := h.keeps e7.keeps
    have hg7 := hg.ex e7
    have hxj := hx _ (List.getElem_mem hjl)
    rw [hfst] at hxj
    refine Sl.elem (by decide) ec_len hh.sl (List.getElem?_eq_getElem hpl) ?_
    refine local_ent rfl (by simp [ec, isOne]) fun c w8 e8 hc hb8 => ?_
    refine ⟨qs[j].1.index, by rw [add_mk, hb8.cell]; rfl, (term52 (hg7.ex e8) hok _ (by omega)).mono ?_⟩
    rintro _ w9 ⟨⟨c', rfl, hc'⟩, e9⟩
    have e79 := (e7.trans e8).trans e9
    refine ⟨_, _, rfl, vif_mk (fun h5 => ?_) fun h5 => ?_⟩
    · refine ⟨?_, e79⟩
      have h5' : ¬ (g.term qs[j].1.index).isSome := fun hh => by simp at h5; exact h5 (hc'.2 hh)
      have h6 : g.term qs[j].1.index ≠ some qs[j].1.term := fun hh => h5' (by rw [hh]; rfl)
      rw [hf]; simp [Log.known, h6]
    · have h5' : (g.term qs[j].1.index).isSome := hc'.1 (by simpa using h5)
      obtain ⟨t, ht⟩ := Option.isSome_iff_exists.1 h5'
      refine ⟨qs[j].1.term, by rw [add_mk, (e9.blk hb8).cell]; rfl, vif_mk (fun h6 => ?_) fun h6 => ?_⟩
      · refine ⟨?_, e79⟩
        have h6' : t ≠ qs[j].1.term := by simp [Log.termD, ht] at h6; omega
        rw [hf]; simp [Log.known, ht, h6']
      · have h6' : t = qs[j].1.term := by simp [Log.termD, ht] at h6; omega
        rw [wi (by omega) (by omega)]
        refine ⟨⟨j + 1, by simp, hjl, ?_, e79⟩, by simp only; omega⟩
        rw [hf]; simp [Log.known, ht, h6']; omega
  · have hjl : j = l.length := by simp at h4; omega
    subst hjl
    rw [List.drop_length] at hf
    simp [Log.known] at hf
    exact ⟨by rw [hf], e7⟩

end
end Rx
end Go.Proofs.YtkoipeddfbeliaaGreat

/-
  The log in memory: an entry is added, the log is cut, made.
-/
namespace Go.Proofs.YtkoipeddfbeliaaGreat
namespace Rx
open Go.RowKit Md
set_option maxRecDepth 100000

def z47 : Array Value := #[.int .u64 0, .int .u64 0, .bool false, .slice none 0 0]

theorem Grow.keeps47 {w w' : World} {s r : SV} {vs new : List Value} (hs : Sl w 47 4 s vs) (ht : Tail w s) (g : Grow w w' 47 4 z47 s r new) (hl : new.length = (r.n - s.n) * 4) : Keeps w w' := by
  cases g with
  | here a cs hp hb hw hr hc hn =>
    obtain ⟨⟨q, hq⟩, htl⟩ := ht a hp
    refine ⟨fun k ds ty hk hty => hw.other (fun hh => ?_) hk, fun k ds hk => ?_⟩
    · subst hh
      have := (hb.same hk).2
      subst this
      rcases hty with h | h <;> exact absurd h (by decide)
    · by_cases hka : k = a.block
      · subst hka
        obtain ⟨rfl, _⟩ := hb.same hk
        obtain ⟨_, cs2, hb2, hsz, _⟩ := hs.at_ a hp
        obtain ⟨rfl, _⟩ := hb.same hb2
        have hcap := hs.cap
        have hle : a.off + s.n * 4 + new.length ≤ cs.toList.length := by rw [hl]; simp; omega
        refine ⟨_, hw.blk, by simp [setMany_length], fun x i hx hi j hj => ?_⟩
        rw [List.getElem?_toArray, setMany_get _ _ _ _ hle]
        split
        · rename_i hin
          exfalso
          rw [hl] at hin
          have h1 : s.n ≤ x - q := by omega
          have h2 : x - q < s.c := by omega
          have h3 := htl cs hb (x - q) h1 h2
          rw [show a.off + (x - q) * 4 = 4 * x by omega, hx] at h3
          simp at h3
          exact hi h3
        · simp
      · exact ⟨ds, hw.other hka hk, rfl, fun _ _ _ _ _ _ => rfl⟩
  | stay hp hr hw => rw [hw]; exact Keeps.refl _
  | fresh hr hw cs hb ht => exact hw.keeps

theorem Grow.tail47 {w w' : World} {s r : SV} {vs new : List Value} (hs : Sl w 47 4 s vs) (ht : Tail w s) (g : Grow w w' 47 4 z47 s r new) (hle : s.n ≤ r.n) (hl : new.length = (r.n - s.n) * 4) : Tail w' r := by
  intro a ha
  cases g with
  | here a' cs hp hb hw hr hc hn =>
    have haa : a' = a := by rw [hr, hp] at ha; exact Option.some.inj ha
    subst haa
    obtain ⟨hq, htl⟩ := ht a' hp
    refine ⟨hq, fun cs' hb' i hi1 hi2 => ?_⟩
    obtain ⟨rfl, _⟩ := hw.blk.same hb'
    obtain ⟨_, cs2, hb2, hsz, _⟩ := hs.at_ a' hp
    obtain ⟨rfl, _⟩ := hb.same hb2
    have hlen : a'.off + s.n * 4 + new.length ≤ cs.toList.length := by rw [hl]; simp; omega
    rw [List.getElem?_toArray, setMany_get _ _ _ _ hlen, if_neg (by rw [hl]; omega)]
    have := htl cs hb i (by omega) (by omega)
    simpa using this
  | stay hp hr hw => rw [hr] at ha; cases ha
  | fresh hr hw cs hb ht' =>
    rw [hr] at ha; simp at ha; subst ha
    refine ⟨⟨0, rfl⟩, fun cs' hb' i hi1 hi2 => ?_⟩
    obtain ⟨rfl, _⟩ := hb.same hb'
    have := ht' i hi1 hi2 0 (by decide)
    simpa [z47] using this

section
variable {w : World} {b : Nat} {g : Log} {s : SV} {ps : List (Ent × SV)}

theorem LogR.notin (h : LogR w b g s ps) : b ∉ s.own := by
  intro hh
  rw [SV.mem_own] at hh
  obtain ⟨a, ha, rfl⟩ := hh
  obtain ⟨_, cs, hb, _⟩ := h.ents.sl.at_ a ha
  exact absurd (hb.same h.blk).2 (by decide)

theorem LogR.lt (h : LogR w b g s ps) : ∀ x ∈ b :: s.own, x < w.heap.size := by
  intro x hx
  rcases List.mem_cons.1 hx with rfl | hx
  · exact h.blk.lt
  · exact h.ents.sl.own_lt x hx

theorem add75 (h : LogR w b g s ps) (hok : LogOk g) {t : Nat} {cf : Bool} {d : SV} {data : List UInt8} (hd : Bytes w d data) (hdn : data.length ≤ 1000000) :
    Calls Tryz.prog 75 #[.pointer (some ⟨b, 0, none⟩), .int .u64 (t : Int), .bool cf, .slice d.p d.n d.c] w fun e w' =>
      match g.add t cf data with
      | none => (∃ c : Int, c ≠ 0 ∧ e = .returned (.tuple #[.int .u64 0, .int .i64 c])) ∧ Ex w w'
      | some g' => e = .returned (.tuple #[.int .u64 ((g.last.1 + 1 : Nat) : Int), .int .i64 0]) ∧ ∃ s' ps', LogR w' b g' s' ps' ∧ Step (b :: s.own) (b :: s'.own) w w' := by
  refine ret (R := fun v w' => match g.add t cf data with
      | none => (∃ c : Int, c ≠ 0 ∧ v = (.tuple #[.int .u64 0, .int .i64 c])) ∧ Ex w w'
      | some g' => v = (.tuple #[.int .u64 ((g.last.1 + 1 : Nat) : Int), .int .i64 0]) ∧ ∃ s' ps', LogR w' b g' s' ps' ∧ Step (b :: s.own) (b :: s'.own) w w') (c75 _ t cf d.p d.n d.c w ?_) ?_
  rotate_left
  · intro v w' hh
    split at hh
    · obtain ⟨⟨c, h1, h2⟩, h3⟩ := hh; exact ⟨⟨c, h1, by rw [h2]⟩, h3⟩
    · obtain ⟨h1, h2⟩ := hh; exact ⟨by rw [h1], h2⟩
  have hlast := hok.last
  have hlen := hok.len
  have hbnd := hok.bnd
  have hn := h.ents.n
  refine (last33 h hok.len).mono ?_
  rintro _ w1 ⟨rfl, e1⟩
  have h1 := h.ex e1
  refine ⟨_, _, rfl, vif_mk (fun h2 => ?_) fun h2 => ?_⟩
  · have : t < g.last.2 := by simp at h2; omega
    have ha : g.add t cf data = none := by simp [Log.add, this]
    rw [ha]; exact ⟨⟨17, by decide, rfl⟩, e1⟩
  have h2' : ¬ t < g.last.2 := by simp at h2; omega
  refine ⟨s.p, s.n, s.c, by rw [add_mk, h1.blk.cell]; rfl, vif_mk (fun h3 => ?_) fun h3 => ?_⟩
  · have : 1024 ≤ g.l.length := by simp at h3; omega
    have ha : g.add t cf data = none := by simp [Log.add, this]
    rw [ha]; exact ⟨⟨6, by decide, rfl⟩, e1⟩
  have h3' : ¬ 1024 ≤ g.l.length := by simp at h3; omega
  have hdl := hd.n
  refine vif_mk (fun h4 => ?_) fun h4 => ?_
  · have : 900 < data.length := by simp at h4; omega
    have ha : g.add t cf data = none := by simp [Log.add, this]
    rw [ha]; exact ⟨⟨15, by decide, rfl⟩, e1⟩
  have h4' : ¬ 900 < data.length := by simp at h4; omega
  have ha : g.add t cf data = some { g with l := g.l ++ [⟨g.last.1 + 1, t, cf, data⟩] } := by simp [Log.add, h2', h3', h4']
  rw [ha]
  refine vdraw_mk fun w2 e2 _ => ?_
  have hh := h1.ex e2
  have e12 := e1.trans e2
  refine ⟨fun w' => Blk w' b #[.int .u64 (g.base : Int), .int .u64 (g.bterm : Int), .slice s.p s.n s.c] 99, hh.blk, s.p, s.n, s.c, fun w' hw' => by rw [add_mk, hw'.cell]; rfl, ?_⟩
  refine (clone56 (Sl.ex hd e12) (one_bytes _) (by omega)).mono ?_
  rintro _ w3 ⟨d', rfl, e3, hd', ho'⟩
  refine ⟨_, _, _, rfl, e3.blk hh.blk, rfl, rfl, vnew_mk fun w4 e4 s4 b4 => ⟨e4.blk (e3.blk hh.blk), ?_⟩⟩
  have e14 := (e12.trans e3).trans e4
  have h4 := h.ex e14
  rw [show IntKind.u64.wrap ((g.last.1 : Int) + 1) = ((g.last.1 + 1 : Nat) : Int) by rw [wu (by omega) (by omega)]; rfl] at b4 ⊢
  have hnew : Sl w4 47 4 ⟨some ⟨w3.heap.size, 0, none⟩, 1, 1⟩ (ec (⟨g.last.1 + 1, t, cf, data⟩, d')) := by
    have hb : Blk w4 w3.heap.size (ec (⟨g.last.1 + 1, t, cf, data⟩, d')).toArray 47 := by show w4.heap[w3.heap.size]? = _; rw [b4]; simp [ec]
    exact Sl.of_blk (n := 1) hb rfl
  refine app47 (s := s) (q := ⟨some ⟨w3.heap.size, 0, none⟩, 1, 1⟩) h4.ents.sl hnew (by simp [ec, isOne]) (by simp; omega) fun r w5 hr hrn gg => ?_
  have gg : Grow w4 w5 47 4 z47 s r (ec (⟨g.last.1 + 1, t, cf, data⟩, d')) := gg
  simp only at hrn
  have hk := gg.keeps47 h4.ents.sl h4.tail (by rw [ec_len]; omega)
  have ht := gg.tail47 h4.ents.sl h4.tail (by omega) (by rw [ec_len]; omega)
  have hd5 : Bytes w5 d' data := gg.bytes (Sl.ex hd' e4)
  have hents := h4.ents.grow hd5 (by simp) hr (fun p hp => gg.bytes (h4.ents.data p hp)) gg
  have hb5 : Blk w5 b #[.int .u64 (g.base : Int), .int .u64 (g.bterm : Int), .slice s.p s.n s.c] 99 := gg.fr.blk h4.blk h4.notin
  rw [add_mk]
  refine vstore1_mk hb5 (by simp) fun w6 p6 => ⟨rfl, r, ps ++ [(⟨g.last.1 + 1, t, cf, data⟩, d')], ⟨by simpa using p6.blk, ?_, ?_⟩, ?_⟩
  · have hkp := p6.keeps hb5 (by decide)
    exact hents.keeps hkp
  · refine ht.same fun a cs' ha' hb' => ?_
    obtain ⟨_, cs, hcs, _⟩ := hr.at_ a ha'
    have hne : a.block ≠ b := fun hh' => by rw [hh'] at hcs; exact absurd (hcs.same hb5).2 (by decide)
    have := p6.other hne hcs
    obtain ⟨rfl, _⟩ := this.same hb'
    exact hcs
  · have s1 : Step (b :: s.own) (b :: s.own) w w4 := e14.step _
    have s2 : Step (b :: s.own) (b :: r.own) w4 w5 := ⟨gg.fr.mono fun x hx => List.mem_cons_of_mem _ hx, hk, fun x hx => by
      rcases List.mem_cons.1 hx with rfl | hx
      · exact .inl (by simp)
      · exact (gg.own x hx).imp (fun hh => List.mem_cons_of_mem _ hh) id⟩
    have s3 : Step (b :: r.own) (b :: r.own) w5 w6 := ⟨p6.fr (by simp), p6.keeps hb5 (by decide), fun x hx => .inl hx⟩
    exact (s1.trans s2).trans s3

theorem new48 {w : World} (i t : Nat) : Calls Tryz.prog 48 #[.int .u64 (i : Int), .int .u64 (t : Int)] w fun e w' => ∃ c, e = .returned (.pointer (some ⟨c, 0, none⟩)) ∧ w.heap.size ≤ c ∧ LogR w' c (Log.new i t) .nil [] ∧ Ex w w' := by
  refine ret (R := fun v w' => ∃ c, v = .pointer (some ⟨c, 0, none⟩) ∧ w.heap.size ≤ c ∧ LogR w' c (Log.new i t) .nil [] ∧ Ex w w') (c48 i t w ?_) (fun v w' ⟨c, h1, h2⟩ => ⟨c, by rw [h1], h2⟩)
  exact vnew_mk fun w1 e1 s1 b1 => ⟨_, rfl, Nat.le_refl _, ⟨b1, Ents.zero _, fun a ha => by simp [SV.nil] at ha⟩, e1⟩

theorem cut54 (h : LogR w b g s ps) (hok : LogOk g) (i : Nat) (hi : i ≤ 18446744073709551615) :
    Calls Tryz.prog 54 #[.pointer (some ⟨b, 0, none⟩), .int .u64 (i : Int)] w fun e w' => (∃ c : Int, e = .returned (.int .i64 c)) ∧ ∃ s' ps', LogR w' b (g.cut i) s' ps' ∧ Step (b :: s.own) (b :: s'.own) w w' := by
  refine ret (R := fun v w' => (∃ c : Int, v = .int .i64 c) ∧ ∃ s' ps', LogR w' b (g.cut i) s' ps' ∧ Step (b :: s.own) (b :: s'.own) w w') (c54 _ i w ?_) (fun v w' ⟨⟨c, h1⟩, h2⟩ => ⟨⟨c, by rw [h1]⟩, h2⟩)
  refine (term52 h hok i hi).mono ?_
  rintro _ w1 ⟨⟨c, rfl, hc⟩, e1⟩
  have h1 := h.ex e1
  have hlast := hok.last
  refine ⟨_, _, rfl, vif_mk (fun h2 => ?_) fun h2 => ?_⟩
  · have : g.term i = none := by
      cases ht : g.term i with
      | none => rfl
      | some t => rw [ht] at hc; simp at hc; simp [hc] at h2
    exact ⟨⟨c, rfl⟩, s, ps, by simpa [Log.cut, this] using h1, e1.step _⟩
  obtain ⟨t, ht⟩ := Option.isSome_iff_exists.1 (hc.1 (by simpa using h2))
  have hcut : g.cut i = ⟨i, t, g.l.drop (i - g.base)⟩ := by simp [Log.cut, ht]
  have htd : g.termD i = t := by simp [Log.termD, ht]
  have hbi : g.base ≤ i ∧ i ≤ g.last.1 := by
    unfold Log.term at ht
    split at ht
    · cases ht
    · split at ht
      · cases ht
      · omega
  have hn := h.ents.n
  have hcap := h.ents.sl.cap
  have hpl := h.ents.len
  refine vdraw_mk fun w2 e2 _ => ?_
  have hh := h1.ex e2
  refine ⟨s.p, s.n, s.c, by rw [add_mk, hh.blk.cell]; rfl, g.base, by rw [add_mk, hh.blk.cell]; rfl, ?_⟩
  rw [show IntKind.u64.wrap ((i : Int) - (g.base : Int)) = ((i - g.base : Nat) : Int) by rw [wu (by omega) (by omega)]; omega]
  refine vslice_mk (i - g.base) s.n s.c (fun G hG => ⟨by omega, by omega, by simpa using hG⟩) (fun G h => h) (fun G h => h) (.inl rfl) (fun _ => rfl) ?_
  have hd := hh.ents.drop (k := i - g.base) (by omega)
  refine (clone86 hd.sl (one_ec _) (by simp [SV.cut]; have := hok.len; omega)).mono ?_
  rintro _ w3 ⟨r, rfl, e3, hr, htl, hown⟩
  refine ⟨_, _, _, rfl, ?_⟩
  have h3 := hh.ex e3
  rw [add_mk, add_mk, add_mk]
  refine vstore1_mk h3.blk (by simp) fun w4 p4 => vstore1_mk p4.blk (by simp) fun w5 p5 => vstore1_mk p5.blk (by simp) fun w6 p6 => ?_
  have k4 := p4.keeps h3.blk (by decide)
  have k5 := p5.keeps p4.blk (by decide)
  have k6 := p6.keeps p5.blk (by decide)
  have f4 : Fr [b] w3 w4 := p4.fr (by simp)
  have f5 : Fr [b] w4 w5 := p5.fr (by simp)
  have f6 : Fr [b] w5 w6 := p6.fr (by simp)
  have f36 := (f4.trans f5).trans f6
  have k36 := (k4.trans k5).trans k6
  have hrb : ∀ x ∈ r.own, x ∉ [b] := by
    intro x hx
    have := hown x hx
    have := hh.blk.lt
    simp only [List.mem_singleton]
    omega
  have e13 := (e1.trans e2).trans e3
  refine ⟨⟨0, rfl⟩, r, ps.drop (i - g.base), ?_, ?_⟩
  · rw [hcut]
    refine ⟨?_, ⟨by rw [List.map_drop, h.ents.fst], hr.fr f36 hrb, fun p hp => Sl.keeps (h3.ents.data p (List.mem_of_mem_drop hp)) k36 (.inr rfl), fun p hp => h.ents.pos p (List.mem_of_mem_drop hp), fun a ha => (htl a ha).1⟩, ?_⟩
    · rw [htd] at p6
      simpa using p6.blk
    · refine htl.same fun a cs' ha hb' => ?_
      obtain ⟨_, cs, hcs, _⟩ := hr.at_ a ha
      have := f36.blk hcs (hrb _ (SV.mem_own.2 ⟨a, ha, rfl⟩))
      obtain ⟨rfl, _⟩ := this.same hb'
      exact hcs
  · have s1 : Step (b :: s.own) (b :: r.own) w w3 := ⟨e13.fr _, e13.keeps, fun x hx => by
      rcases List.mem_cons.1 hx with rfl | hx
      · exact .inl (by simp)
      · exact .inr (Nat.le_trans ((e1.trans e2).size) (hown x hx))⟩
    exact s1.trans ⟨f36.mono (by simp), k36, fun x hx => .inl hx⟩

end
end Rx
end Go.Proofs.YtkoipeddfbeliaaGreat

/-
  The log in memory: entries are put.
-/
namespace Go.Proofs.YtkoipeddfbeliaaGreat
namespace Rx
open Go.RowKit Md
set_option maxRecDepth 100000

section
variable {w : World} {b : Nat} {g : Log} {s : SV} {ps : List (Ent × SV)}

/-- an entry behind the last one -/
theorem LogR.push (h : LogR w b g s ps) (hn : s.n ≤ 1000000) {x : Ent} {d : SV} (hd : Bytes w d x.data) (hx : x.index ≠ 0) {c : Nat} (hc : Blk w c (ec (x, d)).toArray 47) {K : World → Prop}
    (hK : ∀ w' r, LogR w' b { g with l := g.l ++ [x] } r (ps ++ [(x, d)]) → Step (b :: s.own) (b :: r.own) w w' → K w') :
    vappend Tryz.prog 47 w s.p s.n s.c (some ⟨c, 0, none⟩) 1 fun r rn rc w5 => vstore1 w5 ⟨b, 0 + 2, none⟩ (.slice r rn rc) K := by
  refine app47 (s := s) (q := ⟨some ⟨c, 0, none⟩, 1, 1⟩) h.ents.sl (Sl.of_blk (n := 1) hc rfl) (by simp [ec, isOne]) (by simp; omega) fun r w5 hr hrn gg => ?_
  have gg : Grow w w5 47 4 z47 s r (ec (x, d)) := gg
  simp only at hrn
  have hk := gg.keeps47 h.ents.sl h.tail (by rw [ec_len]; omega)
  have ht := gg.tail47 h.ents.sl h.tail (by omega) (by rw [ec_len]; omega)
  have hents := h.ents.grow (gg.bytes hd) hx hr (fun p hp => gg.bytes (h.ents.data p hp)) gg
  have hb5 : Blk w5 b #[.int .u64 (g.base : Int), .int .u64 (g.bterm : Int), .slice s.p s.n s.c] 99 := gg.fr.blk h.blk h.notin
  refine vstore1_mk hb5 (by simp) fun w6 p6 => hK w6 r ⟨by simpa using p6.blk, hents.keeps (p6.keeps hb5 (by decide)), ?_⟩ ?_
  · refine ht.same fun a cs' ha' hb' => ?_
    obtain ⟨_, cs, hcs, _⟩ := hr.at_ a ha'
    have hne : a.block ≠ b := fun hh' => by rw [hh'] at hcs; exact absurd (hcs.same hb5).2 (by decide)
    have := p6.other hne hcs
    obtain ⟨rfl, _⟩ := this.same hb'
    exact hcs
  · have s2 : Step (b :: s.own) (b :: r.own) w w5 := ⟨gg.fr.mono fun x hx => List.mem_cons_of_mem _ hx, hk, fun x hx => by
      rcases List.mem_cons.1 hx with rfl | hx
      · exact .inl (by simp)
      · exact (gg.own x hx).imp (fun hh => List.mem_cons_of_mem _ hh) id⟩
    exact s2.trans ⟨p6.fr (by simp), p6.keeps hb5 (by decide), fun x hx => .inl hx⟩

theorem okFollow_idx : ∀ {l : List Ent} {i t : Nat}, okFollow i t l = true → ∀ k x, l[k]? = some x → x.index = i + k + 1
  | [], _, _, _, k, x, h => by simp at h
  | y :: l, i, t, ho, 0, x, h => by
    simp only [okFollow, Bool.and_eq_true, beq_iff_eq] at ho
    simp at h; subst h; omega
  | y :: l, i, t, ho, k + 1, x, h => by
    simp only [okFollow, Bool.and_eq_true, beq_iff_eq] at ho
    have := okFollow_idx ho.2 k x (by simpa using h)
    omega

theorem known_le (g : Log) : ∀ l : List Ent, g.known l ≤ l.length
  | [] => by simp [Log.known]
  | x :: l => by
    have := known_le g l
    unfold Log.known
    split <;> simp <;> omega
theorem known_term (g : Log) : ∀ (l : List Ent) (k : Nat) (x : Ent), k < g.known l → l[k]? = some x → g.term x.index = some x.term
  | [], k, x, hk, _ => by simp [Log.known] at hk
  | y :: l, k, x, hk, hx => by
    unfold Log.known at hk
    split at hk
    · cases k with
      | zero => simp at hx; subst hx; assumption
      | succ k => exact known_term g l k x (by omega) (by simpa using hx)
    · omega
theorem term_some {g : Log} {i t : Nat} (h : g.term i = some t) : g.base ≤ i ∧ i ≤ g.last.1 := by
  unfold Log.term at h
  split at h
  · cases h
  · split at h
    · cases h
    · omega

theorem put49 (h : LogR w b g s ps) (hok : LogOk g) {sl : SV} {l : List Ent} {qs : List (Ent × SV)} (hl : Ents w sl l qs) (hll : l.length ≤ 1000000) (i t : Nat) (hi : i ≤ 9300000000000000000)
    (hx : ∀ x ∈ l, x.index ≤ 18446744073709551614) :
    Calls Tryz.prog 49 #[.pointer (some ⟨b, 0, none⟩), .int .u64 (i : Int), .int .u64 (t : Int), .slice sl.p sl.n sl.c] w fun e w' =>
      match g.put i t l with
      | none => (∃ c : Int, c ≠ 0 ∧ e = .returned (.tuple #[.int .u64 0, .int .i64 c])) ∧ Ex w w'
      | some (g', ch) => e = .returned (.tuple #[.int .u64 (ch : Int), .int .i64 0]) ∧ ∃ s' ps', LogR w' b g' s' ps' ∧ Step (b :: s.own) (b :: s'.own) w w' := by
  refine ret (R := fun v w' => match g.put i t l with
      | none => (∃ c : Int, c ≠ 0 ∧ v = (.tuple #[.int .u64 0, .int .i64 c])) ∧ Ex w w'
      | some (g', ch) => v = (.tuple #[.int .u64 (ch : Int), .int .i64 0]) ∧ ∃ s' ps', LogR w' b g' s' ps' ∧ Step (b :: s.own) (b :: s'.own) w w') (c49 _ i t sl.p sl.n sl.c w ?_) ?_
  rotate_left
  · intro v w' hh
    split at hh
    · obtain ⟨⟨c, h1, h2⟩, h3⟩ := hh; exact ⟨⟨c, h1, by rw [h2]⟩, h3⟩
    · obtain ⟨h1, h2⟩ := hh; exact ⟨by rw [h1], h2⟩
  have hlast := hok.last
  have hlen := hok.len
  have hbnd := hok.bnd
  have hn := h.ents.n
  have hln := hl.n
  refine (follow77 hl hll i t (by omega) hx).mono ?_
  rintro _ w1 ⟨⟨c, rfl, hc⟩, e1⟩
  refine ⟨c, rfl, vif_mk (fun h2 => ?_) fun h2 => ?_⟩
  · have hc0 : c ≠ 0 := by simpa using h2
    have : (okFollow i t l && okLong l) = false := by
      cases hb : okFollow i t l && okLong l with
      | false => rfl
      | true => exact absurd (hc.2 hb) hc0
    have hp : g.put i t l = none := by simp only [Log.put, this]; rfl
    rw [hp]; exact ⟨⟨c, hc0, rfl⟩, e1⟩
  have hfol := hc.1 (by simpa using h2)
  have hof : okFollow i t l = true := by simp only [Bool.and_eq_true] at hfol; exact hfol.1
  have hidx := okFollow_idx hof
  refine (term52 (h.ex e1) hok i (by omega)).mono ?_
  rintro _ w2 ⟨⟨c2, rfl, hc2⟩, e2⟩
  have e12 := e1.trans e2
  refine ⟨_, _, rfl, vif_mk (fun h3 => ?_) fun h3 => ?_⟩
  · have hc0 : c2 ≠ 0 := by simpa using h3
    have : g.term i = none := by
      cases ht : g.term i with
      | none => rfl
      | some _ => rw [ht] at hc2; exact absurd (hc2.2 rfl) hc0
    have hp : g.put i t l = none := by simp [Log.put, this]
    rw [hp]; exact ⟨⟨c2, hc0, rfl⟩, e12⟩
  obtain ⟨t', ht'⟩ := Option.isSome_iff_exists.1 (hc2.1 (by simpa using h3))
  have htd : g.termD i = t' := by simp [Log.termD, ht']
  refine vif_mk (fun h4 => ?_) fun h4 => ?_
  · have : t' ≠ t := by simp [htd] at h4; omega
    have hp : g.put i t l = none := by simp [Log.put, ht', this]
    rw [hp]; exact ⟨⟨17, by decide, rfl⟩, e12⟩
  have htt : t' = t := by simp [htd] at h4; omega
  subst htt
  have hput : g.put i t' l = match l.drop (g.known l) with
    | [] => some (g, 0)
    | x :: xs => if 1024 < (x.index - g.base - 1) + (x :: xs).length then none else some ({ g with l := g.l.take (x.index - g.base - 1) ++ (x :: xs) }, x.index) := by
    simp [Log.put, hfol, ht']
    rfl
  rw [hput]
  have hrange := term_some ht'
  have h2' := h.ex e12
  have hl2 := hl.keeps e12.keeps
  refine (known78 h2' hok hl2 hll hx).mono ?_
  rintro _ w3 ⟨rfl, e3⟩
  have e13 := e12.trans e3
  have h3' := h.ex e13
  have hkn := known_le g l
  have hcapl := hl.sl.cap
  refine ⟨_, rfl, vslice_mk (g.known l) sl.n sl.c (fun G hG => ⟨by omega, by omega, by simpa using hG⟩) (fun G h => h) (fun G h => h) (.inl rfl) (fun _ => rfl) ?_⟩
  have hrest : Ents w3 (sl.cut 4 (g.known l) sl.n sl.c) (l.drop (g.known l)) (qs.drop (g.known l)) := (hl.keeps e13.keeps).drop hkn
  have hkt := known_term g l
  generalize hk : g.known l = k at hrest hkn hkt ⊢
  have hrn : (sl.cut 4 k sl.n sl.c).n = (l.drop k).length := hrest.n
  refine vif_mk (fun h5 => ?_) fun h5 => ?_
  · have h5' : sl.n - k = 0 := by simp at h5; omega
    have : l.drop k = [] := List.drop_eq_nil_of_le (by omega)
    rw [this]
    exact ⟨rfl, s, ps, h3', e13.step _⟩
  have h5' : k < l.length := by simp at h5; omega
  have hdrop : l.drop k = l[k] :: l.drop (k + 1) := List.drop_eq_getElem_cons h5'
  have hxk := hidx k l[k] (List.getElem?_eq_getElem h5')
  have hik : i + k ≤ g.last.1 := by
    rcases Nat.eq_zero_or_pos k with h0 | h0
    · omega
    · have hy := List.getElem?_eq_getElem (l := l) (i := k - 1) (by omega)
      have h6 := term_some (hkt (k - 1) _ (by omega) hy)
      have h7 := hidx (k - 1) _ hy
      omega
  refine vdraw_mk fun w4 e4 _ => ?_
  have e14 := e13.trans e4
  have h4' := h.ex e14
  have hrest4 := hrest.keeps e4.keeps
  have hq0l : 0 < (qs.drop k).length := by rw [hrest.len]; simp; omega
  have hq0 : (qs.drop k)[0]? = some (qs.drop k)[0] := List.getElem?_eq_getElem hq0l
  have hx0 : (qs.drop k)[0].1 = l[k] := by
    have h := (show (l.drop k)[0]? = some (qs.drop k)[0].1 by rw [← hrest.fst, List.getElem?_map, hq0]; rfl)
    rw [hdrop, List.getElem?_cons_zero] at h
    exact (Option.some.inj h).symm
  have hfirst : ∀ (w' : World) {K : Addr → Prop}, Ents w' (sl.cut 4 k sl.n sl.c) (l.drop k) (qs.drop k) → (∀ a, w'.cell? ((a.add ((0 : Int).toNat * 4)).add 0) = some (.int .u64 (l[k].index : Int)) → K a) → vidx (sl.cut 4 k sl.n sl.c).p (sl.cut 4 k sl.n sl.c).n 0 K := by
    intro w' K he hK
    refine he.sl.idx (by omega) (by simp [SV.cut]; omega) fun a cs ha g1 g2 g3 g4 => hK a ?_
    have := g4 0 (.int .u64 (l[k].index : Int)) (by
      have := flat_get ec_len (qs.drop k) 0 0 (by decide)
      rw [hq0] at this
      rw [Nat.zero_mul, Nat.add_zero] at this
      rw [this, Option.bind_some, ← hx0]; rfl)
    rw [addr_eta g1, add_mk, add_mk, g2.cell]
    simpa using this
  refine hfirst w4 hrest4 fun a ha => ⟨_, ha, g.base, by rw [add_mk, h4'.blk.cell]; rfl, ?_⟩
  rw [sub_wrap (by omega) (by have := hx _ (List.getElem_mem h5'); omega), wi (n := ((l[k].index - g.base - 1 : Nat) : Int)) (by omega) (by omega)]
  have hsn : (sl.cut 4 k sl.n sl.c).n = sl.n - k := rfl
  have hlk : (l[k] :: l.drop (k + 1)).length = l.length - k := by rw [← hdrop]; simp
  rw [hdrop]
  simp only [hlk]
  refine vif_mk (fun h6 => ?_) fun h6 => ?_
  · rw [wi (by omega) (by omega)] at h6
    have : 1024 < (l[k].index - g.base - 1) + (l.length - k) := by simp at h6; omega
    rw [if_pos this]
    exact ⟨⟨6, by decide, rfl⟩, e14⟩
  rw [wi (by omega) (by omega)] at h6
  have h6' : ¬ 1024 < (l[k].index - g.base - 1) + (l.length - k) := by simp at h6; omega
  rw [if_neg h6']
  generalize hkp : l[k].index - g.base - 1 = kp at h6' ⊢
  have hkl : kp ≤ g.l.length := by omega
  have hcap := h.ents.sl.cap
  have hps := h.ents.len
  refine ⟨s.p, s.n, s.c, by rw [add_mk, h4'.blk.cell]; rfl, ?_⟩
  refine vslice_mk 0 kp kp (fun G h => h) (fun G hG => ⟨by omega, by omega, by simpa using hG⟩) (fun G hG => ⟨by omega, by omega, by simpa using hG⟩) (.inr (by simp)) (by simp) ?_
  rw [add_mk]
  refine vstore1_mk h4'.blk (by simp) fun w5 p5 => ?_
  have k5 := p5.keeps h4'.blk (by decide)
  have hcut5 : LogR w5 b { g with l := g.l.take kp } (s.cut 4 0 kp kp) (ps.take kp) := by
    have hsl := h4'.ents.sl.cut (l := 0) (h := kp) (m := kp) (by omega) (by omega) (by omega) (by omega)
    rw [Nat.zero_mul, List.drop_zero, Nat.sub_zero, flat_take ec_len] at hsl
    have hal : ∀ a, (s.cut 4 0 kp kp).p = some a → ∃ q, a.off = 4 * q := by
      intro a ha
      simp only [SV.cut] at ha
      split at ha
      · exact h.ents.al a ha
      · cases hp : s.p with
        | none => simp [hp] at ha
        | some b' =>
          obtain ⟨q, hq⟩ := h.ents.al b' hp
          obtain ⟨h1, _⟩ := h.ents.sl.at_ b' hp
          rw [hp, addr_eta h1] at ha
          simp at ha; subst ha
          exact ⟨q, hq⟩
    refine ⟨by simpa [SV.cut] using p5.blk, ⟨by rw [List.map_take, h.ents.fst], hsl.keeps47 (fun p hp => h.ents.pos p (List.mem_of_mem_take hp)) hal k5, fun p hp => Sl.keeps (h4'.ents.data p (List.mem_of_mem_take hp)) k5 (.inr rfl), fun p hp => h.ents.pos p (List.mem_of_mem_take hp), hal⟩, fun a ha => ⟨hal a ha, fun cs _ i h1 h2 => ?_⟩⟩
    simp only [SV.cut] at h1 h2
    omega
  have hown5 : ∀ x ∈ (s.cut 4 0 kp kp).own, x ∈ s.own := by
    intro x hx
    rw [SV.mem_own] at hx ⊢
    obtain ⟨a, ha, hb⟩ := hx
    simp only [SV.cut] at ha
    split at ha
    · exact ⟨a, ha, hb⟩
    · cases hp : s.p with
      | none => simp [hp] at ha
      | some b' =>
        obtain ⟨h1, _⟩ := h.ents.sl.at_ b' hp
        rw [hp, addr_eta h1] at ha
        simp at ha
        exact ⟨b', rfl, by rw [← hb, ← ha]⟩
  have step5 : Step (b :: s.own) (b :: (s.cut 4 0 kp kp).own) w w5 := (e14.step _).trans ⟨p5.fr (by simp), k5, fun x hx => by
    rcases List.mem_cons.1 hx with rfl | hx
    · exact .inl (by simp)
    · exact .inl (List.mem_cons_of_mem _ (hown5 x hx))⟩
  have hrest5 := hrest4.keeps k5
  refine ⟨fun vs w' => ∃ (j : Nat) (r : SV) (rs : List (Ent × SV)), vs = [iv j] ∧ j ≤ (l.drop k).length ∧ LogR w' b { g with l := g.l.take kp ++ (l.drop k).take j } r rs ∧ Step (b :: s.own) (b :: r.own) w w' ∧ Ents w' (sl.cut 4 k sl.n sl.c) (l.drop k) (qs.drop k),
    fun vs _ => match vs with | [.int _ j] => (((l.drop k).length : Int) - j).toNat | _ => 0, ⟨0, _, _, rfl, by omega, by simpa using hcut5, step5, hrest5⟩, ?_⟩
  rintro i21 w6 ⟨j, r, rs, hv, hj, hR, hS, hE⟩
  simp only [iv, List.cons.injEq, Value.int.injEq, and_true, true_and] at hv
  subst hv
  refine vif_mk (fun h7 => ?_) fun h7 => ?_
  · have hjl : j < (l.drop k).length := by simp at h7; simp; omega
    have hpl : j < (qs.drop k).length := by rw [hE.len]; exact hjl
    have hq : (qs.drop k)[j]? = some (qs.drop k)[j] := List.getElem?_eq_getElem hpl
    have hfst : (l.drop k)[j]? = some (qs.drop k)[j].1 := by rw [← hE.fst, List.getElem?_map, hq]; rfl
    have hd6 := hE.data _ (List.getElem_mem hpl)
    have hpos := hE.pos _ (List.getElem_mem hpl)
    have hdl : (qs.drop k)[j].1.data.length ≤ 900 := by
      have hm : (qs.drop k)[j].1 ∈ l := List.mem_of_mem_drop (List.mem_of_getElem? hfst)
      simp only [Bool.and_eq_true] at hfol
      have := List.all_eq_true.1 hfol.2 _ hm
      simpa using this
    generalize (qs.drop k)[j] = p at hq hfst hd6 hpos hdl
    refine Sl.elem (by decide) ec_len hE.sl hq ?_
    refine local_ent rfl (by simp [ec, isOne]) fun c w7 e7 hc7 hb7 => vdraw_mk fun w8 e8 _ => ?_
    have e68 := e7.trans e8
    have hR8 := hR.ex e68
    refine ⟨fun w' => Blk w' b #[.int .u64 (g.base : Int), .int .u64 (g.bterm : Int), .slice r.p r.n r.c] 99, hR8.blk, vcells_all (e8.blk hb7) 4 rfl ⟨r.p, r.n, r.c, fun w' hw' => by rw [hw'.cell]; rfl, ?_⟩⟩
    refine (clone55 (p := p) (Sl.ex hd6 e68) (by have := hd6.n; omega)).mono ?_
    rintro _ w9 ⟨d, rfl, e9, hd9⟩
    refine ⟨_, rfl, rfl, e9.blk hR8.blk, rfl, rfl, vnew_mk fun w10 e10 s10 b10 => ⟨e10.blk (e9.blk hR8.blk), ?_⟩⟩
    have e610 := (e68.trans e9).trans e10
    have hb10 : Blk w10 w9.heap.size (ec (p.1, d)).toArray 47 := by show w10.heap[w9.heap.size]? = _; rw [b10]; simp
    have hrn' := hR.ents.n
    simp only [List.length_append, List.length_take] at hrn'
    refine (hR.ex e610).push (by simp at hjl; omega) (Sl.ex hd9 e10) hpos hb10 fun w11 r' hR11 hS11 => ?_
    rw [wi (by omega) (by omega)]
    refine ⟨⟨j + 1, r', rs ++ [(p.1, d)], by simp [iv], hjl, ?_, (hS.trans (e610.step _)).trans hS11, (hE.keeps e610.keeps).keeps hS11.keeps⟩, by simp only; omega⟩
    have htk : (l.drop k).take (j + 1) = (l.drop k).take j ++ [p.1] := by
      rw [List.take_succ_eq_append_getElem hjl]
      congr 2
      rw [List.getElem?_eq_getElem hjl] at hfst
      exact Option.some.inj hfst
    rw [htk, ← List.append_assoc]
    exact hR11
  · have hjl : j = (l.drop k).length := by simp at h7; simp at hj ⊢; omega
    subst hjl
    rw [List.take_of_length_le (Nat.le_refl _), hdrop] at hR
    exact hfirst w6 hE fun a' ha' => ⟨_, ha', rfl, r, rs, hR, hS⟩

end
end Rx
end Go.Proofs.YtkoipeddfbeliaaGreat

/-
  Who counts: the functions of package conf.
-/
namespace Go.Proofs.YtkoipeddfbeliaaGreat
namespace Rx
open Go.RowKit Md
set_option maxRecDepth 100000

/-- an entry with members has such as may be -/
def ConfOk (g : Log) : Prop := ∀ x ∈ g.l, x.conf = true → ∃ ms, goodM ms ∧ x.data = encM ms

theorem dec_enc {ms : List Nat} (h : goodM ms) : dec (encM ms) = ms := by
  simp only [dec, encM, List.tail_cons, List.map_map]
  have : ∀ x ∈ ms, (UInt8.toNat ∘ UInt8.ofNat) x = x := by
    intro x hx
    have := (h.2.1 x hx).2
    simp; omega
  rw [List.map_congr_left this, List.map_id']

theorem confOf_low {g : Log} {ms : List Nat} {i : Nat} (h : i ≤ g.base) : confOf g ms i = (ms, 0) := by
  simp [confOf, show i - g.base = 0 by omega]
theorem confOf_top {g : Log} (hok : LogOk g) {ms : List Nat} {i : Nat} (h : g.last.1 ≤ i) : confOf g ms i = confOf g ms g.last.1 := by
  have := hok.last
  simp only [confOf]
  rw [List.take_of_length_le (by omega), List.take_of_length_le (by omega)]
theorem confOf_at {g : Log} (hok : LogOk g) {ms : List Nat} {i : Nat} {x : Ent} (h1 : g.base < i) (hx : g.l[i - g.base - 1]? = some x) :
    confOf g ms i = if x.conf then (dec x.data, i) else confOf g ms (i - 1) := by
  have hlt := (List.getElem?_eq_some_iff.1 hx).1
  have he := List.getElem?_eq_getElem hlt
  rw [he] at hx
  have hxx : g.l[i - g.base - 1] = x := Option.some.inj hx
  have hidx := hok.idx _ _ he
  simp only [confOf]
  rw [show i - g.base = (i - g.base - 1) + 1 by omega, List.take_succ_eq_append_getElem hlt, List.reverse_append]
  simp only [List.reverse_cons, List.reverse_nil, List.nil_append, List.singleton_append, List.find?_cons, hxx]
  cases hc : x.conf with
  | true => simp only [if_true]; rw [hxx] at hidx; rw [hidx]; congr 1; omega
  | false => simp only [show i - 1 - g.base = i - g.base - 1 by omega]; rfl

section
variable {w : World} {b : Nat} {g : Log} {s : SV} {ps : List (Ent × SV)}

theorem has30 {w : World} {s : SV} {l : List Nat} (hs : Ints w s l) (hn : s.n ≤ 1000000000) (x : Nat) :
    Calls Tryz.prog 30 #[.slice s.p s.n s.c, .int .i64 (x : Int)] w fun e w' => e = .returned (.bool (decide (x ∈ l))) ∧ w' = w := by
  refine ret (R := fun v w' => v = .bool (decide (x ∈ l)) ∧ w' = w) (c30 s.p s.n s.c x w ?_) (fun v w' ⟨hr, h⟩ => ⟨by rw [hr], h⟩)
  refine (contains59 hs hn x).mono ?_
  rintro _ _ ⟨rfl, rfl⟩
  exact ⟨_, rfl, rfl, rfl⟩

theorem maj94 {w : World} {s : SV} (hn : s.n ≤ 1000000000) : Calls Tryz.prog 94 #[.slice s.p s.n s.c] w fun e w' => e = .returned (.int .i64 ((s.n / 2 + 1 : Nat) : Int)) ∧ w' = w := by
  refine ret (R := fun v w' => v = .int .i64 ((s.n / 2 + 1 : Nat) : Int) ∧ w' = w) (c94 s.p s.n s.c w ?_) (fun v w' ⟨hr, h⟩ => ⟨by rw [hr], h⟩)
  refine ⟨by decide, ?_, rfl⟩
  have h1 : ((s.n : Nat) : Int).tdiv 2 = ((s.n / 2 : Nat) : Int) := by rw [Int.tdiv_eq_ediv_of_nonneg (by omega)]; omega
  have h2 : IntKind.i64.wrap ((s.n / 2 : Nat) : Int) = ((s.n / 2 : Nat) : Int) := wi (by omega) (by omega)
  rw [h1, h2, wi (by omega) (by omega)]; rfl

theorem of51 (h : LogR w b g s ps) (hok : LogOk g) (hcf : ConfOk g) {m : SV} {ms : List Nat} (hm : Ints w m ms) (hmn : m.n ≤ 1000000000) (last : Nat) :
    Calls Tryz.prog 51 #[.pointer (some ⟨b, 0, none⟩), .slice m.p m.n m.c, .int .u64 (last : Int)] w fun e w' => ∃ r : SV, e = .returned (.tuple #[.slice r.p r.n r.c, .int .u64 ((confOf g ms last).2 : Int)]) ∧ Ints w' r (confOf g ms last).1 ∧ Ex w w' ∧ ∀ x ∈ r.own, w.heap.size ≤ x := by
  refine ret (R := fun v w' => ∃ r : SV, v = .tuple #[.slice r.p r.n r.c, .int .u64 ((confOf g ms last).2 : Int)] ∧ Ints w' r (confOf g ms last).1 ∧ Ex w w' ∧ ∀ x ∈ r.own, w.heap.size ≤ x) (c51 _ m.p m.n m.c last w ?_) (fun v w' ⟨r, hr, h⟩ => ⟨r, by rw [hr], h⟩)
  have hlast := hok.last
  have hlen := hok.len
  have hbnd := hok.bnd
  refine (base26 h).mono ?_
  rintro _ w1 ⟨rfl, e1⟩
  refine ⟨_, _, rfl, (last33 (h.ex e1) hlen).mono ?_⟩
  rintro _ w2 ⟨rfl, e2⟩
  have e12 := e1.trans e2
  refine ⟨_, _, rfl, fun vs w' => ∃ i : Nat, vs = [.int .u64 (i : Int)] ∧ i ≤ g.last.1 ∧ confOf g ms last = confOf g ms i ∧ Ex w w', fun vs _ => match vs with | [.int _ i] => i.toNat | _ => 0, ?_, ?_⟩
  · by_cases hlt : g.last.1 < last
    · refine ⟨g.last.1, ?_, Nat.le_refl _, confOf_top hok (by omega), e12⟩
      rw [if_pos (by omega)]
    · refine ⟨last, ?_, by omega, rfl, e12⟩
      rw [if_neg (by omega)]
  rintro i11 w3 ⟨i, hv, hi, hc, e3⟩
  simp only [List.cons.injEq, Value.int.injEq, and_true, true_and] at hv
  subst hv
  refine vif_mk (fun h4 => ?_) fun h4 => ?_
  · have hbi : g.base < i := by simp at h4; omega
    obtain ⟨p, hp, hg⟩ := h.entry hok hbi hi
    have hat := confOf_at (ms := ms) hok hbi hg
    have hpm : p.1 ∈ g.l := List.mem_of_getElem? hg
    have h3 := h.ex e3
    refine (at79 h3 hok hbi hi hg (by have := hok.data _ hpm; omega)).mono ?_
    rintro _ w4 ⟨r, rfl, e4, hr⟩
    refine ⟨(ec (p.1, r)).toArray, rfl, 0, rfl, ?_⟩
    refine local_ent rfl (by simp [ec, isOne]) fun c w5 e5 hc5 hb5 => ?_
    have e35 := (e3.trans e4).trans e5
    have hnext : confOf g ms i = confOf g ms (i - 1) → ∀ w6, Ex w5 w6 → (∃ j : Nat, [Value.int .u64 (IntKind.u64.wrap ((i : Int) - 1))] = [.int .u64 (j : Int)] ∧ j ≤ g.last.1 ∧ confOf g ms last = confOf g ms j ∧ Ex w w6) ∧
        (IntKind.u64.wrap ((i : Int) - 1)).toNat < ((i : Int)).toNat := by
      intro hcc w6 e6
      rw [show (i : Int) - 1 = ((i - 1 : Nat) : Int) by omega, wu (by omega) (by omega)]
      exact ⟨⟨i - 1, rfl, by omega, hc.trans hcc, e35.trans e6⟩, by omega⟩
    refine ⟨p.1.conf, by rw [add_mk, hb5.cell]; rfl, vif_mk (fun h6 => ?_) fun h6 => ?_⟩
    · have hcf' : p.1.conf = false := by simpa using h6
      rw [hcf'] at hat
      exact hnext hat w5 (Ex.refl _)
    · have hcf' : p.1.conf = true := by simpa using h6
      obtain ⟨ms', hgm, hdata⟩ := hcf _ hpm hcf'
      have hr5 : Bytes w5 r (encM ms') := by rw [← hdata]; exact Sl.ex hr e5
      refine ⟨r.p, r.n, r.c, by rw [add_mk, hb5.cell]; rfl, (membersOf80 hr5 hgm).mono ?_⟩
      rintro _ w6 ⟨t, rfl, e6, ht, ho⟩
      refine ⟨_, _, _, _, rfl, vif_t rfl ?_⟩
      rw [hc, hat, hcf', if_pos rfl, hdata, dec_enc hgm]
      exact ⟨t, rfl, ht, e35.trans e6, fun x hx => Nat.le_trans e35.size (ho x hx)⟩
  · have hbi : i ≤ g.base := by simp at h4; omega
    rw [hc, confOf_low hbi]
    refine (clone47 (Sl.ex hm e3) (one_iv _) hmn).mono ?_
    rintro _ w4 ⟨r, rfl, e4, hr, ho⟩
    exact ⟨_, _, _, rfl, r, rfl, hr, e3.trans e4, fun x hx => Nat.le_trans e3.size (ho x hx)⟩

/-! ### Sorted -/
theorem ins_perm (x : Nat) : ∀ l : List Nat, List.Perm (Node.ins x l) (x :: l)
  | [] => List.Perm.refl _
  | y :: ys => by
    unfold Node.ins
    split
    · exact List.Perm.refl _
    · exact ((ins_perm x ys).cons y).trans (List.Perm.swap x y ys)
theorem sortN_perm : ∀ l : List Nat, List.Perm (Node.sortN l) l
  | [] => List.Perm.refl _
  | x :: l => (ins_perm x _).trans ((sortN_perm l).cons x)
theorem ins_sorted (x : Nat) : ∀ l : List Nat, l.Pairwise (· ≤ ·) → (Node.ins x l).Pairwise (· ≤ ·)
  | [], _ => by simp [Node.ins]
  | y :: ys, h => by
    unfold Node.ins
    split
    · rename_i hxy
      refine List.pairwise_cons.2 ⟨fun z hz => ?_, h⟩
      rcases List.mem_cons.1 hz with rfl | hz
      · exact hxy
      · exact Nat.le_trans hxy ((List.pairwise_cons.1 h).1 z hz)
    · rename_i hxy
      refine List.pairwise_cons.2 ⟨fun z hz => ?_, ins_sorted x ys (List.pairwise_cons.1 h).2⟩
      rcases List.mem_cons.1 ((ins_perm x ys).mem_iff.1 hz) with rfl | hz
      · omega
      · exact (List.pairwise_cons.1 h).1 z hz
theorem sortN_sorted : ∀ l : List Nat, (Node.sortN l).Pairwise (· ≤ ·)
  | [] => List.Pairwise.nil
  | x :: l => ins_sorted x _ (sortN_sorted l)
theorem sorted_unique : ∀ {a b : List Nat}, List.Perm a b → a.Pairwise (· ≤ ·) → b.Pairwise (· ≤ ·) → a = b
  | [], b, hp, _, _ => (List.nil_perm.1 hp).symm
  | x :: a, [], hp, _, _ => absurd hp.length_eq (by simp)
  | x :: a, y :: b, hp, ha, hb => by
    have hx : x ∈ y :: b := hp.mem_iff.1 (by simp)
    have hy : y ∈ x :: a := hp.mem_iff.2 (by simp)
    have h1 : y ≤ x := by
      rcases List.mem_cons.1 hx with h | h
      · omega
      · exact (List.pairwise_cons.1 hb).1 x h
    have h2 : x ≤ y := by
      rcases List.mem_cons.1 hy with h | h
      · omega
      · exact (List.pairwise_cons.1 ha).1 y h
    have : x = y := by omega
    subst this
    rw [sorted_unique ((List.perm_cons x).1 hp) (List.pairwise_cons.1 ha).2 (List.pairwise_cons.1 hb).2]

theorem agreed98 {w : World} {s : SV} {l : List Nat} (hs : Ints w s l) (hn : s.n ≤ 1000000000) {f : Value} {q : Nat → Nat}
    (hf : ∀ x ∈ l, ∀ w1, Ex w w1 → vcallv Tryz.prog f [iv x] w1 fun e w' => e = .returned (uv (q x)) ∧ Ex w1 w') :
    Calls Tryz.prog 98 #[.slice s.p s.n s.c, f] w fun e w' => e = .returned (.int .u64 (Node.agreed l q : Int)) ∧ Ex w w' := by
  refine ret (R := fun v w' => v = .int .u64 (Node.agreed l q : Int) ∧ Ex w w') (c98 s.p s.n s.c f w ?_) (fun v w' ⟨hr, h⟩ => ⟨by rw [hr], h⟩)
  have hsn := hs.n
  refine (right46 hs hn).mono ?_
  rintro _ w1 ⟨rfl, e1⟩
  refine ⟨_, rfl, vif_mk (fun h => ?_) fun h => ?_⟩
  · have hg : ¬ Md.goodM l := fun hg => by simp at h; exact h hg
    exact ⟨by simp [Node.agreed, hg], e1⟩
  have hg : goodM l := by simpa using h
  have hg' : Md.goodM l := hg
  have hl7 := goodM_len hg
  have hpos := List.length_pos_iff.2 hg.1
  refine ⟨fun vs w' => ∃ (j : Nat) (o : SV), vs = [.slice o.p o.n o.c, iv j] ∧ j ≤ l.length ∧ Ex w w' ∧ Ex w1 w' ∧ U64s w' o ((l.take j).map q) ∧ ∀ x ∈ o.own, w1.heap.size ≤ x,
    fun vs _ => match vs with | [_, .int _ j] => ((l.length : Int) - j).toNat | _ => 0, ⟨0, .nil, rfl, by omega, e1, Ex.refl _, by simpa [U64s] using Sl.zero _ _ _, by simp [SV.own, SV.nil]⟩, ?_⟩
  rintro s6 s6n s6c i7 w2 ⟨j, o, hv, hj, e2, e12, ho, hown⟩
  simp only [iv, List.cons.injEq, Value.int.injEq, Value.slice.injEq, and_true, true_and] at hv
  obtain ⟨⟨rfl, rfl, rfl⟩, rfl⟩ := hv
  have hon := ho.n
  simp only [List.length_map, List.length_take] at hon
  refine vif_mk (fun h4 => ?_) fun h4 => ?_
  · have hjl : j < l.length := by simp at h4; omega
    refine Sl.load (Sl.ex hs e2) (i := j) (v := iv l[j]) (by simp [hjl]) fun a ha => ⟨_, ha, vcallv_mono ?_ (hf _ (List.getElem_mem hjl) w2 e2)⟩
    rintro _ w3 ⟨rfl, e3⟩
    refine ⟨_, rfl, rfl, vnew_mk fun w4 e4 s4 b4 => ?_⟩
    have e24 := e3.trans e4
    refine app26 (s := o) (q := ⟨some ⟨w3.heap.size, 0, none⟩, 1, 1⟩) (new := [uv (q l[j])]) (Sl.ex ho e24) (Sl.of_blk (n := 1) b4 rfl) (by simp [uv, isOne]) (by simp; omega) fun r w5 hr hrn g => ?_
    rw [wi (by omega) (by omega)]
    have hg1 := g.ex (e12.trans e24) hown
    have hg2 := g.ex (e2.trans e24) fun x hx => Nat.le_trans e1.size (hown x hx)
    refine ⟨⟨j + 1, r, by simp [iv], hjl, hg2.1, hg1.1, ?_, hg1.2⟩, by simp only; omega⟩
    show Sl w5 26 1 r (((l.take (j + 1)).map q).map uv)
    rw [List.take_succ_eq_append_getElem hjl, List.map_append, List.map_append]
    exact hr
  · have hjl : j = l.length := by simp at h4; omega
    subst hjl
    rw [List.take_length] at ho
    refine (sort109 ho (by omega)).mono ?_
    rintro _ w3 ⟨rfl, m, hm, hp, hsort, hfr⟩
    have e3 : Ex w w3 := ⟨fun k x hk => by
      have hlt : k < w.heap.size := (Array.getElem?_eq_some_iff.1 hk).1
      have := e2.ext k x hk
      rw [hfr.rest k (by have := e2.size; omega) (fun hh => by have := hown k hh; have := e1.size; omega)]; exact this, Nat.le_trans e2.size hfr.size, hfr.os.trans e2.os⟩
    refine ⟨rfl, (maj94 (s := s) hn).mono ?_⟩
    rintro _ w4 ⟨rfl, hw⟩
    subst hw
    refine ⟨_, rfl, ?_⟩
    have hml : m.length = l.length := by rw [hp.length_eq]; simp
    have hmn := hm.n
    rw [show ((o.n : Nat) : Int) - ((s.n / 2 + 1 : Nat) : Int) = ((l.length - (l.length / 2 + 1) : Nat) : Int) by omega, wi (by omega) (by omega)]
    have hlt : l.length - (l.length / 2 + 1) < m.length := by omega
    refine Sl.load hm (i := l.length - (l.length / 2 + 1)) (v := uv m[l.length - (l.length / 2 + 1)]) (by simp [hlt]) fun a ha => ⟨_, ha, ?_, e3⟩
    have hms : m = Node.sortN (l.map q) := sorted_unique (hp.trans (sortN_perm _).symm) hsort (sortN_sorted _)
    have : Node.agreed l q = m[l.length - (l.length / 2 + 1)] := by
      simp only [Node.agreed, hg', if_true, ← hms]
      rw [List.getElem?_eq_getElem hlt]; rfl
    rw [this]

theorem step50 {w : World} {s t : SV} {l m : List Nat} (hs : Ints w s l) (ht : Ints w t m) (hn : s.n ≤ 1000000000) (hn' : t.n ≤ 1000000000) :
    Calls Tryz.prog 50 #[.slice s.p s.n s.c, .slice t.p t.n t.c] w fun e w' => e = .returned (.bool (Node.confStep l m)) ∧ Ex w w' := by
  refine ret (R := fun v w' => v = .bool (Node.confStep l m) ∧ Ex w w') (c50 s.p s.n s.c t.p t.n t.c w ?_) (fun v w' ⟨hr, h⟩ => ⟨by rw [hr], h⟩)
  refine ⟨fun vs w' => Ex w w' ∧ goodM l ∧ goodM m, (right46 hs hn).mono ?_, ?_⟩
  · rintro _ w1 ⟨rfl, e1⟩
    refine ⟨_, rfl, vif_mk (fun h => ?_) fun h => ?_⟩
    · have hg : ¬ Md.goodM l := fun hg => by simp at h; exact h hg
      exact ⟨by simp [Node.confStep, hg], e1⟩
    refine (right46 (Sl.ex ht e1) hn').mono ?_
    rintro _ w2 ⟨rfl, e2⟩
    refine ⟨_, rfl, vif_mk (fun h' => ?_) fun h' => ?_⟩
    · have hg : ¬ Md.goodM m := fun hg => by simp at h'; exact h' hg
      exact ⟨by simp [Node.confStep, hg], e1.trans e2⟩
    · exact ⟨e1.trans e2, by simpa using h, by simpa using h'⟩
  · rintro w8 ⟨e8, hl, hm⟩
    have hl' : Md.goodM l := hl
    have hm' : Md.goodM m := hm
    refine ⟨fun vs w' => ∃ u j : Nat, vs = [iv u, iv j] ∧ j ≤ 8 ∧ u ≤ j ∧ u = ((List.range j).filter fun x => decide (x ∈ l) != decide (x ∈ m)).length ∧ Ex w w', fun vs _ => match vs with | [_, .int _ j] => (8 - j).toNat | _ => 0, ⟨0, 0, rfl, by omega, by omega, rfl, e8⟩, ?_⟩
    rintro i11 i12 w9 ⟨u, j, hv, hj, huj, hu, e9⟩
    simp only [iv, List.cons.injEq, Value.int.injEq, and_true, true_and] at hv
    obtain ⟨rfl, rfl⟩ := hv
    refine vif_mk (fun h4 => ?_) fun h4 => ?_
    · have hj8 : j < 8 := by simp at h4; omega
      refine (has30 (Sl.ex hs e9) hn j).mono ?_
      rintro _ _ ⟨rfl, rfl⟩
      refine ⟨_, rfl, (has30 (Sl.ex ht e9) hn' j).mono ?_⟩
      rintro _ w10 ⟨rfl, hw⟩
      subst hw
      have hr : ((List.range (j + 1)).filter fun x => decide (x ∈ l) != decide (x ∈ m)).length = u + if (decide (j ∈ l) != decide (j ∈ m)) = true then 1 else 0 := by
        rw [List.range_succ, List.filter_append, List.length_append, ← hu]
        by_cases hb : (decide (j ∈ l) != decide (j ∈ m)) = true <;> simp [hb]
      refine ⟨_, rfl, vif_mk (fun h5 => ?_) fun h5 => ?_⟩
      · have h5' : (decide (j ∈ l) != decide (j ∈ m)) = true := by simpa [bne] using h5
        rw [h5', if_pos rfl] at hr
        rw [wi (by omega) (by omega), wi (by omega) (by omega)]
        exact ⟨⟨u + 1, j + 1, by simp [iv], by omega, by omega, hr.symm, e9⟩, by simp only; omega⟩
      · have h5' : (decide (j ∈ l) != decide (j ∈ m)) = false := by simpa [bne] using h5
        rw [h5', if_neg (by simp)] at hr
        rw [wi (by omega) (by omega)]
        exact ⟨⟨u, j + 1, by simp [iv], by omega, by omega, by omega, e9⟩, by simp only; omega⟩
    · have hj8 : j = 8 := by simp at h4; omega
      subst hj8
      refine ⟨?_, e9⟩
      simp only [Node.confStep, hl', hm', decide_true, Bool.true_and, ← hu]
      congr 1
      by_cases h1 : u = 1
      · subst h1; rfl
      · have h2 : ((u : Int) == 1) = false := by simp; omega
        have h3 : (u == 1) = false := by simp [h1]
        rw [h2, h3]

end
end Rx
end Go.Proofs.YtkoipeddfbeliaaGreat

/-
  Ballots in memory.
-/
namespace Go.Proofs.YtkoipeddfbeliaaGreat
namespace Rx
open Go.RowKit Md
set_option maxRecDepth 100000

def vl (b : Ballot) : List (Nat × Value) := b.votes.map fun p => (p.1, .bool p.2)

structure BallotR (w : World) (b mb : Nat) (bal : Ballot) (s : SV) : Prop where
  blk : Blk w b #[.slice s.p s.n s.c, .map (some mb)] 130
  ms : Ints w s bal.members
  votes : MapR w mb (vl bal)
  len : bal.members.length ≤ 1000000

theorem BallotR.step {w w' : World} {b mb : Nat} {bal : Ballot} {s : SV} (h : BallotR w b mb bal s) (k : Keeps w w') {M : List Nat} (f : Fr M w w') (h1 : b ∉ M) (h2 : mb ∉ M) : BallotR w' b mb bal s :=
  ⟨f.blk h.blk h1, Sl.keeps h.ms k (.inl rfl), h.votes.fr f h2, h.len⟩
theorem BallotR.ex {w w' : World} {b mb : Nat} {bal : Ballot} {s : SV} (h : BallotR w b mb bal s) (e : Ex w w') : BallotR w' b mb bal s := h.step e.keeps (e.fr []) (by simp) (by simp)

/-- one object is replaced -/
theorem vput_mk {w : World} {b : Nat} {o : Obj} {K : World → Prop} (hb : b < w.heap.size)
    (hK : ∀ w', w'.heap[b]? = some o → Fr [b] w w' → (∀ k, k ≠ b → w'.heap[k]? = w.heap[k]?) → w'.heap.size = w.heap.size → K w') : vput w b o K := by
  refine hK _ ?_ ⟨?_, rfl, fun k hk hkb => ?_⟩ (fun k hk => ?_) ?_
  · show (w.heap.setIfInBounds b o)[b]? = _; simp [hb]
  · show w.heap.size ≤ (w.heap.setIfInBounds b o).size; simp
  · show (w.heap.setIfInBounds b o)[k]? = _
    rw [Array.getElem?_setIfInBounds_ne (fun hh => hkb (by simp [hh]))]
  · show (w.heap.setIfInBounds b o)[k]? = _
    rw [Array.getElem?_setIfInBounds_ne (fun hh => hk hh.symm)]
  · show (w.heap.setIfInBounds b o).size = _; simp

/-- a map is no row of cells -/
theorem map_keeps {w w' : World} {b : Nat} {es : Array MapEntry} {c : Nat} (h : w.heap[b]? = some (.map es c)) (hr : ∀ k, k ≠ b → w'.heap[k]? = w.heap[k]?) : Keeps w w' := by
  have hne : ∀ k cs ty, Blk w k cs ty → k ≠ b := fun k cs ty hk hh => by
    subst hh
    have := hk.symm.trans h
    cases this
  exact ⟨fun k cs ty hk _ => (hr k (hne k cs ty hk)).trans hk, fun k cs hk => ⟨cs, (hr k (hne k cs _ hk)).trans hk, rfl, fun _ _ _ _ _ _ => rfl⟩⟩

section
variable {w : World} {b mb : Nat} {bal : Ballot} {s : SV}

theorem new90 {w : World} {s : SV} {l : List Nat} (hs : Ints w s l) (hn : s.n ≤ 1000000) :
    Calls Tryz.prog 90 #[.slice s.p s.n s.c] w fun e w' => ∃ b mb r, e = .returned (.pointer (some ⟨b, 0, none⟩)) ∧ BallotR w' b mb ⟨l, []⟩ r ∧ Ex w w' ∧ w.heap.size ≤ b ∧ w.heap.size ≤ mb ∧ b ≠ mb := by
  refine ret (R := fun v w' => ∃ b mb r, v = .pointer (some ⟨b, 0, none⟩) ∧ BallotR w' b mb ⟨l, []⟩ r ∧ Ex w w' ∧ w.heap.size ≤ b ∧ w.heap.size ≤ mb ∧ b ≠ mb) (c90 s.p s.n s.c w ?_) (fun v w' ⟨b, mb, r, h1, h2⟩ => ⟨b, mb, r, by rw [h1], h2⟩)
  have hsn := hs.n
  refine (clone47 hs (one_iv _) (by omega)).mono ?_
  rintro _ w1 ⟨r, rfl, e1, hr, ho⟩
  refine ⟨_, _, _, rfl, vnew_mk fun w2 e2 s2 b2 => vnew_mk fun w3 e3 s3 b3 => ?_⟩
  refine ⟨_, _, r, rfl, ⟨b3, Sl.ex hr (e2.trans e3), ⟨#[], 0, e3.ext _ _ b2, by simp [vl], by simp, by simp⟩, by simp only; omega⟩, (e1.trans e2).trans e3, ?_, e1.size, ?_⟩
  · have := e1.size
    omega
  · show w2.heap.size ≠ w1.heap.size
    omega

theorem right92 (h : BallotR w b mb bal s) : Calls Tryz.prog 92 #[.pointer (some ⟨b, 0, none⟩)] w fun e w' => e = .returned (.bool (decide (goodM bal.members))) ∧ Ex w w' := by
  refine ret (R := fun v w' => v = .bool (decide (goodM bal.members)) ∧ Ex w w') (c92 _ w ?_) (fun v w' ⟨h1, h2⟩ => ⟨by rw [h1], h2⟩)
  have hn := h.ms.n
  have hl := h.len
  refine ⟨s.p, s.n, s.c, by rw [add_mk, h.blk.cell]; rfl, (right46 h.ms (by omega)).mono ?_⟩
  rintro _ w1 ⟨rfl, e1⟩
  exact ⟨_, rfl, rfl, e1⟩

theorem first_vl (bal : Ballot) (x : Nat) : (first (vl bal) x = none ↔ x ∉ bal.votes.map (·.1)) := by
  constructor
  · intro h hx
    obtain ⟨p, hp, rfl⟩ := List.mem_map.1 hx
    exact first_none h (p.1, .bool p.2) (List.mem_map.2 ⟨p, hp, rfl⟩) rfl
  · intro h
    cases hf : first (vl bal) x with
    | none => rfl
    | some q =>
      obtain ⟨i, v⟩ := q
      obtain ⟨h1, _⟩ := first_some hf
      have := List.mem_of_getElem? h1
      obtain ⟨p, hp, he⟩ := List.mem_map.1 this
      simp only [Prod.mk.injEq] at he
      exact absurd (List.mem_map.2 ⟨p, hp, he.1⟩) h

theorem vote67 (h : BallotR w b mb bal s) (hne : b ≠ mb) (x : Nat) (yes : Bool) :
    Calls Tryz.prog 67 #[.pointer (some ⟨b, 0, none⟩), .int .i64 (x : Int), .bool yes] w fun e w' => (∃ t : Bool, e = .returned (.bool t)) ∧ BallotR w' b mb (bal.vote x yes) s ∧ Step [b, mb] [b, mb] w w' := by
  refine ret (R := fun v w' => (∃ t : Bool, v = .bool t) ∧ BallotR w' b mb (bal.vote x yes) s ∧ Step [b, mb] [b, mb] w w') (c67 _ x yes w ?_) (fun v w' ⟨⟨t, h1⟩, h2⟩ => ⟨⟨t, by rw [h1]⟩, h2⟩)
  have hn := h.ms.n
  have hl := h.len
  refine (right92 h).mono ?_
  rintro _ w1 ⟨rfl, e1⟩
  have h1 := h.ex e1
  refine ⟨_, rfl, vif_mk (fun h2 => ?_) fun h2 => ?_⟩
  · have hg : ¬ Md.goodM bal.members := fun hg => by simp at h2; exact h2 hg
    have : bal.vote x yes = bal := by simp [Ballot.vote, hg]
    rw [this]; exact ⟨⟨_, rfl⟩, h1, e1.step _⟩
  have hg : Md.goodM bal.members := by simp at h2; exact h2
  refine ⟨s.p, s.n, s.c, by rw [add_mk, h1.blk.cell]; rfl, (has30 h1.ms (by omega) x).mono ?_⟩
  rintro _ w2 ⟨rfl, hw⟩
  subst hw
  refine ⟨_, rfl, vif_mk (fun h3 => ?_) fun h3 => ?_⟩
  · have hx : x ∉ bal.members := by simpa using h3
    have : bal.vote x yes = bal := by simp [Ballot.vote, hx]
    rw [this]; exact ⟨⟨_, rfl⟩, h1, e1.step _⟩
  have hx : x ∈ bal.members := by simpa using h3
  refine ⟨some mb, by rw [add_mk, h1.blk.cell]; rfl, h1.votes.find x fun es clock g1 g2 g3 g4 g5 => ⟨_, g5, ?_⟩⟩
  cases hf : first (vl bal) x with
  | some q =>
    obtain ⟨i, v⟩ := q
    obtain ⟨f1, _⟩ := first_some hf
    obtain ⟨p, hp, he⟩ := List.mem_map.1 (List.mem_of_getElem? f1)
    simp only [Prod.mk.injEq] at he
    have hin : x ∈ bal.votes.map (·.1) := List.mem_map.2 ⟨p, hp, he.1⟩
    have : bal.vote x yes = bal := by unfold Ballot.vote; rw [if_neg (fun hh => hh.2.2 hin)]
    rw [this]
    exact ⟨p.2, true, by simp [lookRes, ← he.2], vif_t rfl ⟨⟨_, rfl⟩, h1, e1.step _⟩⟩
  | none =>
    have hnin := (first_vl bal x).1 hf
    have : bal.vote x yes = { bal with votes := bal.votes ++ [(x, yes)] } := by unfold Ballot.vote; rw [if_pos ⟨hg, hx, hnin⟩]
    rw [this]
    refine ⟨false, false, by simp [lookRes], vif_f rfl ⟨some mb, by rw [add_mk, h1.blk.cell]; rfl, h1.votes.find x fun es clock g1 g2 g3 g4 g5 => ⟨_, g5, ?_⟩⟩⟩
    refine vput_mk h1.votes.lt fun w3 k1 k2 k3 k4 => ⟨⟨_, rfl⟩, ⟨k2.blk h1.blk (by simpa using hne), Sl.keeps h1.ms (map_keeps g1 k3) (.inl rfl), ?_, h.len⟩, ?_⟩
    · have hp := mapPut_r (x := x) (v := .bool yes) g2 g3 g4 k1
      have hv : putL (vl bal) x (.bool yes) = vl { bal with votes := bal.votes ++ [(x, yes)] } := by unfold putL; rw [hf]; simp [vl]
      rw [hv] at hp; exact hp
    · exact (e1.step _).trans ⟨k2.mono (by simp), map_keeps g1 k3, fun x hx => .inl hx⟩

/-! ### Counting -/
def cnt (L : List MapEntry) (S : Array Nat) (p : MapEntry → Bool) : Nat := (L.filter fun x => p x && S.contains x.born).length

theorem contains_push (S : Array Nat) (a x : Nat) : (S.push a).contains x = (S.contains x || x == a) := by simp [Bool.beq_eq_decide_eq]

theorem cnt_other : ∀ {L : List MapEntry} {a : Nat} {S : Array Nat} {p : MapEntry → Bool}, a ∉ L.map (·.born) → cnt L (S.push a) p = cnt L S p
  | [], _, _, _, _ => rfl
  | y :: L, a, S, p, h => by
    simp only [List.map_cons, List.mem_cons, not_or] at h
    have ih := cnt_other (L := L) (S := S) (p := p) h.2
    have hy : (S.push a).contains y.born = S.contains y.born := by
      rw [contains_push]
      have : (y.born == a) = false := by simp; exact fun hh => h.1 hh.symm
      rw [this]; simp
    simp only [cnt, List.filter_cons, hy] at ih ⊢
    split
    · simp only [List.length_cons, ih]
    · exact ih

theorem cnt_add : ∀ {L : List MapEntry} {e : MapEntry} {S : Array Nat} {p : MapEntry → Bool}, (L.map (·.born)).Nodup → e ∈ L → S.contains e.born = false →
    cnt L (S.push e.born) p = cnt L S p + if p e then 1 else 0
  | [], _, _, _, _, h, _ => by simp at h
  | y :: L, e, S, p, nd, he, hs => by
    simp only [List.map_cons, List.nodup_cons] at nd
    rcases List.mem_cons.1 he with rfl | he
    · have h1 := cnt_other (S := S) (p := p) nd.1
      have h2 : (S.push e.born).contains e.born = true := by rw [contains_push]; simp
      simp only [cnt, List.filter_cons, h2, hs, Bool.and_true, Bool.and_false] at h1 ⊢
      cases hp : p e with
      | false => simpa only [Bool.false_eq_true, if_false, Nat.add_zero] using h1
      | true => simp only [Bool.false_eq_true, if_false, if_true, List.length_cons]; omega
    · have ih := cnt_add (p := p) nd.2 he hs
      have hne : y.born ≠ e.born := fun hh => nd.1 (hh ▸ List.mem_map.2 ⟨e, he, rfl⟩)
      have hy : (S.push e.born).contains y.born = S.contains y.born := by
        rw [contains_push]
        have : (y.born == e.born) = false := by simpa using hne
        rw [this]; simp
      simp only [cnt, List.filter_cons, hy] at ih ⊢
      split
      · simp only [List.length_cons, ih]; omega
      · exact ih

theorem cnt_all {L : List MapEntry} {S : Array Nat} {p : MapEntry → Bool} (h : ∀ x ∈ L, S.contains x.born = true) : cnt L S p = (L.filter p).length := by
  unfold cnt
  congr 1
  apply List.filter_congr
  intro x hx
  rw [h x hx]; simp

theorem cnt_nil (L : List MapEntry) (p : MapEntry → Bool) : cnt L #[] p = 0 := by
  unfold cnt
  rw [List.length_eq_zero_iff, List.filter_eq_nil_iff]
  intro x _
  simp
theorem cnt_le (L : List MapEntry) (S : Array Nat) (p : MapEntry → Bool) : cnt L S p ≤ (L.filter p).length := by
  unfold cnt
  rw [List.filter_congr (fun x _ => Bool.and_comm (p x) (S.contains x.born)), ← List.filter_filter]
  exact List.length_filter_le _ _

def isYes (e : MapEntry) : Bool := match e.val with | .bool b => b | _ => false
def isNo (e : MapEntry) : Bool := match e.val with | .bool b => !b | _ => false

theorem yes_count {bal : Ballot} {L : List MapEntry} (h : L.map (fun e => (e.key, e.val)) = (vl bal).map (fun p => (iv p.1, p.2))) : (L.filter isYes).length = bal.yes ∧ (L.filter isNo).length = bal.no ∧ (∀ e ∈ L, ∃ b, e.val = .bool b) ∧ L.length = bal.votes.length := by
  obtain ⟨ms, vs⟩ := bal
  simp only [vl, Ballot.yes, Ballot.no] at h ⊢
  induction vs generalizing L with
  | nil => have : L = [] := by simpa using h
           subst this; simp
  | cons v vs ih =>
    cases L with
    | nil => simp at h
    | cons e L =>
      simp only [List.map_cons, List.cons.injEq, Prod.mk.injEq] at h
      obtain ⟨⟨_, h2⟩, h3⟩ := h
      obtain ⟨i1, i2, i3, i4⟩ := ih h3
      refine ⟨?_, ?_, fun x hx => ?_, by simp [i4]⟩
      · simp only [List.filter_cons, isYes, h2]
        cases v.2 <;> simp [i1]
      · simp only [List.filter_cons, isNo, h2]
        cases v.2 <;> simp [i2]
      · rcases List.mem_cons.1 hx with rfl | hx
        · exact ⟨_, h2⟩
        · exact i3 x hx

theorem back_push (S : Array Nat) (a : Nat) : (S.push a).back? = some a := by simp

theorem count93 (h : BallotR w b mb bal s) (hv : bal.votes.length ≤ 1000000) :
    Calls Tryz.prog 93 #[.pointer (some ⟨b, 0, none⟩)] w fun e w' => e = .returned (.tuple #[.int .i64 (bal.yes : Int), .int .i64 (bal.no : Int)]) ∧ Ex w w' := by
  refine ret (R := fun v w' => v = .tuple #[.int .i64 (bal.yes : Int), .int .i64 (bal.no : Int)] ∧ Ex w w') (c93 _ w ?_) (fun v w' ⟨h1, h2⟩ => ⟨by rw [h1], h2⟩)
  refine ⟨some mb, by rw [add_mk, h.blk.cell]; rfl, ?_⟩
  obtain ⟨es, clock, g1, g2, g3, g4⟩ := h.votes
  refine ⟨mb, es, clock, rfl, g1, vnew_mk fun w1 e1 s1 b1 => ?_⟩
  obtain ⟨c1, c2, c3, c4⟩ := yes_count g2
  have hmlt : mb < w.heap.size := h.votes.lt
  refine ⟨fun vs w' => ∃ (S : Array Nat) (u n : Nat), vs = [iv u, iv n] ∧ Ex w w' ∧ w'.heap[w.heap.size]? = some (.mapIter (some mb) clock S clock) ∧ u = cnt es.toList S isYes ∧ n = cnt es.toList S isNo,
    fun vs _ => match vs with | [.int _ u, .int _ n] => (bal.votes.length - u - n).toNat | _ => 0, ⟨#[], 0, 0, rfl, e1, b1, (cnt_nil _ _).symm, (cnt_nil _ _).symm⟩, ?_⟩
  rintro i9 i10 w2 ⟨S, u, n, hv2, e2, hb2, hu, hn⟩
  simp only [iv, List.cons.injEq, Value.int.injEq, and_true, true_and] at hv2
  obtain ⟨rfl, rfl⟩ := hv2
  have hm2 : w2.heap[mb]? = some (.map es clock) := e2.ext _ _ g1
  refine ⟨w.heap.size, none, mb, clock, S, clock, es, clock, rfl, hb2, hm2, ?_, ?_⟩
  · rw [Bool.and_eq_false_iff]
    by_cases h0 : es.isEmpty
    · left; simp [h0]
    · right
      rw [Bool.eq_false_iff]
      intro hall
      have hne : es.toList ≠ [] := by intro hh; apply h0; simp_all
      obtain ⟨e, he⟩ := List.exists_mem_of_ne_nil _ hne
      have := g4 e he
      have h5 := (Array.all_eq_true'.1 hall) e (by simpa using he)
      simp at h5
      omega
  · intro c hc w3 hw3
    have e3 : Ex w2 w3 := hw3.elim (fun hh => hh ▸ Ex.refl _) (fun hh => hh ▸ Ex.drew _)
    have hheap : w3.heap = w2.heap := hw3.elim (fun hh => hh ▸ rfl) (fun hh => hh ▸ rfl)
    have hold : (es.filter fun e => !S.contains e.born).filter (fun e => decide (e.born < clock)) = es.filter fun e => !S.contains e.born := by
      rw [Array.filter_eq_self]
      intro x hx
      have := g4 x (by simpa using (Array.mem_filter.1 hx).1)
      simpa using this
    have hnew : (es.filter fun e => !S.contains e.born).filter (fun e => decide (e.born ≥ clock)) = #[] := by
      rw [Array.filter_eq_empty_iff]
      intro x hx
      have := g4 x (by simpa using (Array.mem_filter.1 hx).1)
      simp; omega
    have hsum : bal.yes + bal.no = bal.votes.length := by
      simp only [Ballot.yes, Ballot.no]
      have : ∀ l : List (Nat × Bool), (l.filter (·.2)).length + (l.filter (!·.2)).length = l.length := by
        intro l
        induction l with
        | nil => rfl
        | cons y l ih =>
          simp only [List.filter_cons]
          cases y.2 <;> simp <;> omega
      exact this _
    have hrlt : w.heap.size < w3.heap.size := by
      rw [hheap]; exact (Array.getElem?_eq_some_iff.1 hb2).1
    unfold candidates at hc
    simp only [hold, hnew] at hc
    cases c with
    | none =>
      have hem : (es.filter fun e => !S.contains e.born).isEmpty = true := by
        cases hh : (es.filter fun e => !S.contains e.born).isEmpty with
        | true => rfl
        | false => rw [hh] at hc; simp at hc
      have hall : ∀ x ∈ es.toList, S.contains x.born = true := by
        intro x hx
        have h0 : (es.filter fun e => !S.contains e.born) = #[] := by simpa using hem
        rw [Array.filter_eq_empty_iff] at h0
        have := h0 x (by simpa using hx)
        simpa using this
      refine ⟨?_, e2.trans e3⟩
      rw [hu, hn, cnt_all hall, cnt_all hall, c1, c2]
    | some e =>
      have hin : e ∈ es.filter fun e => !S.contains e.born := by
        rw [Array.toList_append, List.mem_append] at hc
        rcases hc with hc | hc
        · split at hc <;> simp at hc
        · simpa using hc
      obtain ⟨hem, hes⟩ := Array.mem_filter.1 hin
      have hes' : S.contains e.born = false := by simpa using hes
      have hel : e ∈ es.toList := by simpa using hem
      obtain ⟨k1, k2, k3, k4⟩ : let w' := w3.putObj w.heap.size (.mapIter (some mb) clock (S.push e.born) clock); w'.heap[w.heap.size]? = some (.mapIter (some mb) clock (S.push e.born) clock) ∧ Fr [w.heap.size] w3 w' ∧ (∀ k, k ≠ w.heap.size → w'.heap[k]? = w3.heap[k]?) ∧ w'.heap.size = w3.heap.size :=
        vput_mk (K := fun w' => w'.heap[w.heap.size]? = some (.mapIter (some mb) clock (S.push e.born) clock) ∧ Fr [w.heap.size] w3 w' ∧ (∀ k, k ≠ w.heap.size → w'.heap[k]? = w3.heap[k]?) ∧ w'.heap.size = w3.heap.size) hrlt fun w' a b c d => ⟨a, b, c, d⟩
      simp only
      generalize w3.putObj w.heap.size (.mapIter (some mb) clock (S.push e.born) clock) = w4 at k1 k2 k3 k4 ⊢
      have hm4 : w4.heap[mb]? = some (.map es clock) := by rw [k3 mb (by omega), hheap]; exact hm2
      have e4 : Ex w w4 := ⟨fun k x hk => by
        have hlt : k < w.heap.size := (Array.getElem?_eq_some_iff.1 hk).1
        rw [k3 k (by omega)]; exact (e2.trans e3).ext k x hk, by have := (e2.trans e3).size; omega, k2.os.trans (e2.trans e3).os⟩
      have hfind : es.find? (fun x => x.born == e.born) = some e := by
        cases hf : es.find? (fun x => x.born == e.born) with
        | none =>
          have := Array.find?_eq_none.1 hf e hem
          simp at this
        | some e' =>
          have h1 := Array.find?_some hf
          have h2 := Array.mem_of_find?_eq_some hf
          simp only [beq_iff_eq] at h1
          have h2' : e' ∈ es.toList := by simpa using h2
          congr 1
          obtain ⟨i, hi, rfl⟩ := List.mem_iff_getElem.1 h2'
          obtain ⟨j, hj, rfl⟩ := List.mem_iff_getElem.1 hel
          have := (List.getElem_inj (i := i) (j := j) (h₀ := by simpa using hi) (h₁ := by simpa using hj) g3).1 (by simpa using h1)
          subst this; rfl
      refine vif_t rfl ⟨w.heap.size, none, mb, clock, S.push e.born, clock, es, clock, rfl, k1, hm4, e.born, e, back_push _ _, rfl, hfind, ?_⟩
      obtain ⟨t, ht⟩ := c3 e hel
      have a1 := cnt_add (p := isYes) g3 hel hes'
      have a2 := cnt_add (p := isNo) g3 hel hes'
      have l1 := cnt_le es.toList (S.push e.born) isYes
      have l2 := cnt_le es.toList (S.push e.born) isNo
      rw [ht]
      show vif t _ _
      cases t with
      | true =>
        have y1 : isYes e = true := by simp [isYes, ht]
        have y2 : isNo e = false := by simp [isNo, ht]
        rw [y1, if_pos rfl] at a1
        rw [y2, if_neg (by simp)] at a2
        rw [wi (by omega) (by omega)]
        exact vif_t rfl ⟨⟨S.push e.born, u + 1, n, by simp [iv], e4, k1, by omega, by omega⟩, by omega⟩
      | false =>
        have y1 : isYes e = false := by simp [isYes, ht]
        have y2 : isNo e = true := by simp [isNo, ht]
        rw [y1, if_neg (by simp)] at a1
        rw [y2, if_pos rfl] at a2
        rw [wi (n := (n : Int) + 1) (by omega) (by omega)]
        exact vif_f rfl ⟨⟨S.push e.born, u, n + 1, by simp [iv], e4, k1, by omega, by omega⟩, by omega⟩

theorem state68 (h : BallotR w b mb bal s) (hv : bal.votes.length ≤ bal.members.length) :
    Calls Tryz.prog 68 #[.pointer (some ⟨b, 0, none⟩)] w fun e w' => e = .returned (.int .i64 (bal.state : Int)) ∧ Ex w w' := by
  refine ret (R := fun v w' => v = .int .i64 (bal.state : Int) ∧ Ex w w') (c68 _ w ?_) (fun v w' ⟨h1, h2⟩ => ⟨by rw [h1], h2⟩)
  have hl := h.len
  have hn := h.ms.n
  refine (right92 h).mono ?_
  rintro _ w1 ⟨rfl, e1⟩
  have h1 := h.ex e1
  refine ⟨_, rfl, vif_mk (fun h2 => ?_) fun h2 => ?_⟩
  · have hg : ¬ Md.goodM bal.members := fun hg => by simp at h2; exact h2 hg
    exact ⟨by simp [Ballot.state, hg], e1⟩
  have hg : Md.goodM bal.members := by simp at h2; exact h2
  refine (count93 h1 (by omega)).mono ?_
  rintro _ w2 ⟨rfl, e2⟩
  have h2' := h1.ex e2
  have hno : bal.no ≤ bal.votes.length := List.length_filter_le _ _
  refine ⟨_, _, rfl, s.p, s.n, s.c, by rw [add_mk, h2'.blk.cell]; rfl, (maj94 (s := s) (by omega)).mono ?_⟩
  rintro _ w3 ⟨rfl, hw⟩
  subst hw
  have e12 := e1.trans e2
  refine ⟨_, rfl, vif_mk (fun h3 => ?_) fun h3 => ?_⟩
  · have h3' : bal.members.length / 2 + 1 ≤ bal.yes := by simp at h3; omega
    exact ⟨by simp [Ballot.state, hg, h3'], e12⟩
  have h3' : ¬ bal.members.length / 2 + 1 ≤ bal.yes := by simp at h3; omega
  refine ⟨s.p, s.n, s.c, by rw [add_mk, h2'.blk.cell]; rfl, ?_⟩
  rw [wi (by omega) (by omega)]
  refine vif_mk (fun h4 => ?_) fun h4 => ?_
  · have h4' : bal.members.length - bal.no < bal.members.length / 2 + 1 := by simp at h4; omega
    exact ⟨by simp [Ballot.state, hg, h3', h4'], e12⟩
  · have h4' : ¬ bal.members.length - bal.no < bal.members.length / 2 + 1 := by simp at h4; omega
    exact ⟨by simp [Ballot.state, hg, h3', h4'], e12⟩

end
end Rx
end Go.Proofs.YtkoipeddfbeliaaGreat

/-
  How far the others are: tracks in memory.
-/
namespace Go.Proofs.YtkoipeddfbeliaaGreat
namespace Rx
open Go.RowKit Md
set_option maxRecDepth 100000

def mkv (p : Nat × Nat) : Value := .agg #[.int .u64 (p.1 : Int), .int .u64 (p.2 : Int)]
def tl (t : Track) : List (Nat × Value) := t.map fun p => (p.1, mkv p.2)

structure TrackR (w : World) (b mb : Nat) (t : Track) : Prop where
  blk : Blk w b #[.map (some mb)] 140
  m : MapR w mb (tl t)
  nd : (t.map (·.1)).Nodup

theorem TrackR.step {w w' : World} {b mb : Nat} {t : Track} (h : TrackR w b mb t) {M : List Nat} (f : Fr M w w') (h1 : b ∉ M) (h2 : mb ∉ M) : TrackR w' b mb t :=
  ⟨f.blk h.blk h1, h.m.fr f h2, h.nd⟩
theorem TrackR.ex {w w' : World} {b mb : Nat} {t : Track} (h : TrackR w b mb t) (e : Ex w w') : TrackR w' b mb t := h.step (e.fr []) (by simp) (by simp)

theorem first_tl (t : Track) (x : Nat) : (first (tl t) x = none ∧ t.get x = none) ∨ ∃ i m, first (tl t) x = some (i, mkv m) ∧ t.get x = some m ∧ t[i]? = some (x, m) := by
  induction t with
  | nil => left; exact ⟨rfl, rfl⟩
  | cons p t ih =>
    by_cases hp : p.1 = x
    · right
      refine ⟨0, p.2, ?_, ?_, ?_⟩
      · simp [first, tl, List.findIdx?_cons, hp]
      · simp [Track.get, hp]
      · rw [← hp]; rfl
    · have hf : first (tl (p :: t)) x = (first (tl t) x).map fun q => (q.1 + 1, q.2) := by
        simp only [first, tl, List.map_cons, List.findIdx?_cons, beq_iff_eq, hp, if_false]
        cases (List.map (fun p => (p.fst, mkv p.snd)) t).findIdx? (fun q => q.1 == x) with
        | none => rfl
        | some i =>
          simp only [Option.map_some, List.getElem?_cons_succ]
          cases (List.map (fun p => (p.fst, mkv p.snd)) t)[i]? <;> rfl
      have hg : Track.get (p :: t) x = Track.get t x := by simp [Track.get, hp]
      rcases ih with ⟨h1, h2⟩ | ⟨i, m, h1, h2, h3⟩
      · left; rw [hf, h1, hg]; exact ⟨rfl, h2⟩
      · right; exact ⟨i + 1, m, by rw [hf, h1]; rfl, by rw [hg]; exact h2, by simpa using h3⟩

section
variable {w : World} {b mb : Nat} {t : Track}

theorem above97 (x : Nat) (hx : x < 18446744073709551615) : Calls Tryz.prog 97 #[.int .u64 (x : Int)] w fun e w' => e = .returned (.int .u64 ((x + 1 : Nat) : Int)) ∧ w' = w := by
  refine ret (R := fun v w' => v = .int .u64 ((x + 1 : Nat) : Int) ∧ w' = w) (c97 x w ?_) (fun v w' ⟨h1, h2⟩ => ⟨by rw [h1], h2⟩)
  refine ⟨?_, rfl⟩
  rw [wu (by omega) (by omega), if_pos (by omega)]; rfl

theorem has71 (h : TrackR w b mb t) (x : Nat) : Calls Tryz.prog 71 #[.pointer (some ⟨b, 0, none⟩), .int .i64 (x : Int)] w fun e w' => e = .returned (.bool (t.has x)) ∧ Ex w w' := by
  refine ret (R := fun v w' => v = .bool (t.has x) ∧ Ex w w') (c71 _ x w ?_) (fun v w' ⟨h1, h2⟩ => ⟨by rw [h1], h2⟩)
  refine ⟨some mb, by rw [add_mk, h.blk.cell]; rfl, h.m.find x fun es clock g1 g2 g3 g4 g5 => ⟨_, g5, ?_⟩⟩
  have fin : ∀ g : Array Value, g.size = 2 → (∀ v ∈ g.toList, isOne v = true) → ∀ r : Bool, r = t.has x → vnew w (.cells #[.int .u64 0, .int .u64 0] 137) fun a8 w9 => vstoreN w9 a8 2 g fun w10 => (Value.bool r = .bool (t.has x) ∧ Ex w w10) := by
    intro g hg ho r hr
    refine vnew_mk fun w1 e1 s1 b1 => vstoreN_mk (cs := #[.int .u64 0, .int .u64 0]) b1 hg (by simp) ho fun w2 p2 => ⟨by rw [hr], e1.put p2 (Nat.le_refl _)⟩
  rcases first_tl t x with ⟨h1, h2⟩ | ⟨i, m, h1, h2, _⟩
  · rw [h1]
    exact ⟨_, rfl, false, rfl, fin _ rfl (by simp [isOne]) _ (by simp [Track.has, h2])⟩
  · rw [h1]
    exact ⟨#[.int .u64 (m.1 : Int), .int .u64 (m.2 : Int)], rfl, true, rfl, fin _ rfl (by simp [isOne]) _ (by simp [Track.has, h2])⟩

theorem next73 (h : TrackR w b mb t) (x : Nat) : Calls Tryz.prog 73 #[.pointer (some ⟨b, 0, none⟩), .int .i64 (x : Int)] w fun e w' => e = .returned (.int .u64 (t.next x : Int)) ∧ w' = w := by
  refine ret (R := fun v w' => v = .int .u64 (t.next x : Int) ∧ w' = w) (c73 _ x w ?_) (fun v w' ⟨h1, h2⟩ => ⟨by rw [h1], h2⟩)
  refine ⟨some mb, by rw [add_mk, h.blk.cell]; rfl, h.m.find x fun es clock g1 g2 g3 g4 g5 => ⟨_, g5, ?_⟩⟩
  rcases first_tl t x with ⟨h1, h2⟩ | ⟨i, m, h1, h2, _⟩
  · rw [h1]
    exact ⟨_, rfl, false, rfl, 0, rfl, by simp [Track.next, h2], rfl⟩
  · rw [h1]
    exact ⟨#[.int .u64 (m.1 : Int), .int .u64 (m.2 : Int)], rfl, true, rfl, m.2, rfl, by simp [Track.next, h2], rfl⟩

theorem match100 (h : TrackR w b mb t) (x : Nat) : Calls Tryz.prog 100 #[.pointer (some ⟨b, 0, none⟩), .int .i64 (x : Int)] w fun e w' => e = .returned (.int .u64 (t.mat x : Int)) ∧ w' = w := by
  refine ret (R := fun v w' => v = .int .u64 (t.mat x : Int) ∧ w' = w) (c100 _ x w ?_) (fun v w' ⟨h1, h2⟩ => ⟨by rw [h1], h2⟩)
  refine ⟨some mb, by rw [add_mk, h.blk.cell]; rfl, h.m.find x fun es clock g1 g2 g3 g4 g5 => ⟨_, g5, ?_⟩⟩
  rcases first_tl t x with ⟨h1, h2⟩ | ⟨i, m, h1, h2, _⟩
  · rw [h1]
    exact ⟨_, rfl, false, rfl, 0, rfl, by simp [Track.mat, h2], rfl⟩
  · rw [h1]
    exact ⟨#[.int .u64 (m.1 : Int), .int .u64 (m.2 : Int)], rfl, true, rfl, m.1, rfl, by simp [Track.mat, h2], rfl⟩

theorem nodup_at {t : Track} (nd : (t.map (·.1)).Nodup) {i j x : Nat} {m m' : Nat × Nat} (hi : t[i]? = some (x, m)) (hj : t[j]? = some (x, m')) : i = j := by
  have h1 := (List.getElem?_eq_some_iff.1 hi)
  have h2 := (List.getElem?_eq_some_iff.1 hj)
  obtain ⟨l1, e1⟩ := h1
  obtain ⟨l2, e2⟩ := h2
  exact (List.getElem_inj (i := i) (j := j) (h₀ := by simpa using l1) (h₁ := by simpa using l2) nd).1 (by simp [e1, e2])

theorem set_tl {t : Track} (nd : (t.map (·.1)).Nodup) {i x : Nat} {m : Nat × Nat} (hi : t[i]? = some (x, m)) (m' : Nat × Nat) : (tl t).set i (x, mkv m') = tl (t.set x m') := by
  apply List.ext_getElem?
  intro j
  have hlt := (List.getElem?_eq_some_iff.1 hi).1
  rw [List.getElem?_set]
  simp only [tl, Track.set, List.getElem?_map, List.length_map, List.map_map]
  by_cases hij : i = j
  · subst hij
    rw [if_pos rfl, if_pos hlt, hi]; simp
  · rw [if_neg hij]
    cases hj : t[j]? with
    | none => rfl
    | some p =>
      have hne : p.1 ≠ x := fun hh => hij (nodup_at nd (m' := p.2) hi (by rw [hj, ← hh]))
      simp [hne]

theorem keys_set (t : Track) (x : Nat) (m : Nat × Nat) : (t.set x m).map (·.1) = t.map (·.1) := by
  simp only [Track.set, List.map_map]
  apply List.map_congr_left
  intro p _
  by_cases hp : p.1 = x <;> simp [hp]

/-- a mark is written -/
theorem TrackR.put (h : TrackR w b mb t) (hne : b ≠ mb) {x : Nat} {m : Nat × Nat} (hm : t.get x = some m) (m' : Nat × Nat) {es : Array MapEntry} {clock : Nat} (g1 : w.heap[mb]? = some (.map es clock))
    (g2 : es.toList.map (fun e => (e.key, e.val)) = (tl t).map (fun p => (iv p.1, p.2))) (g3 : (es.toList.map (·.born)).Nodup) (g4 : ∀ e ∈ es.toList, e.born < clock) {K : World → Prop}
    (hK : ∀ w', TrackR w' b mb (t.set x m') → Step [b, mb] [b, mb] w w' → K w') : vput w mb (mapPut es clock (first (tl t) x) (iv x) (mkv m')) K := by
  refine vput_mk h.m.lt fun w3 k1 k2 k3 k4 => hK w3 ⟨k2.blk h.blk (by simpa using hne), ?_, by rw [keys_set]; exact h.nd⟩ ⟨k2.mono (by simp), map_keeps g1 k3, fun x hx => .inl hx⟩
  have hp := mapPut_r (x := x) (v := mkv m') g2 g3 g4 k1
  have hv : putL (tl t) x (mkv m') = tl (t.set x m') := by
    rcases first_tl t x with ⟨h1, h2⟩ | ⟨i, m2, h1, h2, h3⟩
    · rw [h2] at hm; cases hm
    · unfold putL; rw [h1]; exact set_tl h.nd h3 m'
  rw [hv] at hp; exact hp

theorem yes72 (h : TrackR w b mb t) (hne : b ≠ mb) (x i : Nat) (hi : i < 18446744073709551615) :
    Calls Tryz.prog 72 #[.pointer (some ⟨b, 0, none⟩), .int .i64 (x : Int), .int .u64 (i : Int)] w fun e w' => e = .returned (.bool (t.yes x i).isSome) ∧ TrackR w' b mb ((t.yes x i).getD t) ∧ Step [b, mb] [b, mb] w w' := by
  refine ret (R := fun v w' => v = .bool (t.yes x i).isSome ∧ TrackR w' b mb ((t.yes x i).getD t) ∧ Step [b, mb] [b, mb] w w') (c72 _ x i w ?_) (fun v w' ⟨h1, h2⟩ => ⟨by rw [h1], h2⟩)
  refine (has71 h x).mono ?_
  rintro _ w1 ⟨rfl, e1⟩
  have h1 := h.ex e1
  refine ⟨_, rfl, ?_⟩
  rcases first_tl t x with ⟨f1, f2⟩ | ⟨k, m, f1, f2, f3⟩
  · have hh : t.has x = false := by simp [Track.has, f2]
    have hy : t.yes x i = none := by simp [Track.yes, hh]
    rw [hh, hy]
    exact vif_t rfl ⟨rfl, h1, e1.step _⟩
  have hh : t.has x = true := by simp [Track.has, f2]
  have hmat : t.mat x = m.1 := by simp [Track.mat, f2]
  have hnx : t.next x = m.2 := by simp [Track.next, f2]
  rw [hh]
  refine vif_f rfl ⟨some mb, by rw [add_mk, h1.blk.cell]; rfl, h1.m.find x fun es clock g1 g2 g3 g4 g5 => ⟨_, g5, ?_⟩⟩
  rw [f1]
  refine ⟨#[.int .u64 (m.1 : Int), .int .u64 (m.2 : Int)], rfl, true, rfl, m.1, rfl, vif_mk (fun h2 => ?_) fun h2 => ?_⟩
  · have : ¬ t.mat x < i := by simp at h2; omega
    have hy : t.yes x i = none := by simp [Track.yes, this]
    rw [hy]
    exact ⟨rfl, h1, e1.step _⟩
  have hlt : t.mat x < i := by simp at h2; omega
  have hy : t.yes x i = some (t.set x (i, max (t.next x) (i + 1))) := by simp [Track.yes, hh, hlt]
  rw [hy]
  refine vdraw_mk fun w2 e2 _ => ?_
  have h2 := h1.ex e2
  have e12 := e1.trans e2
  have hmax : (if (m.2 : Int) < ((i + 1 : Nat) : Int) then ((i + 1 : Nat) : Int) else (m.2 : Int)) = ((max (t.next x) (i + 1) : Nat) : Int) := by
    rw [hnx]; split <;> omega
  refine ⟨fun w' => TrackR w' b mb t ∧ Ex w w', ⟨h2, e12⟩, some mb, fun w' hw' => by rw [add_mk, hw'.1.blk.cell]; rfl, some mb, fun w' hw' => by rw [add_mk, hw'.1.blk.cell]; rfl, ?_, ?_⟩
  · refine h2.m.find x fun es clock g1 g2 g3 g4 g5 => ⟨_, g5, ?_⟩
    rw [f1]
    refine ⟨#[.int .u64 (m.1 : Int), .int .u64 (m.2 : Int)], rfl, true, rfl, m.2, rfl, (above97 i hi).mono ?_⟩
    rintro _ w3 ⟨rfl, hw⟩
    subst hw
    refine ⟨_, rfl, ⟨h2, e12⟩, h2.m.find x fun es clock g1 g2 g3 g4 g5 => ⟨_, g5, ?_⟩⟩
    rw [hmax]
    exact h2.put hne f2 (i, max (t.next x) (i + 1)) g1 g2 g3 g4 fun w4 h4 s4 => ⟨rfl, h4, (e12.step _).trans s4⟩
  · refine (above97 i hi).mono ?_
    rintro _ w3 ⟨rfl, hw⟩
    subst hw
    refine ⟨_, rfl, ⟨h2, e12⟩, h2.m.find x fun es clock g1 g2 g3 g4 g5 => ⟨_, g5, ?_⟩⟩
    rw [f1]
    refine ⟨#[.int .u64 (m.1 : Int), .int .u64 (m.2 : Int)], rfl, true, rfl, m.2, rfl, h2.m.find x fun es clock g1 g2 g3 g4 g5 => ⟨_, g5, ?_⟩⟩
    rw [hmax]
    exact h2.put hne f2 (i, max (t.next x) (i + 1)) g1 g2 g3 g4 fun w4 h4 s4 => ⟨rfl, h4, (e12.step _).trans s4⟩

theorem no70 (h : TrackR w b mb t) (hne : b ≠ mb) (x i : Nat) (hi : i < 18446744073709551615) (hm : t.mat x < 18446744073709551615) :
    Calls Tryz.prog 70 #[.pointer (some ⟨b, 0, none⟩), .int .i64 (x : Int), .int .u64 (i : Int)] w fun e w' => (∃ r : Bool, e = .returned (.bool r)) ∧ TrackR w' b mb (t.no x i) ∧ Step [b, mb] [b, mb] w w' := by
  refine ret (R := fun v w' => (∃ r : Bool, v = .bool r) ∧ TrackR w' b mb (t.no x i) ∧ Step [b, mb] [b, mb] w w') (c70 _ x i w ?_) (fun v w' ⟨⟨r, h1⟩, h2⟩ => ⟨⟨r, by rw [h1]⟩, h2⟩)
  refine (has71 h x).mono ?_
  rintro _ w1 ⟨rfl, e1⟩
  have h1 := h.ex e1
  refine ⟨_, rfl, ?_⟩
  rcases first_tl t x with ⟨f1, f2⟩ | ⟨k, m, f1, f2, f3⟩
  · have hh : t.has x = false := by simp [Track.has, f2]
    have hy : t.no x i = t := by simp [Track.no, hh]
    rw [hh, hy]
    exact vif_t rfl ⟨⟨_, rfl⟩, h1, e1.step _⟩
  have hh : t.has x = true := by simp [Track.has, f2]
  have hmat : t.mat x = m.1 := by simp [Track.mat, f2]
  have hnx : t.next x = m.2 := by simp [Track.next, f2]
  have hno : t.no x i = if m.2 ≤ max (min m.2 (i + 1)) (m.1 + 1) then t else t.set x (m.1, max (min m.2 (i + 1)) (m.1 + 1)) := by simp [Track.no, hh, hmat, hnx]
  rw [hh, hno]
  refine vif_f rfl ⟨some mb, by rw [add_mk, h1.blk.cell]; rfl, h1.m.find x fun es clock g1 g2 g3 g4 g5 => ⟨_, g5, ?_⟩⟩
  rw [f1]
  refine ⟨#[.int .u64 (m.1 : Int), .int .u64 (m.2 : Int)], rfl, true, rfl, vnew_mk fun w2 e2 s2 b2 => ?_⟩
  refine vstoreN_mk (cs := #[.int .u64 0, .int .u64 0]) b2 rfl (by simp) (by simp [isOne]) fun w3 p3 => vdraw_mk fun w4 e4 _ => ?_
  have e3 : Ex w1 w3 := e2.put p3 (Nat.le_refl _)
  have e14 := e3.trans e4
  have hb4 : Blk w4 w1.heap.size #[.int .u64 (m.1 : Int), .int .u64 (m.2 : Int)] 137 := e4.blk (by simpa [setMany] using p3.blk)
  refine ⟨fun w' => Blk w' w1.heap.size #[.int .u64 (m.1 : Int), .int .u64 (m.2 : Int)] 137, hb4, m.2, fun w' hw' => by rw [add_mk, hw'.cell]; rfl, m.1, fun w' hw' => by rw [add_mk, hw'.cell]; rfl, (above97 i hi).mono ?_⟩
  rintro _ w5 ⟨rfl, hw⟩
  subst hw
  refine ⟨_, rfl, hb4, (above97 m.1 (by omega)).mono ?_⟩
  rintro _ w6 ⟨rfl, hw⟩
  subst hw
  have hval : (if (if ((i + 1 : Nat) : Int) < (m.2 : Int) then ((i + 1 : Nat) : Int) else (m.2 : Int)) < ((m.1 + 1 : Nat) : Int) then ((m.1 + 1 : Nat) : Int) else (if ((i + 1 : Nat) : Int) < (m.2 : Int) then ((i + 1 : Nat) : Int) else (m.2 : Int))) = ((max (min m.2 (i + 1)) (m.1 + 1) : Nat) : Int) := by
    split <;> split <;> omega
  refine ⟨_, rfl, hb4, m.2, by rw [add_mk, hb4.cell]; rfl, ?_⟩
  rw [hval]
  have h4 := h1.ex e14
  have e04 := e1.trans e14
  refine vif_mk (fun h5 => ?_) fun h5 => ?_
  · have : m.2 ≤ max (min m.2 (i + 1)) (m.1 + 1) := by simp only [ge_iff_le, decide_eq_true_eq] at h5; omega
    rw [if_pos this]
    exact ⟨⟨_, rfl⟩, h4, e04.step _⟩
  · have : ¬ m.2 ≤ max (min m.2 (i + 1)) (m.1 + 1) := by simp only [ge_iff_le, decide_eq_false_iff_not] at h5; omega
    rw [if_neg this]
    refine vdraw_mk fun w7 e7 _ => ?_
    have h7 := h4.ex e7
    refine ⟨some mb, by rw [add_mk, h7.blk.cell]; rfl, m.1, by rw [add_mk, (e7.blk hb4).cell]; rfl, h7.m.find x fun es clock g1 g2 g3 g4 g5 => ⟨_, g5, ?_⟩⟩
    exact h7.put hne f2 (m.1, max (min m.2 (i + 1)) (m.1 + 1)) g1 g2 g3 g4 fun w8 h8 s8 => ⟨⟨_, rfl⟩, h8, ((e04.trans e7).step _).trans s8⟩

end
end Rx
end Go.Proofs.YtkoipeddfbeliaaGreat

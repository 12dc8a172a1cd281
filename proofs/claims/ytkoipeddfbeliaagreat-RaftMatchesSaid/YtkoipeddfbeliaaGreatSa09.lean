import Derived.Test.YtkoipeddfbeliaaGreatSa08
/-
  The node in memory: its parts change.
-/
namespace Go.Proofs.YtkoipeddfbeliaaGreat
namespace Rx
open Go.RowKit Md
set_option maxRecDepth 100000

theorem nodup_swap {H X X' T : List Nat} (h : (H ++ (X ++ T)).Nodup) (hx : X'.Nodup) (hd : ∀ x ∈ X', x ∉ H ∧ x ∉ T) : (H ++ (X' ++ T)).Nodup := by
  rw [List.nodup_append] at h ⊢
  obtain ⟨h1, h2, h3⟩ := h
  rw [List.nodup_append] at h2 ⊢
  refine ⟨h1, ⟨hx, h2.2.1, fun a ha c hc hac => (hd a ha).2 (hac ▸ hc)⟩, fun a ha c hc hac => ?_⟩
  rcases List.mem_append.1 hc with hc | hc
  · exact (hd c hc).1 (hac ▸ ha)
  · exact h3 a ha c (List.mem_append_right _ hc) hac
theorem nodup_out {H X T : List Nat} (h : (H ++ (X ++ T)).Nodup) : ∀ x ∈ X, x ∉ H ∧ x ∉ T := by
  rw [List.nodup_append] at h
  obtain ⟨h1, h2, h3⟩ := h
  rw [List.nodup_append] at h2
  exact fun x hx => ⟨fun hh => h3 x hh x (List.mem_append_left _ hx) rfl, fun hh => h2.2.2 x hx x hh rfl⟩

theorem vnil_mk {a : Addr} {K : Addr → Prop} (h : K a) : vnil (some a) K := h
theorem NodeR.at_ {w : World} {b : Nat} {n : Md.Node} {r : Raw} (h : NodeR w b n r) (i : Nat) {v : Value} (hv : (cellsN n r)[i]? = some v) : w.cell? ⟨b, i, none⟩ = some v := (h.cell i).trans hv
theorem Blk.at_ {w : World} {b : Nat} {cs : Array Value} {ty : TypeId} (h : Blk w b cs ty) (i : Nat) {v : Value} (hv : cs[i]? = some v) : w.cell? ⟨b, i, none⟩ = some v := (h.cell i).trans hv

section
variable {w0 w : World} {b : Nat} {n : Md.Node} {r : Raw}

theorem foot_log (b : Nat) (r : Raw) : foot b r = [b] ++ ((r.lb :: r.ls.own) ++ (pollF r ++ (trackF r ++ r.out.own))) := by simp [foot]
theorem foot_poll (b : Nat) (r : Raw) : foot b r = (b :: r.lb :: r.ls.own) ++ (pollF r ++ (trackF r ++ r.out.own)) := by simp [foot]
theorem foot_track (b : Nat) (r : Raw) : foot b r = (b :: r.lb :: (r.ls.own ++ pollF r)) ++ (trackF r ++ r.out.own) := by simp [foot]

theorem NodeR.poll (h : NodeR w b n r) {bal : Ballot} (hp : n.poll = some bal) : ∃ pb mb s, r.poll = some (pb, mb, s) ∧ BallotR w pb mb bal s ∧ pb ≠ mb := by
  have hh := h.sub.poll
  cases h2 : r.poll with
  | none => rw [hp, h2] at hh; exact hh.elim
  | some p =>
    rw [hp, h2] at hh
    refine ⟨p.1, p.2.1, p.2.2, rfl, hh, ?_⟩
    have hnd := h.nd
    rw [foot_poll, List.nodup_append] at hnd
    have := hnd.2.1
    rw [List.nodup_append] at this
    have := this.1
    simp only [pollF, h2] at this
    simpa using this
theorem NodeR.track (h : NodeR w b n r) {t : Track} (ht : n.track = some t) : ∃ tb mb, r.track = some (tb, mb) ∧ TrackR w tb mb t ∧ tb ≠ mb := by
  have hh := h.sub.track
  cases h2 : r.track with
  | none => rw [ht, h2] at hh; exact hh.elim
  | some p =>
    rw [ht, h2] at hh
    refine ⟨p.1, p.2, rfl, hh, ?_⟩
    have hnd := h.nd
    rw [foot_track, List.nodup_append] at hnd
    have := hnd.2.1
    rw [List.nodup_append] at this
    have := this.1
    simp only [trackF, h2] at this
    simpa using this

/-- the log changes -/
theorem NodeR.logS (h : NodeR w b n r) {w' : World} {g' : Log} {s' : SV} {ps' : List (Ent × SV)} (hl : LogR w' r.lb g' s' ps') (st : Step (r.lb :: r.ls.own) (r.lb :: s'.own) w w') :
    NodeR w' b { n with log := g' } { r with ls := s', lps := ps' } ∧ Step (foot b r) (foot b { r with ls := s', lps := ps' }) w w' := by
  have hnd := h.nd
  have hlt := h.lt
  rw [foot_log] at hnd
  have hout := nodup_out hnd
  have hin : ∀ x ∈ [b] ++ (pollF r ++ (trackF r ++ r.out.own)), x ∉ r.lb :: r.ls.own := fun x hx hh => by
    rcases List.mem_append.1 hx with hx | hx
    · exact (hout x hh).1 hx
    · exact (hout x hh).2 hx
  refine ⟨⟨st.fr.blk h.blk (hin b (by simp)), ⟨Sl.keeps h.sub.cm st.keeps (.inl rfl), hl, Sl.keeps h.sub.im st.keeps (.inl rfl), Sl.keeps h.sub.dat st.keeps (.inr rfl), ?_, ?_, h.sub.out.step st.keeps st.fr fun x hx => hin x (by simp [hx]), h.sub.dn⟩, ?_⟩, ?_⟩
  · have hp := h.sub.poll
    have hm' : ∀ x ∈ pollF r, x ∉ r.lb :: r.ls.own := fun x hx => hin x (by simp [hx])
    show PollR w' n.poll r.poll
    cases h1 : n.poll <;> cases h2 : r.poll <;> simp only [h1, h2, PollR] at hp ⊢
    simp only [pollF, h2] at hm'
    exact hp.step st.keeps st.fr (hm' _ (by simp)) (hm' _ (by simp))
  · have hp := h.sub.track
    have hm' : ∀ x ∈ trackF r, x ∉ r.lb :: r.ls.own := fun x hx => hin x (by simp [hx])
    show TrkR w' n.track r.track
    cases h1 : n.track <;> cases h2 : r.track <;> simp only [h1, h2, TrkR] at hp ⊢
    simp only [trackF, h2] at hm'
    exact hp.step st.fr (hm' _ (by simp)) (hm' _ (by simp))
  · rw [foot_log]
    have hown : ∀ x ∈ r.lb :: s'.own, x ∉ [b] ∧ x ∉ pollF r ++ (trackF r ++ r.out.own) := by
      intro x hx
      rcases st.own x hx with hh | hh
      · exact hout x hh
      · constructor
        · intro hc; have := hlt x (by rw [foot_log]; exact List.mem_append_left _ hc); omega
        · intro hc; have := hlt x (by rw [foot_log]; exact List.mem_append_right _ (List.mem_append_right _ hc)); omega
    refine nodup_swap (X' := r.lb :: s'.own) hnd ?_ hown
    rw [List.nodup_cons]
    refine ⟨hl.notin, ?_⟩
    unfold SV.own; split <;> simp
  · refine ⟨st.fr.mono fun x hx => by rw [foot_log]; exact List.mem_append_right _ (List.mem_append_left _ hx), st.keeps, fun x hx => ?_⟩
    rw [foot_log] at hx ⊢
    rcases List.mem_append.1 hx with hx | hx
    · exact .inl (List.mem_append_left _ hx)
    · rcases List.mem_append.1 hx with hx | hx
      · rcases st.own x hx with hh | hh
        · exact .inl (List.mem_append_right _ (List.mem_append_left _ hh))
        · exact .inr hh
      · exact .inl (List.mem_append_right _ (List.mem_append_right _ hx))

/-- the ballot changes -/
theorem NodeR.pollS (h : NodeR w b n r) {w' : World} {pb mb : Nat} {s : SV} {bal : Ballot} (hr : r.poll = some (pb, mb, s)) (hb : BallotR w' pb mb bal s) (st : Step [pb, mb] [pb, mb] w w') :
    NodeR w' b { n with poll := some bal } r ∧ Step (foot b r) (foot b r) w w' := by
  have hnd := h.nd
  have hf := foot_poll b r
  have hpf : pollF r = [pb, mb] := by simp [pollF, hr]
  rw [hpf] at hf
  rw [hf] at hnd
  have hout := nodup_out hnd
  have hin : ∀ x ∈ (b :: r.lb :: r.ls.own) ++ (trackF r ++ r.out.own), x ∉ [pb, mb] := fun x hx hh => by
    rcases List.mem_append.1 hx with hx | hx
    · exact (hout x hh).1 hx
    · exact (hout x hh).2 hx
  refine ⟨⟨st.fr.blk h.blk (hin b (by simp)), ⟨Sl.keeps h.sub.cm st.keeps (.inl rfl), h.sub.log.fr st.fr st.keeps (hin _ (by simp)) fun x hx => hin x (by simp [hx]), Sl.keeps h.sub.im st.keeps (.inl rfl), Sl.keeps h.sub.dat st.keeps (.inr rfl), ?_, ?_,
    h.sub.out.step st.keeps st.fr fun x hx => hin x (by simp [hx]), h.sub.dn⟩, h.nd⟩, ?_⟩
  · show PollR w' (some bal) r.poll
    rw [hr]; exact hb
  · have hp := h.sub.track
    have hm' : ∀ x ∈ trackF r, x ∉ [pb, mb] := fun x hx => hin x (by simp [hx])
    show TrkR w' n.track r.track
    cases h1 : n.track <;> cases h2 : r.track <;> simp only [h1, h2, TrkR] at hp ⊢
    simp only [trackF, h2] at hm'
    exact hp.step st.fr (hm' _ (by simp)) (hm' _ (by simp))
  · exact ⟨st.fr.mono fun x hx => by rw [hf]; exact List.mem_append_right _ (List.mem_append_left _ hx), st.keeps, fun x hx => .inl hx⟩

/-- the track changes -/
theorem NodeR.trackS (h : NodeR w b n r) {w' : World} {tb mb : Nat} {t : Track} (hr : r.track = some (tb, mb)) (hb : TrackR w' tb mb t) (st : Step [tb, mb] [tb, mb] w w') :
    NodeR w' b { n with track := some t } r ∧ Step (foot b r) (foot b r) w w' := by
  have hnd := h.nd
  have hf := foot_track b r
  have hpf : trackF r = [tb, mb] := by simp [trackF, hr]
  rw [hpf] at hf
  rw [hf] at hnd
  have hout := nodup_out hnd
  have hin : ∀ x ∈ (b :: r.lb :: (r.ls.own ++ pollF r)) ++ r.out.own, x ∉ [tb, mb] := fun x hx hh => by
    rcases List.mem_append.1 hx with hx | hx
    · exact (hout x hh).1 hx
    · exact (hout x hh).2 hx
  refine ⟨⟨st.fr.blk h.blk (hin b (by simp)), ⟨Sl.keeps h.sub.cm st.keeps (.inl rfl), h.sub.log.fr st.fr st.keeps (hin _ (by simp)) fun x hx => hin x (by simp [hx]), Sl.keeps h.sub.im st.keeps (.inl rfl), Sl.keeps h.sub.dat st.keeps (.inr rfl), ?_, ?_,
    h.sub.out.step st.keeps st.fr fun x hx => hin x (by simp [hx]), h.sub.dn⟩, h.nd⟩, ?_⟩
  · have hp := h.sub.poll
    have hm' : ∀ x ∈ pollF r, x ∉ [tb, mb] := fun x hx => hin x (by simp [hx])
    show PollR w' n.poll r.poll
    cases h1 : n.poll <;> cases h2 : r.poll <;> simp only [h1, h2, PollR] at hp ⊢
    simp only [pollF, h2] at hm'
    exact hp.step st.keeps st.fr (hm' _ (by simp)) (hm' _ (by simp))
  · show TrkR w' (some t) r.track
    rw [hr]; exact hb
  · exact ⟨st.fr.mono fun x hx => by rw [hf]; exact List.mem_append_right _ (List.mem_append_left _ hx), st.keeps, fun x hx => .inl hx⟩

/-- a cell of a node is written, with a part that is new -/
theorem NodeR.storeN (h : NodeR w0 b n r) (e : Ex w0 w) {i : Nat} (hi : i < 21) {v : Value} (n' : Md.Node) (r' : Raw) (hc : (cellsN n r).setIfInBounds i v = cellsN n' r') (hs : ∀ w', Keeps w w' → Fr [b] w w' → Sub w' n r → Sub w' n' r')
    (hf : ∀ x ∈ foot b r', x ∈ foot b r ∨ w0.heap.size ≤ x) (hnd : (foot b r').Nodup) {K : World → Prop} (hK : ∀ w', NodeR w' b n' r' → Step (foot b r) (foot b r') w0 w' → K w') : vstore1 w ⟨b, i, none⟩ v K := by
  have h1 := h.ex e
  refine vstore1_mk h1.blk (by simpa [cellsN] using hi) fun w' p => ?_
  have k := p.keeps h1.blk (by decide)
  have f : Fr [b] w w' := p.fr (by simp)
  have hnin : b ∉ r.lb :: (r.ls.own ++ (pollF r ++ (trackF r ++ r.out.own))) := (List.nodup_cons.1 h.nd).1
  refine hK w' ⟨by rw [← hc]; exact p.blk, hs w' k f (h1.sub.step k f fun x hx hxb => ?_), hnd⟩ ⟨((e.fr _).trans (f.mono fun x hx => ?_)), e.keeps.trans k, hf⟩
  · simp only [List.mem_singleton] at hxb; subst hxb; exact hnin hx
  · simp only [List.mem_singleton] at hx; subst hx; simp [foot]

theorem NodeR.stTrackN (h : NodeR w0 b n r) (e : Ex w0 w) {tb mb : Nat} {t : Track} (ht : TrackR w tb mb t) (h1 : w0.heap.size ≤ tb) (h2 : w0.heap.size ≤ mb) (h3 : tb ≠ mb)
    {K : World → Prop} (hK : ∀ w', NodeR w' b { n with track := some t } { r with track := some (tb, mb) } → Step (foot b r) (foot b { r with track := some (tb, mb) }) w0 w' → K w') : vstore1 w ⟨b, 16, none⟩ (.pointer (some ⟨tb, 0, none⟩)) K := by
  have hlt := h.lt
  have hnd := h.nd
  rw [foot_track] at hnd
  refine h.storeN e (by decide) { n with track := some t } { r with track := some (tb, mb) } rfl (fun w' k f s => ⟨s.cm, s.log, s.im, s.dat, s.poll, ht.step f ?_ ?_, s.out, s.dn⟩) ?_ ?_ hK
  · have := h.blk.lt; simp; omega
  · have := h.blk.lt; simp; omega
  · intro x hx
    rw [foot_track] at hx ⊢
    rcases List.mem_append.1 hx with hx | hx
    · exact .inl (List.mem_append_left _ hx)
    · rcases List.mem_append.1 hx with hx | hx
      · right
        simp only [trackF, List.mem_cons, List.not_mem_nil, or_false] at hx
        rcases hx with rfl | rfl <;> assumption
      · exact .inl (List.mem_append_right _ (List.mem_append_right _ hx))
  · rw [foot_track]
    refine nodup_swap (X := trackF r) (X' := [tb, mb]) hnd (by simp [h3]) fun x hx => ?_
    have hx' : w0.heap.size ≤ x := by simp only [List.mem_cons, List.not_mem_nil, or_false] at hx; rcases hx with rfl | rfl <;> assumption
    constructor
    · intro hc; have := hlt x (by rw [foot_track]; exact List.mem_append_left _ hc); omega
    · intro hc; have := hlt x (by rw [foot_track]; exact List.mem_append_right _ (List.mem_append_right _ hc)); omega

theorem NodeR.stPollN (h : NodeR w0 b n r) (e : Ex w0 w) {pb mb : Nat} {q : SV} {bal : Ballot} (ht : BallotR w pb mb bal q) (h1 : w0.heap.size ≤ pb) (h2 : w0.heap.size ≤ mb) (h3 : pb ≠ mb)
    {K : World → Prop} (hK : ∀ w', NodeR w' b { n with poll := some bal } { r with poll := some (pb, mb, q) } → Step (foot b r) (foot b { r with poll := some (pb, mb, q) }) w0 w' → K w') : vstore1 w ⟨b, 15, none⟩ (.pointer (some ⟨pb, 0, none⟩)) K := by
  have hlt := h.lt
  have hnd := h.nd
  rw [foot_poll] at hnd
  refine h.storeN e (by decide) { n with poll := some bal } { r with poll := some (pb, mb, q) } rfl (fun w' k f s => ⟨s.cm, s.log, s.im, s.dat, ht.step k f ?_ ?_, s.track, s.out, s.dn⟩) ?_ ?_ hK
  · have := h.blk.lt; simp; omega
  · have := h.blk.lt; simp; omega
  · intro x hx
    rw [foot_poll] at hx ⊢
    rcases List.mem_append.1 hx with hx | hx
    · exact .inl (List.mem_append_left _ hx)
    · rcases List.mem_append.1 hx with hx | hx
      · right
        simp only [pollF, List.mem_cons, List.not_mem_nil, or_false] at hx
        rcases hx with rfl | rfl <;> assumption
      · exact .inl (List.mem_append_right _ (List.mem_append_right _ hx))
  · rw [foot_poll]
    refine nodup_swap (X := pollF r) (X' := [pb, mb]) hnd (by simp [h3]) fun x hx => ?_
    have hx' : w0.heap.size ≤ x := by simp only [List.mem_cons, List.not_mem_nil, or_false] at hx; rcases hx with rfl | rfl <;> assumption
    constructor
    · intro hc; have := hlt x (by rw [foot_poll]; exact List.mem_append_left _ hc); omega
    · intro hc; have := hlt x (by rw [foot_poll]; exact List.mem_append_right _ (List.mem_append_right _ hc)); omega

theorem NodeR.stLogN (h : NodeR w0 b n r) (e : Ex w0 w) {lb : Nat} {g : Log} {s : SV} {ps : List (Ent × SV)} (hl : LogR w lb g s ps) (h1 : w0.heap.size ≤ lb) (h2 : ∀ x ∈ s.own, w0.heap.size ≤ x)
    {K : World → Prop} (hK : ∀ w', NodeR w' b { n with log := g } { r with lb := lb, ls := s, lps := ps } → Step (foot b r) (foot b { r with lb := lb, ls := s, lps := ps }) w0 w' → K w') : vstore1 w ⟨b, 9, none⟩ (.pointer (some ⟨lb, 0, none⟩)) K := by
  have hlt := h.lt
  have hnd := h.nd
  have hb := h.blk.lt
  rw [foot_log] at hnd
  refine h.storeN e (by decide) { n with log := g } { r with lb := lb, ls := s, lps := ps } rfl (fun w' k f q => ⟨q.cm, hl.fr f k ?_ ?_, q.im, q.dat, q.poll, q.track, q.out, q.dn⟩) ?_ ?_ hK
  · simp; omega
  · intro x hx; have := h2 x hx; simp; omega
  · intro x hx
    rw [foot_log] at hx ⊢
    rcases List.mem_append.1 hx with hx | hx
    · exact .inl (List.mem_append_left _ hx)
    · rcases List.mem_append.1 hx with hx | hx
      · right
        rcases List.mem_cons.1 hx with rfl | hx
        · exact h1
        · exact h2 x hx
      · exact .inl (List.mem_append_right _ (List.mem_append_right _ hx))
  · rw [foot_log]
    refine nodup_swap (X := r.lb :: r.ls.own) (X' := lb :: s.own) hnd ?_ fun x hx => ?_
    · rw [List.nodup_cons]
      refine ⟨hl.notin, ?_⟩
      unfold SV.own; split <;> simp
    have hx' : w0.heap.size ≤ x := by
      rcases List.mem_cons.1 hx with rfl | hx
      · exact h1
      · exact h2 x hx
    constructor
    · intro hc; have := hlt x (by rw [foot_log]; exact List.mem_append_left _ hc); omega
    · intro hc; have := hlt x (by rw [foot_log]; exact List.mem_append_right _ (List.mem_append_right _ hc)); omega

/-- an image's cells -/
def imA (i t : Nat) (m d : SV) : Array Value := #[.int .u64 (i : Int), .int .u64 (t : Int), .slice m.p m.n m.c, .slice d.p d.n d.c]

/-- the image changes -/
theorem NodeR.stImg (h : NodeR w b n r) (im : Img) {m d : SV} {bs : List UInt8} (hm : Ints w m im.members) (hd : Bytes w d bs) (hn : bs.length ≤ 1000000)
    {K : World → Prop} (hK : ∀ w', NodeR w' b { n with img := im } { r with im := m, dat := d, data := bs } → Step (foot b r) (foot b { r with im := m, dat := d, data := bs }) w w' → K w') : vstoreN w ⟨b, 10, none⟩ 4 (imA im.index im.term m d) K := by
  refine vstoreN_mk h.blk rfl (by simp [cellsN]) (by simp [imA, isOne]) fun w' p => ?_
  have k := p.keeps h.blk (by decide)
  have f : Fr [b] w w' := p.fr (by simp)
  have hnin : b ∉ r.lb :: (r.ls.own ++ (pollF r ++ (trackF r ++ r.out.own))) := (List.nodup_cons.1 h.nd).1
  have hs := h.sub.step k f fun x hx hxb => by simp only [List.mem_singleton] at hxb; subst hxb; exact hnin hx
  refine hK w' ⟨p.blk, ⟨hs.cm, hs.log, Sl.keeps hm k (.inl rfl), Sl.keeps hd k (.inr rfl), hs.poll, hs.track, hs.out, hn⟩, h.nd⟩ ⟨f.mono fun x hx => ?_, k, fun x hx => .inl hx⟩
  simp only [List.mem_singleton] at hx; subst hx; simp [foot]

theorem clone28 {i t : Nat} {m d : SV} {ms : List Nat} {bs : List UInt8} (hm : Ints w m ms) (hd : Bytes w d bs) (hmn : ms.length ≤ 1000000) (hdn : bs.length ≤ 1000000) :
    Calls Tryz.prog 28 #[.agg (imA i t m d)] w fun e w' => ∃ m' d', e = .returned (.agg (imA i t m' d')) ∧ Ex w w' ∧ Ints w' m' ms ∧ Bytes w' d' bs := by
  refine ret (R := fun v w' => ∃ m' d', v = .agg (imA i t m' d') ∧ Ex w w' ∧ Ints w' m' ms ∧ Bytes w' d' bs) (c28 _ w ?_) (fun v w' ⟨m', d', h1, h2⟩ => ⟨m', d', by rw [h1], h2⟩)
  refine vnew_mk fun w1 e1 s1 b1 => vnew_mk fun w2 e2 s2 b2 => vdraw_mk fun w3 e3 _ => ?_
  have hb1 : Blk w1 w.heap.size (imA i t m d) 40 := b1
  have hb2 : Blk w2 w1.heap.size #[.int .u64 0, .int .u64 0, .slice Option.none 0 0, .slice Option.none 0 0] 40 := b2
  have e123 := (e1.trans e2).trans e3
  have hb3 := (e2.trans e3).blk hb1
  have hmn' := hm.n
  have hdn' := hd.n
  simp only [add_mk, Nat.zero_add]
  refine ⟨fun w => Ex w3 w, Ex.refl _, m.p, m.n, m.c, by rw [hb3.cell]; rfl, d.p, d.n, d.c, fun w4 e4 => by rw [(e4.blk hb3).cell]; rfl, (clone47 (Sl.ex hm e123) (one_iv _) (by omega)).mono ?_⟩
  rintro _ w4 ⟨m', rfl, e4, hm', hmo⟩
  refine ⟨_, _, _, rfl, e4, (clone56 (Sl.ex hd (e123.trans e4)) (one_bytes _) (by omega)).mono ?_⟩
  rintro _ w5 ⟨d', rfl, e5, hd', hdo⟩
  have hb5 := (e4.trans e5).blk hb3
  refine ⟨_, _, _, rfl, vstore1_mk hb5 (by simp [imA]) fun w6 p6 => vstore1_mk p6.blk (by simp [imA]) fun w7 p7 => vcells_all p7.blk 4 (by simp [imA]) ?_⟩
  have hne : w1.heap.size ≠ w.heap.size := by omega
  have hbb := p7.other hne (p6.other hne (((e3.trans e4).trans e5).blk hb2))
  refine vstoreN_mk hbb (by simp [imA]) (by simp) (by simp [imA, isOne]) fun w8 p8 => vcells_all p8.blk 4 (by simp [setMany_length]) ⟨m', d', ?_, ?_, ?_, ?_⟩
  · rfl
  · have e5' := (e123.trans e4).trans e5
    exact ((e5'.put p6 (Nat.le_refl _)).put p7 (Nat.le_refl _)).put p8 (by omega)
  · have h5 : Ints w5 m' ms := Sl.ex hm' e5
    have s1 := e3.size
    refine Sl.blk h5 fun a cs ha hb => ?_
    have := hmo _ (SV.mem_own.2 ⟨a, ha, rfl⟩)
    exact p8.other (by omega) (p7.other (by omega) (p6.other (by omega) hb))
  · have s1 := e3.size
    have s2 := e4.size
    refine Sl.blk hd' fun a cs ha hb => ?_
    have := hdo _ (SV.mem_own.2 ⟨a, ha, rfl⟩)
    exact p8.other (by omega) (p7.other (by omega) (p6.other (by omega) hb))

end
end Rx
end Go.Proofs.YtkoipeddfbeliaaGreat

/-
  The node's functions: to, all, agree, leads.
-/
namespace Go.Proofs.YtkoipeddfbeliaaGreat
namespace Rx
open Go.RowKit Md
set_option maxRecDepth 100000

theorem Fit.withOut {n : Md.Node} (f : Fit n) (o : List Msg) : Fit { n with out := o } := ⟨f.log, f.cf, f.im, f.poll, f.track⟩

theorem TrkOk.get {t : Track} (h : TrkOk t) {x : Nat} {m : Nat × Nat} (hg : t.get x = some m) : m.1 < m.2 ∧ m.2 ≤ 10000000000000000000 := by
  unfold Track.get at hg
  cases hf : t.find? (·.1 == x) with
  | none => rw [hf] at hg; cases hg
  | some p =>
    rw [hf] at hg
    have := h p (List.mem_of_find?_eq_some hf)
    simp at hg; rw [← hg]; exact this
theorem TrkOk.next {t : Track} (h : TrkOk t) (x : Nat) : t.next x ≤ 10000000000000000000 := by
  unfold Track.next
  cases hg : t.get x with
  | none => simp
  | some m => have := h.get hg; simp; omega
theorem TrkOk.mat {t : Track} (h : TrkOk t) (x : Nat) : t.mat x < 10000000000000000000 := by
  unfold Track.mat
  cases hg : t.get x with
  | none => simp
  | some m => have := h.get hg; simp; omega

/-- what is sent to a node -/
def toMsg (n : Md.Node) (x : Nat) : Msg :=
  if (n.track.getD []).next x ≤ n.log.base then ⟨6, n.id, x, n.term, n.log.base, n.log.bterm, 0, false, [], n.img.members⟩
  else ⟨4, n.id, x, n.term, (n.track.getD []).next x - 1, n.log.termD ((n.track.getD []).next x - 1), n.commit, false, n.log.from_ ((n.track.getD []).next x) 8, []⟩
theorem to_eq (n : Md.Node) (x : Nat) : n.to x = { n with out := n.out ++ [toMsg n x] } := by
  unfold Node.to toMsg
  simp only [Node.send]
  split <;> rfl
theorem fold_to : ∀ (l : List Nat) (n : Md.Node), l.foldl (fun (n : Md.Node) x => n.to x) n = { n with out := n.out ++ l.map (toMsg n) }
  | [], n => by simp
  | x :: l, n => by
    rw [List.foldl_cons, fold_to l, to_eq]
    have : toMsg { n with out := n.out ++ [toMsg n x] } = toMsg n := rfl
    simp only [this, List.map_cons, List.append_assoc, List.singleton_append]
theorem all_eq (n : Md.Node) : n.all = { n with since := 0, out := n.out ++ n.others.map (toMsg n) } := by
  unfold Node.all
  rw [fold_to]
  rfl
theorem Fit.all {n : Md.Node} (f : Fit n) : Fit n.all := by rw [all_eq]; exact ⟨f.log, f.cf, f.im, f.poll, f.track⟩
theorem Fit.allOut {n : Md.Node} (f : Fit n) : n.all.out.length ≤ n.out.length + 7 := by rw [all_eq]; have := f.others; simp; omega

section
variable {w : World} {b : Nat} {n : Md.Node} {r : Raw}

theorem to58 (h : NodeR w b n r) (f : Fit n) {t : Track} (ht : n.track = some t) (x : Nat) (hl : n.out.length ≤ 1000000) :
    Calls Tryz.prog 58 #[.pointer (some ⟨b, 0, none⟩), .int .i64 (x : Int)] w fun e w' => e = .returned (.tuple #[]) ∧ Act w w' b r (n.to x) := by
  refine ret (R := fun v w' => v = .tuple #[] ∧ Act w w' b r (n.to x)) (c58 _ x w ?_) (fun v w' ⟨h1, h2⟩ => ⟨by rw [h1], h2⟩)
  obtain ⟨tb, mb, hr, htr, hne⟩ := h.track ht
  have hnx := (f.track t ht).next x
  have htd : n.track.getD [] = t := by rw [ht]; rfl
  unfold F58
  simp only [add_mk, Nat.zero_add]
  refine ⟨some (at0 r.lb), by rw [h.cell]; rfl, (base26 h.sub.log).mono ?_⟩
  rintro _ w1 ⟨rfl, e1⟩
  have h1 := h.ex e1
  refine ⟨_, _, rfl, some (at0 tb), by rw [h1.cell]; simp [cellsN, hr], (next73 (htr.ex e1) x).mono ?_⟩
  rintro _ _ ⟨rfl, rfl⟩
  refine ⟨_, rfl, vif_mk (fun h2 => ?_) fun h2 => ?_⟩
  · have hle : t.next x ≤ n.log.base := by simp at h2; omega
    refine vcells_mk h1.blk (imA n.img.index n.img.term r.im r.dat) rfl (fun j v hj => ?_) ?_
    · have hj4 : j < 4 := (Array.getElem?_eq_some_iff.1 hj).1
      rw [← hj]
      match j, hj4 with
      | 0, _ => rfl
      | 1, _ => rfl
      | 2, _ => rfl
      | 3, _ => rfl
    have hml := goodM_len f.im
    refine (clone28 h1.sub.im h1.sub.dat (by omega) h1.sub.dn).mono ?_
    rintro _ w2 ⟨m', d', rfl, e2, hm', hd'⟩
    refine ⟨_, rfl, rfl, vnew_mk fun w3 e3 s3 b3 => ?_⟩
    have hb3 : Blk w3 w2.heap.size #[.int .u64 0, .int .u64 0, .slice Option.none 0 0, .slice Option.none 0 0] 40 := b3
    refine vstoreN_mk hb3 rfl (by simp) (by simp [imA, isOne]) fun w4 p4 => vdraw_mk fun w5 e5 _ => ?_
    have hb4 : Blk w4 w2.heap.size (imA n.img.index n.img.term m' d') 40 := p4.blk
    have hb5 := e5.blk hb4
    have e25 : Ex w2 w5 := (e3.put p4 (Nat.le_refl _)).trans e5
    have h5 := h1.ex (e2.trans e25)
    refine ⟨n.term, by rw [h5.cell]; rfl, m'.p, m'.n, m'.c, by rw [add_mk, hb5.cell]; rfl, d'.p, d'.n, d'.c, by rw [add_mk, hb5.cell]; rfl, ?_⟩
    have hs := send66 h5 ⟨6, 0, x, n.term, n.log.base, n.log.bterm, 0, false, [], n.img.members⟩ ⟨.nil, m', d', r.data, []⟩ ⟨Ents.zero _, Sl.ex hm' e25, Sl.ex hd' e25, h5.sub.dn⟩ hl
    refine (show _ from hs).mono ?_
    rintro _ w6 ⟨rfl, ha⟩
    refine ⟨rfl, by trivial, ?_⟩
    have := ha.ex ((e1.trans e2).trans e25)
    unfold Node.to
    rw [htd]
    simp only [hle, if_true]
    exact this
  · have hle : ¬ t.next x ≤ n.log.base := by simp at h2; omega
    rw [show IntKind.u64.wrap ((t.next x : Int) - 1) = ((t.next x - 1 : Nat) : Int) by rw [wu (by omega) (by omega)]; omega]
    refine ⟨some (at0 r.lb), by rw [h1.cell]; rfl, (term52 h1.sub.log f.log (t.next x - 1) (by omega)).mono ?_⟩
    rintro _ w2 ⟨⟨c, rfl, _⟩, e2⟩
    have h2' := h1.ex e2
    refine ⟨_, _, rfl, some (at0 r.lb), by rw [h2'.cell]; rfl, (from27 h2'.sub.log f.log (t.next x) 8 (by omega) (by omega)).mono ?_⟩
    rintro _ w3 ⟨q, c3, qs, rfl, e3, hq, hqo⟩
    refine ⟨_, _, _, _, rfl, vdraw_mk fun w4 e4 _ => ?_⟩
    have e14 := (e2.trans e3).trans e4
    have h4 := h1.ex e14
    refine ⟨n.term, by rw [h4.cell]; rfl, n.commit, by rw [h4.cell]; rfl, ?_⟩
    have hs := send66 h4 ⟨4, 0, x, n.term, t.next x - 1, n.log.termD (t.next x - 1), n.commit, false, n.log.from_ (t.next x) 8, []⟩ ⟨q, .nil, .nil, [], qs⟩ ⟨hq.keeps e4.keeps, Sl.zero _ _ _, Sl.zero _ _ _, by simp⟩ hl
    refine (show _ from hs).mono ?_
    rintro _ w5 ⟨rfl, ha⟩
    refine ⟨rfl, by trivial, ?_⟩
    have := ha.ex (e1.trans e14)
    unfold Node.to
    rw [htd]
    simp only [hle, if_false]
    exact this

theorem all29 (h : NodeR w b n r) (f : Fit n) {t : Track} (ht : n.track = some t) (hl : n.out.length ≤ 900000) :
    Calls Tryz.prog 29 #[.pointer (some ⟨b, 0, none⟩)] w fun e w' => e = .returned (.tuple #[]) ∧ Act w w' b r n.all := by
  refine ret (R := fun v w' => v = .tuple #[] ∧ Act w w' b r n.all) (c29 _ w ?_) (fun v w' ⟨h1, h2⟩ => ⟨by rw [h1], h2⟩)
  unfold F29
  simp only [add_mk, Nat.zero_add]
  refine h.stSince 0 fun w1 h1 s1 => ?_
  have f1 : Fit { n with since := 0 } := ⟨f.log, f.cf, f.im, f.poll, f.track⟩
  refine (others57 h1 f1).mono ?_
  rintro _ w2 ⟨s, rfl, hs, e2, ho⟩
  have h2 := h1.ex e2
  have s2 := s1.trans (e2.step _)
  have hol := f.others
  let n0 : Md.Node := { n with since := 0 }
  have hoth : n0.others = n.others := rfl
  refine ⟨_, _, _, rfl, fun vs w' => ∃ j : Nat, vs = [iv j] ∧ j ≤ n.others.length ∧ Act w w' b r ((n.others.take j).foldl (fun (n : Md.Node) x => n.to x) n0) ∧ Ints w' s n.others,
    fun vs _ => match vs with | [.int _ j] => ((n.others.length : Int) - j).toNat | _ => 0, ⟨0, rfl, by omega, ⟨r, h2, s2⟩, hs⟩, ?_⟩
  rintro i w3 ⟨j, hv, hj, ⟨r3, h3, s3⟩, hs3⟩
  simp only [iv, List.cons.injEq, Value.int.injEq, and_true, true_and] at hv
  subst hv
  have hsn := hs3.n
  refine vif_mk (fun h4 => ?_) fun h4 => ?_
  · have hlt : j < n.others.length := by simp at h4; omega
    refine Sl.load hs3 (i := j) (v := iv n.others[j]) (by simp [hlt]) fun a ha => ⟨n.others[j], ha, ?_⟩
    have hfo := fold_to (n.others.take j) n0
    have f3 : Fit ((n.others.take j).foldl (fun (n : Md.Node) x => n.to x) n0) := by rw [hfo]; exact f1.withOut _
    refine (to58 h3 f3 (t := t) (by rw [hfo]; exact ht) n.others[j] (by rw [hfo]; show (n.out ++ _).length ≤ _; simp; omega)).mono ?_
    rintro _ w4 ⟨rfl, r4, h5, s4⟩
    rw [wi (by omega) (by omega)]
    refine ⟨rfl, ⟨j + 1, by simp [iv], hlt, ⟨r4, ?_, s3.trans s4⟩, Sl.keeps hs3 s4.keeps (.inl rfl)⟩, by simp only; omega⟩
    rw [List.take_succ_eq_append_getElem hlt, List.foldl_append]
    exact h5
  · have hjl : j = n.others.length := by simp at h4; omega
    subst hjl
    rw [List.take_of_length_le (Nat.le_refl _)] at h3
    exact ⟨by trivial, r3, h3, s3⟩

theorem closure99 (h : NodeR w b n r) {t : Track} (ht : n.track = some t) {a1 a2 k : Nat} (hb1 : Blk w a1 #[.pointer (some ⟨b, 0, none⟩)] 44) (hb2 : Blk w a2 #[.int .u64 (k : Int)] 26) (x : Nat) :
    vcallv Tryz.prog (.func (.func 99) #[] #[.pointer (some ⟨a1, 0, none⟩), .pointer (some ⟨a2, 0, none⟩)]) [iv x] w fun e w' => e = .returned (uv (if x = n.id then k else (n.track.getD []).mat x)) ∧ Ex w w' := by
  obtain ⟨tb, mb, hr, htr, hne⟩ := h.track ht
  refine vcallv_mk (by kernel_rfl) ?_
  refine ret (R := fun v w' => v = (uv (if x = n.id then k else (n.track.getD []).mat x)) ∧ Ex w w') (c99 x _ _ w ?_) (fun v w' ⟨h1, h2⟩ => ⟨by rw [h1], h2⟩)
  refine ⟨some ⟨b, 0, none⟩, by rw [hb1.cell]; rfl, (?_ : ∃ _, _)⟩
  simp only [add_mk, Nat.zero_add]
  refine ⟨n.id, by rw [h.cell]; rfl, vif_mk (fun h2 => ?_) fun h2 => ?_⟩
  · have : x = n.id := by simp at h2; omega
    exact ⟨k, by rw [hb2.cell]; rfl, by rw [if_pos this]; rfl, Ex.refl _⟩
  · have : ¬ x = n.id := by simp at h2; omega
    refine ⟨some ⟨b, 0, none⟩, by rw [hb1.cell]; rfl, (?_ : ∃ _, _)⟩
    refine ⟨some (at0 tb), by rw [add_mk, h.cell]; simp [cellsN, hr], (match100 htr x).mono ?_⟩
    rintro _ _ ⟨rfl, rfl⟩
    exact ⟨_, rfl, by rw [if_neg this, ht]; rfl, Ex.refl _⟩

theorem agree74 (h : NodeR w b n r) (f : Fit n) {t : Track} (ht : n.track = some t) (hl : n.out.length ≤ 900000) :
    Calls Tryz.prog 74 #[.pointer (some ⟨b, 0, none⟩)] w fun e w' => e = .returned (.tuple #[]) ∧ Act w w' b r n.agree := by
  refine ret (R := fun v w' => v = .tuple #[] ∧ Act w w' b r n.agree) (c74 _ w ?_) (fun v w' ⟨h1, h2⟩ => ⟨by rw [h1], h2⟩)
  unfold F74
  refine vnew_mk fun w1 e1 s1 b1 => ?_
  have hb1 : Blk w1 w.heap.size #[.pointer (some ⟨b, 0, none⟩)] 44 := b1
  have h1 := h.ex e1
  refine ⟨some ⟨b, 0, none⟩, by rw [hb1.cell]; rfl, (?_ : ∃ _, _)⟩
  simp only [add_mk, Nat.zero_add]
  refine ⟨some (at0 r.lb), by rw [h1.cell]; rfl, (last33 h1.sub.log f.log.len).mono ?_⟩
  rintro _ w2 ⟨rfl, e2⟩
  refine ⟨_, _, rfl, vnew_mk fun w3 e3 s3 b3 => ?_⟩
  have hb3' : Blk w3 w2.heap.size #[.int .u64 0] 26 := b3
  refine vstore1_mk hb3' (by simp) fun w4 p4 => ?_
  have hb4 : Blk w4 w2.heap.size #[.int .u64 (n.log.last.1 : Int)] 26 := p4.blk
  have e24 : Ex w2 w4 := e3.put p4 (Nat.le_refl _)
  have e14 : Ex w w4 := (e1.trans e2).trans e24
  have h4 := h.ex e14
  have hb14 := (e2.trans e24).blk hb1
  refine ⟨some ⟨b, 0, none⟩, by rw [hb14.cell]; rfl, (members31 h4 f).mono ?_⟩
  rintro _ w5 ⟨s, rfl, hs, e5, ho⟩
  have hml := f.len
  have hsn := hs.n
  refine ⟨_, _, _, rfl, (agreed98 (q := fun x => if x = n.id then n.log.last.1 else (n.track.getD []).mat x) hs (by omega) fun x _ w6 e6 => closure99 ((h4.ex e5).ex e6) ht (e6.blk (e5.blk hb14)) (e6.blk (e5.blk hb4)) x).mono ?_⟩
  rintro _ w6 ⟨rfl, e6⟩
  have e16 : Ex w w6 := (e14.trans e5).trans e6
  have h6 := h.ex e16
  have hb16 := (e5.trans e6).blk hb14
  generalize hi : Node.agreed n.members (fun x => if x = n.id then n.log.last.1 else (n.track.getD []).mat x) = i
  refine ⟨_, rfl, some ⟨b, 0, none⟩, by rw [hb16.cell]; rfl, (?_ : ∃ _, _)⟩
  have hib : i ≤ 18446744073709551615 := by
    have hlast := f.lastle
    rw [← hi]
    unfold Node.agreed
    split
    · generalize hL : (n.members.map fun x => if x = n.id then n.log.last.1 else (n.track.getD []).mat x) = L
      have hmem : ∀ y ∈ Node.sortN L, y ≤ 18446744073709551615 := by
        intro y hy
        have := (sortN_perm L).mem_iff.1 hy
        rw [← hL] at this
        obtain ⟨x, _, hx⟩ := List.mem_map.1 this
        have := (f.track t ht).mat x
        rw [ht] at hx
        simp only [Option.getD_some] at hx
        split at hx <;> omega
      cases hg : (Node.sortN L)[n.members.length - (n.members.length / 2 + 1)]? with
      | none => simp
      | some y => have := hmem y (List.mem_of_getElem? hg); simpa using this
    · omega
  refine ⟨some (at0 r.lb), h6.at_ 9 rfl, (term52 h6.sub.log f.log i hib).mono ?_⟩
  rintro _ w7 ⟨⟨c, rfl, hc⟩, e7⟩
  have e17 := e16.trans e7
  have h7 := h.ex e17
  have hb17 := e7.blk hb16
  have hno : i ≤ n.commit ∨ n.log.term i ≠ some n.term → n.agree = n := fun hh => by
    unfold Node.agree; rw [hi, if_pos hh]
  refine ⟨_, _, rfl, fun vs w' => vs = [] ∧ w' = w7 ∧ ¬ (i ≤ n.commit ∨ n.log.term i ≠ some n.term), ⟨some ⟨b, 0, none⟩, by rw [hb17.cell]; rfl, (?_ : ∃ _, _)⟩, ?_⟩
  · refine ⟨n.commit, h7.at_ 14 rfl, vif_mk (fun h8 => ⟨by trivial, r, ?_, e17.step _⟩) fun h8 => vif_mk (fun h9 => ⟨by trivial, r, ?_, e17.step _⟩) fun h9 => ⟨some ⟨b, 0, none⟩, by rw [hb17.cell]; rfl, (?_ : ∃ _, _)⟩⟩
    · rw [hno (.inl (by simp at h8; omega))]; exact h7
    · rw [hno (.inr fun hh => ?_)]
      · exact h7
      · have := hc.2 (by rw [hh]; rfl); simp [this] at h9
    · refine ⟨n.term, h7.at_ 4 rfl, vif_mk (fun h10 => ⟨by trivial, r, ?_, e17.step _⟩) fun h10 => ⟨rfl, rfl, ?_⟩⟩
      · rw [hno (.inr fun hh => ?_)]
        · exact h7
        · simp [Log.termD, hh] at h10
      · have h8' : ¬ i ≤ n.commit := by simp at h8; omega
        have h9' : (n.log.term i).isSome := hc.1 (by simpa using h9)
        obtain ⟨t', ht'⟩ := Option.isSome_iff_exists.1 h9'
        have h10' : t' = n.term := by simp [Log.termD, ht'] at h10; omega
        rintro (h11 | h11)
        · exact h8' h11
        · exact h11 (by rw [ht', h10'])
  · rintro w8 ⟨_, rfl, hyes⟩
    have hag : n.agree = (if n.id ∈ (confOf n.log n.img.members i).1 then { n with commit := i }.all else { n with commit := i }.all.follow n.term 0) := by
      unfold Node.agree
      rw [hi, if_neg hyes]
      have ha := all_eq { n with commit := i }
      rw [ha]
    refine ⟨some ⟨b, 0, none⟩, by rw [hb17.cell]; rfl, ?_⟩
    refine vnil_mk ?_
    refine h7.stCommit i fun w9 h9 s9 => ?_
    have f9 : Fit { n with commit := i } := ⟨f.log, f.cf, f.im, f.poll, f.track⟩
    have hfresh : w.heap.size ∉ foot b r := fun hh => by have := h.lt _ hh; omega
    have hx9 := s9.box ⟨hb17, hfresh⟩
    refine ⟨some ⟨b, 0, none⟩, by rw [hx9.1.cell]; rfl, (all29 h9 f9 ht hl).mono ?_⟩
    rintro _ w10 ⟨rfl, r10, h10, s10⟩
    have hx10 := s10.box hx9
    refine ⟨rfl, vdraw_mk fun w11 e11 _ => ?_⟩
    have h11 := h10.ex e11
    have hb11 := e11.blk hx10.1
    have ha := all_eq { n with commit := i }
    have hal : ({ n with commit := i } : Md.Node).all.log = n.log := by rw [ha]
    have hai : ({ n with commit := i } : Md.Node).all.img = n.img := by rw [ha]
    have hac : ({ n with commit := i } : Md.Node).all.commit = i := by rw [ha]
    have hat : ({ n with commit := i } : Md.Node).all.term = n.term := by rw [ha]
    have haid : ({ n with commit := i } : Md.Node).all.id = n.id := by rw [ha]
    have f10 := f9.all
    have s11 := ((e17.step _).trans (s9.trans s10)).trans (e11.step _)
    refine ⟨some ⟨b, 0, none⟩, by rw [hb11.cell]; rfl, (?_ : ∃ _, _)⟩
    refine ⟨some (at0 r10.lb), h11.at_ 9 rfl, some ⟨b, 0, none⟩, by rw [hb11.cell]; rfl, (?_ : ∃ _, _)⟩
    refine ⟨r10.im.p, r10.im.n, r10.im.c, h11.at_ 12 rfl, some ⟨b, 0, none⟩, by rw [hb11.cell]; rfl, (?_ : ∃ _, _)⟩
    refine ⟨({ n with commit := i } : Md.Node).all.commit, h11.at_ 14 rfl, ?_⟩
    rw [hac]
    have hil := goodM_len f10.im
    refine (of51 h11.sub.log f10.log f10.cf h11.sub.im (by have := h11.sub.im.n; omega) i).mono ?_
    rintro _ w12 ⟨q, rfl, hq, e12, hqo⟩
    rw [hal, hai] at hq
    have h12 := h11.ex e12
    have hb12 := e12.blk hb11
    have hcg := goodM_len (confOf_good f.cf f.im i)
    refine ⟨_, _, _, _, rfl, some ⟨b, 0, none⟩, by rw [hb12.cell]; rfl, (?_ : ∃ _, _)⟩
    refine ⟨({ n with commit := i } : Md.Node).all.id, h12.at_ 0 rfl, (has30 hq (by have := hq.n; omega) _).mono ?_⟩
    rintro _ _ ⟨rfl, rfl⟩
    rw [haid]
    refine ⟨_, rfl, vif_mk (fun h13 => vdraw_mk fun w14 e14 _ => ?_) fun h13 => ?_⟩
    · have h14 := h12.ex e14
      have hb14 := e14.blk hb12
      have hni : ¬ n.id ∈ (confOf n.log n.img.members i).1 := by simpa using h13
      refine ⟨some ⟨b, 0, none⟩, by rw [hb14.cell]; rfl, some ⟨b, 0, none⟩, by rw [hb14.cell]; rfl, (?_ : ∃ _, _)⟩
      refine ⟨({ n with commit := i } : Md.Node).all.term, h14.at_ 4 rfl, ?_⟩
      rw [hat]
      refine (follow37 h14 n.term 0).mono ?_
      rintro _ w15 ⟨rfl, r15, h15, s15⟩
      refine ⟨rfl, by trivial, r15, ?_, (s11.trans ((e12.trans e14).step _)).trans s15⟩
      rw [hag, if_neg hni]
      exact h15
    · have hni : n.id ∈ (confOf n.log n.img.members i).1 := by simpa using h13
      refine ⟨by trivial, r10, ?_, s11.trans (e12.step _)⟩
      rw [hag, if_pos hni]
      exact h12

end
end Rx
end Go.Proofs.YtkoipeddfbeliaaGreat

/-
  The node's functions: leads, stands, asks; votes.
-/
namespace Go.Proofs.YtkoipeddfbeliaaGreat
namespace Rx
open Go.RowKit Md
set_option maxRecDepth 100000

theorem add_some {g g' : Log} {t : Nat} {cf : Bool} {data : List UInt8} (ha : g.add t cf data = some g') : g' = { g with l := g.l ++ [⟨g.last.1 + 1, t, cf, data⟩] } ∧ g.last.2 ≤ t ∧ g.l.length < 1024 ∧ data.length ≤ 900 := by
  unfold Log.add at ha
  split at ha
  · cases ha
  · split at ha
    · cases ha
    · split at ha
      · cases ha
      · refine ⟨(Option.some.inj ha).symm, by omega, by omega, by omega⟩
theorem LogOk.add {g g' : Log} (h : LogOk g) {t : Nat} {cf : Bool} {data : List UInt8} (ha : g.add t cf data = some g') : LogOk g' := by
  obtain ⟨rfl, h1, h2, h3⟩ := add_some ha
  refine ⟨fun k x hk => ?_, by simp; omega, h.bnd, fun x hx => ?_⟩
  · simp only at hk ⊢
    rcases Nat.lt_or_ge k g.l.length with hlt | hge
    · rw [List.getElem?_append_left hlt] at hk; exact h.idx k x hk
    · rw [List.getElem?_append_right hge] at hk
      have hlt := (List.getElem?_eq_some_iff.1 hk).1
      have hk0 : k - g.l.length = 0 := by simpa using hlt
      rw [hk0] at hk
      have := h.last
      simp at hk; rw [← hk]; simp only; omega
  · simp only [List.mem_append, List.mem_singleton] at hx
    rcases hx with hx | rfl
    · exact h.data x hx
    · exact h3
theorem ConfOk.add {g g' : Log} (h : ConfOk g) {t : Nat} {cf : Bool} {data : List UInt8} (ha : g.add t cf data = some g') (hc : cf = true → ∃ ms, goodM ms ∧ data = encM ms) : ConfOk g' := by
  obtain ⟨rfl, h1, h2, h3⟩ := add_some ha
  intro x hx hxc
  simp only [List.mem_append, List.mem_singleton] at hx
  rcases hx with hx | rfl
  · exact h x hx hxc
  · exact hc hxc

theorem mem_followT {nodes : List Nat} {last : Nat} : ∀ {l : List Nat} {t : Track} {p : Nat × Nat × Nat}, p ∈ l.foldl (fun (t : Track) n => if t.has n then t else t ++ [(n, 0, last + 1)]) t → p ∈ t ∨ ∃ x, p = (x, 0, last + 1)
  | [], t, p, h => .inl h
  | x :: l, t, p, h => by
    rw [List.foldl_cons] at h
    rcases mem_followT (nodes := nodes) h with h1 | h1
    · split at h1
      · exact .inl h1
      · rcases List.mem_append.1 h1 with h2 | h2
        · exact .inl h2
        · exact .inr ⟨x, by simpa using h2⟩
    · exact .inr h1
theorem TrkOk.follow {t : Track} (h : TrkOk t) (nodes : List Nat) {last : Nat} (hl : last < 10000000000000000000) : TrkOk (t.follow nodes last) := by
  intro p hp
  rcases mem_followT (nodes := nodes) hp with h1 | ⟨x, rfl⟩
  · exact h p (List.mem_filter.1 h1).1
  · simp only; omega

theorem BalOk.vote {b : Ballot} (h : BalOk b) (x : Nat) (yes : Bool) : BalOk (b.vote x yes) := by
  unfold Ballot.vote
  split
  · rename_i hc
    refine ⟨?_, fun y hy => ?_, h.2.2⟩
    · simp only [List.map_append, List.map_cons, List.map_nil]
      rw [List.nodup_append]
      refine ⟨h.1, by simp, fun a ha c hc' hac => ?_⟩
      simp at hc'; subst hc'; subst hac
      exact hc.2.2 ha
    · simp only [List.map_append, List.map_cons, List.map_nil, List.mem_append, List.mem_singleton] at hy
      rcases hy with hy | rfl
      · exact h.2.1 y hy
      · exact hc.2.1
  · exact h
theorem nodup_len : ∀ {l m : List Nat}, l.Nodup → (∀ x ∈ l, x ∈ m) → l.length ≤ m.length
  | [], m, _, _ => by simp
  | x :: l, m, h, hs => by
    have h1 := List.nodup_cons.1 h
    have h2 := nodup_len (m := m.erase x) h1.2 fun y hy => (List.mem_erase_of_ne fun (e : y = x) => h1.1 (e ▸ hy)).2 (hs y (by simp [hy]))
    have hx := hs x (by simp)
    rw [List.length_erase_of_mem hx] at h2
    have := List.length_pos_of_mem hx
    simp; omega
theorem BalOk.len {b : Ballot} (h : BalOk b) : b.votes.length ≤ b.members.length := by have := nodup_len h.1 h.2.1; simpa using this
theorem BalOk.new {l : List Nat} (h : l.length ≤ 7) : BalOk ⟨l, []⟩ := ⟨by simp, by simp, h⟩

theorem Fit.agree {n : Md.Node} (f : Fit n) : Fit n.agree := by
  unfold Node.agree
  simp only
  split
  · exact f
  · have f1 : ∀ i, Fit ({ n with commit := i } : Md.Node).all := fun i => Fit.all ⟨f.log, f.cf, f.im, f.poll, f.track⟩
    generalize hm : ({ n with commit := Node.agreed n.members fun x => if x = n.id then n.log.last.1 else (n.track.getD []).mat x } : Md.Node).all = m
    have f2 : Fit m := by rw [← hm]; exact f1 _
    split
    · exact f2
    · unfold Node.follow
      split <;> exact ⟨f2.log, f2.cf, f2.im, fun b hb => by simp at hb, fun t ht => by simp at ht⟩
theorem Fit.follow {n : Md.Node} (f : Fit n) (t l : Nat) : Fit (n.follow t l) := by
  unfold Node.follow
  simp only
  split <;> exact ⟨f.log, f.cf, f.im, fun b hb => by simp at hb, fun t ht => by simp at ht⟩

section
variable {w : World} {b : Nat} {n : Md.Node} {r : Raw}

theorem leads69 (h : NodeR w b n r) (f : Fit n) (hl : n.out.length ≤ 800000) :
    Calls Tryz.prog 69 #[.pointer (some ⟨b, 0, none⟩)] w fun e w' => e = .returned (.tuple #[]) ∧ Act w w' b r n.leads := by
  refine ret (R := fun v w' => v = .tuple #[] ∧ Act w w' b r n.leads) (c69 _ w ?_) (fun v w' ⟨h1, h2⟩ => ⟨by rw [h1], h2⟩)
  unfold F69
  simp only [add_mk, Nat.zero_add]
  refine ⟨some (at0 r.lb), h.at_ 9 rfl, (last33 h.sub.log f.log.len).mono ?_⟩
  rintro _ w1 ⟨rfl, e1⟩
  have h1 := h.ex e1
  refine ⟨_, _, rfl, n.id, h1.at_ 0 rfl, ?_⟩
  refine h1.stSince 0 fun w2 h2 s2 => h2.stRole 3 fun w3 h3 s3 => h3.stLeader n.id fun w4 h4 s4 => h4.stPoll fun w5 h5 s5 => ?_
  have s15 := (e1.step _).trans (((s2.trans s3).trans s4).trans s5)
  have f5 : Fit { n with since := 0, role := 3, leader := n.id, poll := none } := ⟨f.log, f.cf, f.im, fun b hb => by simp at hb, f.track⟩
  refine (others57 h5 f5).mono ?_
  rintro _ w6 ⟨s, rfl, hs, e6, ho⟩
  have hlast := f.lastle
  have hol : n.others.length ≤ 7 := f.others
  have hon : s.n = n.others.length := hs.n
  refine ⟨_, _, _, rfl, (new95 hs (by omega) n.log.last.1 (by omega)).mono ?_⟩
  rintro _ w7 ⟨tb, mb, rfl, ht, e7, h7a, h7b, h7c⟩
  refine ⟨_, rfl, h5.stTrackN (e6.trans e7) ht (Nat.le_trans e6.size h7a) (Nat.le_trans e6.size h7b) h7c fun w8 h8 s8 => ?_⟩
  have s18 := s15.trans s8
  have htok : TrkOk (Track.follow [] ({ n with since := 0, role := 3, leader := n.id, poll := none } : Md.Node).others n.log.last.1) := TrkOk.follow (t := []) (fun p hp => by simp at hp) _ (by omega)
  generalize htt : Track.follow [] ({ n with since := 0, role := 3, leader := n.id, poll := none } : Md.Node).others n.log.last.1 = t at h8 s8 htok
  have f8 : Fit { n with since := 0, role := 3, leader := n.id, poll := none, track := some t } := ⟨f.log, f.cf, f.im, fun b hb => by simp at hb, fun t' ht' => by simp at ht'; rw [← ht']; exact htok⟩
  have hm : n.leads = match n.log.add n.term false [0, 0, 0] with
      | none => ({ n with since := 0, role := 3, leader := n.id, poll := none, track := some t } : Md.Node).follow n.term 0
      | some g => ({ n with since := 0, role := 3, leader := n.id, poll := none, track := some t, log := g } : Md.Node).all.agree := by
    unfold Node.leads
    simp only [htt]
    cases n.log.add n.term false [0, 0, 0] <;> rfl
  refine vdraw_mk fun w9 e9 _ => ?_
  have h9 := h8.ex e9
  refine ⟨fun w => Ex w9 w, Ex.refl _, some (at0 r.lb), fun w e => (h9.ex e).at_ 9 rfl, n.term, fun w e => (h9.ex e).at_ 4 rfl, nothing96.mono ?_⟩
  rintro _ w10 ⟨d, rfl, e10, hd, hdo⟩
  have h10 := h9.ex e10
  have s110 := s18.trans ((e9.trans e10).step _)
  refine ⟨_, _, _, rfl, e10, (add75 (t := n.term) (cf := false) h10.sub.log f.log hd (by simp)).mono ?_⟩
  cases ha : n.log.add n.term false [0, 0, 0] with
  | none =>
    rw [ha] at hm
    simp only at hm
    rintro _ w11 ⟨⟨c, hc, rfl⟩, e11⟩
    have h11 := h10.ex e11
    refine ⟨_, _, rfl, vif_t (by simpa using hc) ⟨n.term, h11.at_ 4 rfl, (follow37 h11 n.term 0).mono ?_⟩⟩
    rintro _ w12 ⟨rfl, r12, h12, s12⟩
    refine ⟨rfl, by trivial, r12, ?_, (s110.trans (e11.step _)).trans s12⟩
    rw [hm]; exact h12
  | some g =>
    rw [ha] at hm
    simp only at hm
    rintro _ w11 ⟨rfl, s', ps', hl', st⟩
    obtain ⟨h11, s11⟩ := h10.logS hl' st
    have f11 : Fit { n with since := 0, role := 3, leader := n.id, poll := none, track := some t, log := g } := ⟨f.log.add ha, f.cf.add ha (by simp), f.im, fun b hb => by simp at hb, f8.track⟩
    refine ⟨_, _, rfl, vif_f (by simp) ((all29 h11 f11 (t := t) rfl (by show n.out.length ≤ _; omega)).mono ?_)⟩
    rintro _ w12 ⟨rfl, r12, h12, s12⟩
    have hao := f11.allOut
    refine ⟨rfl, (agree74 h12 f11.all (t := t) (by rw [all_eq]) (Nat.le_trans hao (by show n.out.length + 7 ≤ _; omega))).mono ?_⟩
    rintro _ w13 ⟨rfl, r13, h13, s13⟩
    refine ⟨rfl, by trivial, r13, ?_, ((s110.trans s11).trans s12).trans s13⟩
    rw [hm]; exact h13

/-- a new ballot -/
theorem poll60 (h : NodeR w b n r) (f : Fit n) :
    Calls Tryz.prog 60 #[.pointer (some ⟨b, 0, none⟩)] w fun e w' => e = .returned (.int .i64 (n.poll1.pollState : Int)) ∧ Act w w' b r n.poll1 := by
  refine ret (R := fun v w' => v = .int .i64 (n.poll1.pollState : Int) ∧ Act w w' b r n.poll1) (c60 _ w ?_) (fun v w' ⟨h1, h2⟩ => ⟨by rw [h1], h2⟩)
  unfold F60
  simp only [add_mk, Nat.zero_add]
  refine (members31 h f).mono ?_
  rintro _ w1 ⟨s, rfl, hs, e1, ho⟩
  have hml := f.len
  refine ⟨_, _, _, rfl, (new90 hs (by have := hs.n; omega)).mono ?_⟩
  rintro _ w2 ⟨pb, mb, q, rfl, hb, e2, h2a, h2b, h2c⟩
  refine ⟨_, rfl, h.stPollN (e1.trans e2) hb (Nat.le_trans e1.size h2a) (Nat.le_trans e1.size h2b) h2c fun w3 h3 s3 => vdraw_mk fun w4 e4 _ => ?_⟩
  have h4 := h3.ex e4
  obtain ⟨pb', mb', q', hr, hbr, hne⟩ := h4.poll rfl
  simp only [Option.some.injEq, Prod.mk.injEq] at hr
  obtain ⟨rfl, rfl, rfl⟩ := hr
  refine ⟨some (at0 pb), h4.at_ 15 rfl, n.id, h4.at_ 0 rfl, (vote67 hbr hne n.id true).mono ?_⟩
  rintro _ w5 ⟨⟨t, rfl⟩, hb5, st⟩
  obtain ⟨h5, s5⟩ := h4.pollS rfl hb5 st
  have hok : BalOk ((Ballot.mk n.members []).vote n.id true) := (BalOk.new hml).vote _ _
  refine ⟨_, rfl, some (at0 pb), h5.at_ 15 rfl, (state68 hb5 hok.len).mono ?_⟩
  rintro _ w6 ⟨rfl, e6⟩
  exact ⟨_, rfl, rfl, _, h5.ex e6, ((s3.trans (e4.step _)).trans s5).trans (e6.step _)⟩

theorem Fit.poll1 (f : Fit n) : Fit n.poll1 := ⟨f.log, f.cf, f.im, fun b hb => by simp [Node.poll1] at hb; rw [← hb]; exact (BalOk.new f.len).vote _ _, f.track⟩
theorem poll1_out (n : Md.Node) : n.poll1.out = n.out := rfl

theorem stands61 (h : NodeR w b n r) (f : Fit n) (hl : n.out.length ≤ 800000) (ht : n.term ≤ 18000000000000000000) :
    Calls Tryz.prog 61 #[.pointer (some ⟨b, 0, none⟩)] w fun e w' => e = .returned (.tuple #[]) ∧ Act w w' b r n.stands := by
  refine ret (R := fun v w' => v = .tuple #[] ∧ Act w w' b r n.stands) (c61 _ w ?_) (fun v w' ⟨h1, h2⟩ => ⟨by rw [h1], h2⟩)
  unfold F61
  simp only [add_mk, Nat.zero_add]
  refine h.stSince 0 fun w1 h1 s1 => h1.stRole 2 fun w2 h2 s2 => vdraw_mk fun w3 e3 _ => ?_
  have h3 := h2.ex e3
  refine ⟨n.term, h3.at_ 4 rfl, n.id, h3.at_ 0 rfl, ?_⟩
  rw [wu (by omega) (by omega), show ((n.term : Int) + 1) = ((n.term + 1 : Nat) : Int) by omega]
  refine h3.stTerm (n.term + 1) fun w4 h4 s4 => h4.stVote n.id fun w5 h5 s5 => h5.stHard true fun w6 h6 s6 => ?_
  have s16 := ((((s1.trans s2).trans (e3.step _)).trans s4).trans s5).trans s6
  have f6 : Fit { n with since := 0, role := 2, term := n.term + 1, vote := n.id } := ⟨f.log, f.cf, f.im, f.poll, f.track⟩
  refine (poll60 h6 f6).mono ?_
  rintro _ w7 ⟨rfl, r7, h7, s7⟩
  have s17 := s16.trans s7
  refine ⟨_, rfl, vif_mk (fun h8 => (leads69 h7 f6.poll1 hl).mono ?_) fun h8 => ⟨n.term + 1, h7.at_ 4 rfl, ?_⟩⟩
  · rintro _ w8 ⟨rfl, r8, h8', s8⟩
    refine ⟨rfl, by trivial, r8, ?_, s17.trans s8⟩
    unfold Node.stands
    simp only
    rw [if_pos (by simp at h8; exact_mod_cast h8)]
    exact h8'
  · rw [show ((n.term : Int) + 1) = ((n.term + 1 : Nat) : Int) by omega]
    refine (ask62 h7 f6.poll1 2 (n.term + 1) (by rw [poll1_out]; show n.out.length ≤ _; omega)).mono ?_
    rintro _ w8 ⟨rfl, r8, h8', s8⟩
    refine ⟨rfl, by trivial, r8, ?_, s17.trans s8⟩
    unfold Node.stands
    simp only
    rw [if_neg (fun hh => by rw [hh] at h8; simp at h8)]
    exact h8'

theorem asks32 (h : NodeR w b n r) (f : Fit n) (hl : n.out.length ≤ 800000) (ht : n.term ≤ 18000000000000000000) :
    Calls Tryz.prog 32 #[.pointer (some ⟨b, 0, none⟩)] w fun e w' => e = .returned (.tuple #[]) ∧ Act w w' b r n.asks := by
  refine ret (R := fun v w' => v = .tuple #[] ∧ Act w w' b r n.asks) (c32 _ w ?_) (fun v w' ⟨h1, h2⟩ => ⟨by rw [h1], h2⟩)
  unfold F32
  simp only [add_mk, Nat.zero_add]
  refine h.stSince 0 fun w1 h1 s1 => h1.stRole 1 fun w2 h2 s2 => h2.stLeader 0 fun w3 h3 s3 => h3.stTrack fun w4 h4 s4 => ?_
  have s14 := ((s1.trans s2).trans s3).trans s4
  have f4 : Fit { n with since := 0, role := 1, leader := 0, track := none } := ⟨f.log, f.cf, f.im, f.poll, fun t ht => by simp at ht⟩
  refine (poll60 h4 f4).mono ?_
  rintro _ w7 ⟨rfl, r7, h7, s7⟩
  have s17 := s14.trans s7
  refine ⟨_, rfl, vif_mk (fun h8 => (stands61 h7 f4.poll1 hl ht).mono ?_) fun h8 => ⟨n.term, h7.at_ 4 rfl, ?_⟩⟩
  · rintro _ w8 ⟨rfl, r8, h8', s8⟩
    refine ⟨rfl, by trivial, r8, ?_, s17.trans s8⟩
    unfold Node.asks
    simp only
    rw [if_pos (by simp at h8; exact_mod_cast h8)]
    exact h8'
  · rw [wu (by omega) (by omega), show ((n.term : Int) + 1) = ((n.term + 1 : Nat) : Int) by omega]
    refine (ask62 h7 f4.poll1 0 (n.term + 1) (by rw [poll1_out]; show n.out.length ≤ _; omega)).mono ?_
    rintro _ w8 ⟨rfl, r8, h8', s8⟩
    refine ⟨rfl, by trivial, r8, ?_, s17.trans s8⟩
    unfold Node.asks
    simp only
    rw [if_neg (fun hh => by rw [hh] at h8; simp at h8)]
    exact h8'

end
end Rx
end Go.Proofs.YtkoipeddfbeliaaGreat

/-
  The node's functions: what comes about votes; a tick.
-/
namespace Go.Proofs.YtkoipeddfbeliaaGreat
namespace Rx
open Go.RowKit Md
set_option maxRecDepth 100000

section
variable {w : World} {b : Nat} {n : Md.Node} {r : Raw}

theorem askPre35 (h : NodeR w b n r) (f : Fit n) (m : Msg) (x : MD) (hl : n.out.length ≤ 1000000) :
    Calls Tryz.prog 35 #[.pointer (some ⟨b, 0, none⟩), .agg (mvA m x)] w fun e w' => e = .returned (.tuple #[]) ∧ Act w w' b r (n.askPre m) := by
  refine ret (R := fun v w' => v = .tuple #[] ∧ Act w w' b r (n.askPre m)) (c35 _ _ w ?_) (fun v w' ⟨h1, h2⟩ => ⟨by rw [h1], h2⟩)
  unfold F35
  refine vnew_mk fun w1 e1 s1 b1 => ?_
  have hb1 : Blk w1 w.heap.size (mvA m x) 54 := b1
  simp only [add_mk, Nat.zero_add]
  generalize hy : (decide (n.term < m.term) && n.younger m && decide (n.role ≠ 3) && (decide (n.leader = 0) || decide (n.elect ≤ n.since))) = yes
  refine ⟨fun vs w' => vs = [.bool yes] ∧ Ex w1 w', vdraw_mk fun w2 e2 _ => ?_, ?_⟩
  · have h2 := h.ex (e1.trans e2)
    have hb2 := e2.blk hb1
    refine ⟨m.term, hb2.at_ 3 rfl, n.term, h2.at_ 4 rfl, vif_mk (fun h3 => vcells_all hb2 11 rfl ((younger65 h2 f m x).mono ?_)) fun h3 => ⟨?_, e2⟩⟩
    · have h3' : n.term < m.term := by simp at h3; omega
      rintro _ w3 ⟨rfl, e3⟩
      have h3r := h2.ex e3
      have e13 := e2.trans e3
      refine ⟨_, rfl, vif_mk (fun h4 => ⟨n.role, h3r.at_ 6 rfl, vif_mk (fun h5 => ⟨n.leader, h3r.at_ 7 rfl, vif_mk (fun h6 => ⟨?_, e13⟩) fun h6 => ⟨n.since, h3r.at_ 8 rfl, n.elect, h3r.at_ 2 rfl, ?_, e13⟩⟩) fun h5 => ⟨?_, e13⟩⟩) fun h4 => ⟨?_, e13⟩⟩
      · have h5' : n.role ≠ 3 := by simp at h5; omega
        have h6' : n.leader = 0 := by simp at h6; omega
        rw [← hy]; simp [h3', h4, h5', h6']
      · have h5' : n.role ≠ 3 := by simp at h5; omega
        have h6' : ¬ n.leader = 0 := by simp at h6; omega
        rw [← hy]; simp [h3', h4, h5', h6']
      · have h5' : n.role = 3 := by simp at h5; omega
        rw [← hy]; simp [h5']
      · rw [← hy]; simp [h4]
    · have h3' : ¬ n.term < m.term := by simp at h3; omega
      rw [← hy]; simp [h3']
  · rintro bb w2 ⟨hv, e2⟩
    simp only [List.cons.injEq, Value.bool.injEq, and_true] at hv
    subst hv
    have h2 := h.ex (e1.trans e2)
    have hb2 := e2.blk hb1
    have hm : n.askPre m = n.send ⟨1, 0, m.frm, if bb then m.term else n.term, 0, 0, 0, bb, [], []⟩ := by
      unfold Node.askPre; simp only [hy]
    rw [hm]
    refine ⟨n.term, h2.at_ 4 rfl, vif_mk (fun h3 => ⟨m.term, hb2.at_ 3 rfl, m.frm, hb2.at_ 1 rfl, ?_⟩) fun h3 => ⟨m.frm, hb2.at_ 1 rfl, ?_⟩⟩
    · subst h3
      refine (send66' h2 ⟨1, 0, m.frm, m.term, 0, 0, 0, true, [], []⟩ rfl rfl hl rfl).mono ?_
      rintro _ w3 ⟨rfl, ha⟩
      exact ⟨rfl, by trivial, ha.ex (e1.trans e2)⟩
    · subst h3
      refine (send66' h2 ⟨1, 0, m.frm, n.term, 0, 0, 0, false, [], []⟩ rfl rfl hl rfl).mono ?_
      rintro _ w3 ⟨rfl, ha⟩
      exact ⟨rfl, by trivial, ha.ex (e1.trans e2)⟩

theorem tellPre36 (h : NodeR w b n r) (f : Fit n) (m : Msg) (x : MD) (hl : n.out.length ≤ 800000) (ht : n.term ≤ 18000000000000000000) (hp : n.role = 1 → n.poll.isSome) :
    Calls Tryz.prog 36 #[.pointer (some ⟨b, 0, none⟩), .agg (mvA m x)] w fun e w' => e = .returned (.tuple #[]) ∧ Act w w' b r (n.tellPre m) := by
  refine ret (R := fun v w' => v = .tuple #[] ∧ Act w w' b r (n.tellPre m)) (c36 _ _ w ?_) (fun v w' ⟨h1, h2⟩ => ⟨by rw [h1], h2⟩)
  unfold F36
  refine vnew_mk fun w1 e1 s1 b1 => ?_
  have hb1 : Blk w1 w.heap.size (mvA m x) 54 := b1
  simp only [add_mk, Nat.zero_add]
  refine ⟨fun vs w' => vs = [] ∧ Ex w1 w' ∧ ¬ (m.yes = false ∧ n.term < m.term) ∧ ¬ (n.role ≠ 1 ∨ (m.yes = true ∧ m.term ≠ n.term + 1)), ⟨fun vs w' => vs = [.bool (decide (m.yes = false ∧ n.term < m.term))] ∧ Ex w1 w', vdraw_mk fun w2 e2 _ => ?_, ?_⟩, ?_⟩
  · have h2 := h.ex (e1.trans e2)
    have hb2 := e2.blk hb1
    refine ⟨m.yes, hb2.at_ 7 rfl, vif_mk (fun h3 => ⟨m.term, hb2.at_ 3 rfl, n.term, h2.at_ 4 rfl, ?_, e2⟩) fun h3 => ⟨?_, e2⟩⟩
    · have h3' : m.yes = false := by simpa using h3
      simp only [h3', true_and]
      congr 2
      rw [decide_eq_decide]; omega
    · have h3' : m.yes = true := by simpa using h3
      simp [h3']
  · rintro bb w2 ⟨hv, e2⟩
    simp only [List.cons.injEq, Value.bool.injEq, and_true] at hv
    have h2 := h.ex (e1.trans e2)
    have hb2 := e2.blk hb1
    refine vif_mk (fun h3 => ⟨m.term, hb2.at_ 3 rfl, (follow37 h2 m.term 0).mono ?_⟩) fun h3 => vdraw_mk fun w3 e3 _ => ?_
    · have hc : m.yes = false ∧ n.term < m.term := by rw [hv] at h3; simpa using h3
      rintro _ w3 ⟨rfl, ha⟩
      refine ⟨rfl, by trivial, ?_⟩
      unfold Node.tellPre
      rw [if_pos hc]
      exact Act.ex (e1.trans e2) ha
    · have hc : ¬ (m.yes = false ∧ n.term < m.term) := by rw [hv] at h3; simpa using h3
      have h3r := h2.ex e3
      have hb3 := e3.blk hb2
      have e13 := (e1.trans e2).trans e3
      refine ⟨n.role, h3r.at_ 6 rfl, vif_mk (fun h4 => ⟨by trivial, r, ?_, e13.step _⟩) fun h4 => ⟨m.yes, hb3.at_ 7 rfl, vif_mk (fun h5 => ⟨m.term, hb3.at_ 3 rfl, n.term, h3r.at_ 4 rfl, ?_⟩) fun h5 => ⟨rfl, e2.trans e3, hc, ?_⟩⟩⟩
      · have h4' : n.role ≠ 1 := by simp at h4; omega
        unfold Node.tellPre
        rw [if_neg hc, if_pos (.inl h4')]
        exact h3r
      · rw [wu (by omega) (by omega)]
        refine vif_mk (fun h6 => ⟨by trivial, r, ?_, e13.step _⟩) fun h6 => ⟨rfl, e2.trans e3, hc, ?_⟩
        · have h6' : m.term ≠ n.term + 1 := by simp at h6; omega
          unfold Node.tellPre
          rw [if_neg hc, if_pos (.inr ⟨h5, h6'⟩)]
          exact h3r
        · rintro (h7 | ⟨_, h7⟩)
          · simp at h4; omega
          · simp at h6; omega
      · rintro (h7 | ⟨h7, _⟩)
        · simp at h4; omega
        · rw [h7] at h5; cases h5
  · rintro w2 ⟨_, e2, hc1, hc2⟩
    have hr1 : n.role = 1 := Decidable.byContradiction fun hh => hc2 (.inl hh)
    obtain ⟨bal, hbal⟩ := Option.isSome_iff_exists.1 (hp hr1)
    refine vdraw_mk fun w3 e3 _ => ?_
    have e13 := (e1.trans e2).trans e3
    have h3 := h.ex e13
    have hb3 := (e2.trans e3).blk hb1
    obtain ⟨pb, mb, q, hr, hbr, hne⟩ := h3.poll hbal
    refine ⟨some (at0 pb), h3.at_ 15 (by simp [cellsN, hr]), m.frm, hb3.at_ 1 rfl, m.yes, hb3.at_ 7 rfl, (vote67 hbr hne m.frm m.yes).mono ?_⟩
    rintro _ w4 ⟨⟨t, rfl⟩, hb4, st⟩
    obtain ⟨h4, s4⟩ := h3.pollS hr hb4 st
    have hok := (f.poll bal hbal).vote m.frm m.yes
    refine ⟨_, rfl, some (at0 pb), h4.at_ 15 (by simp [cellsN, hr]), (state68 hb4 hok.len).mono ?_⟩
    rintro _ w5 ⟨rfl, e5⟩
    have h5 := h4.ex e5
    have s5 := (e13.step (foot b r)).trans (s4.trans (e5.step _))
    have f5 : Fit { n with poll := some (bal.vote m.frm m.yes) } := ⟨f.log, f.cf, f.im, fun b' hb' => by simp at hb'; rw [← hb']; exact hok, f.track⟩
    have hm : n.tellPre m = if (bal.vote m.frm m.yes).state = 1 then ({ n with poll := some (bal.vote m.frm m.yes) } : Md.Node).stands else if (bal.vote m.frm m.yes).state = 2 then ({ n with poll := some (bal.vote m.frm m.yes) } : Md.Node).follow n.term 0 else { n with poll := some (bal.vote m.frm m.yes) } := by
      unfold Node.tellPre
      rw [if_neg hc1, if_neg hc2]
      simp only [hbal, Option.map_some, Node.pollState]
    rw [hm]
    refine ⟨_, rfl, vif_mk (fun h6 => (stands61 h5 f5 hl ht).mono ?_) fun h6 => vif_mk (fun h7 => ⟨n.term, h5.at_ 4 rfl, (follow37 h5 n.term 0).mono ?_⟩) fun h7 => ⟨by trivial, r, ?_, s5⟩⟩
    · rintro _ w6 ⟨rfl, ha⟩
      refine ⟨rfl, by trivial, ?_⟩
      rw [if_pos (by simp at h6; omega)]
      exact Act.then s5 ha
    · rintro _ w6 ⟨rfl, ha⟩
      refine ⟨rfl, by trivial, ?_⟩
      rw [if_neg (by simp at h6; omega), if_pos (by simp at h7; omega)]
      exact Act.then s5 ha
    · rw [if_neg (by simp at h6; omega), if_neg (by simp at h7; omega)]
      exact h5

theorem tellVote40 (h : NodeR w b n r) (f : Fit n) (m : Msg) (x : MD) (hl : n.out.length ≤ 800000) (hp : n.role = 2 → n.poll.isSome) :
    Calls Tryz.prog 40 #[.pointer (some ⟨b, 0, none⟩), .agg (mvA m x)] w fun e w' => e = .returned (.tuple #[]) ∧ Act w w' b r (n.tellVote m) := by
  refine ret (R := fun v w' => v = .tuple #[] ∧ Act w w' b r (n.tellVote m)) (c40 _ _ w ?_) (fun v w' ⟨h1, h2⟩ => ⟨by rw [h1], h2⟩)
  unfold F40
  refine vnew_mk fun w1 e1 s1 b1 => ?_
  have hb1 : Blk w1 w.heap.size (mvA m x) 54 := b1
  simp only [add_mk, Nat.zero_add]
  have h1 := h.ex e1
  refine ⟨n.role, h1.at_ 6 rfl, vif_mk (fun h2 => ⟨by trivial, r, ?_, e1.step _⟩) fun h2 => ?_⟩
  · have h2' : n.role ≠ 2 := by simp at h2; omega
    unfold Node.tellVote
    rw [if_pos h2']
    exact h1
  · have hr1 : n.role = 2 := by simp at h2; omega
    obtain ⟨bal, hbal⟩ := Option.isSome_iff_exists.1 (hp hr1)
    refine vdraw_mk fun w3 e3 _ => ?_
    have e13 := e1.trans e3
    have h3 := h.ex e13
    have hb3 := e3.blk hb1
    obtain ⟨pb, mb, q, hr, hbr, hne⟩ := h3.poll hbal
    refine ⟨some (at0 pb), h3.at_ 15 (by simp [cellsN, hr]), m.frm, hb3.at_ 1 rfl, m.yes, hb3.at_ 7 rfl, (vote67 hbr hne m.frm m.yes).mono ?_⟩
    rintro _ w4 ⟨⟨t, rfl⟩, hb4, st⟩
    obtain ⟨h4, s4⟩ := h3.pollS hr hb4 st
    have hok := (f.poll bal hbal).vote m.frm m.yes
    refine ⟨_, rfl, some (at0 pb), h4.at_ 15 (by simp [cellsN, hr]), (state68 hb4 hok.len).mono ?_⟩
    rintro _ w5 ⟨rfl, e5⟩
    have h5 := h4.ex e5
    have s5 := (e13.step (foot b r)).trans (s4.trans (e5.step _))
    have f5 : Fit { n with poll := some (bal.vote m.frm m.yes) } := ⟨f.log, f.cf, f.im, fun b' hb' => by simp at hb'; rw [← hb']; exact hok, f.track⟩
    have hm : n.tellVote m = if (bal.vote m.frm m.yes).state = 1 then ({ n with poll := some (bal.vote m.frm m.yes) } : Md.Node).leads else if (bal.vote m.frm m.yes).state = 2 then ({ n with poll := some (bal.vote m.frm m.yes) } : Md.Node).follow n.term 0 else { n with poll := some (bal.vote m.frm m.yes) } := by
      unfold Node.tellVote
      rw [if_neg (by omega)]
      simp only [hbal, Option.map_some, Node.pollState]
    rw [hm]
    refine ⟨_, rfl, vif_mk (fun h6 => (leads69 h5 f5 hl).mono ?_) fun h6 => vif_mk (fun h7 => ⟨n.term, h5.at_ 4 rfl, (follow37 h5 n.term 0).mono ?_⟩) fun h7 => ⟨by trivial, r, ?_, s5⟩⟩
    · rintro _ w6 ⟨rfl, ha⟩
      refine ⟨rfl, by trivial, ?_⟩
      rw [if_pos (by simp at h6; omega)]
      exact Act.then s5 ha
    · rintro _ w6 ⟨rfl, ha⟩
      refine ⟨rfl, by trivial, ?_⟩
      rw [if_neg (by simp at h6; omega), if_pos (by simp at h7; omega)]
      exact Act.then s5 ha
    · rw [if_neg (by simp at h6; omega), if_neg (by simp at h7; omega)]
      exact h5

theorem askVote39 (h : NodeR w b n r) (f : Fit n) (m : Msg) (x : MD) (hl : n.out.length ≤ 1000000) :
    Calls Tryz.prog 39 #[.pointer (some ⟨b, 0, none⟩), .agg (mvA m x)] w fun e w' => e = .returned (.tuple #[]) ∧ Act w w' b r (n.askVote m) := by
  refine ret (R := fun v w' => v = .tuple #[] ∧ Act w w' b r (n.askVote m)) (c39 _ _ w ?_) (fun v w' ⟨h1, h2⟩ => ⟨by rw [h1], h2⟩)
  unfold F39
  refine vnew_mk fun w1 e1 s1 b1 => ?_
  have hb1 : Blk w1 w.heap.size (mvA m x) 54 := b1
  simp only [add_mk, Nat.zero_add]
  generalize hy : ((decide (n.vote = 0) || decide (n.vote = m.frm)) && decide (n.role ≠ 3) && n.younger m) = yes
  refine ⟨fun vs w' => vs = [.bool yes] ∧ Ex w1 w', vdraw_mk fun w2 e2 _ => ?_, ?_⟩
  · have h2 := h.ex (e1.trans e2)
    have hb2 := e2.blk hb1
    refine ⟨n.vote, h2.at_ 5 rfl, vif_mk (fun h3 => ⟨n.role, h2.at_ 6 rfl, vif_mk (fun h4 => vcells_all hb2 11 rfl ((younger65 h2 f m x).mono ?_)) fun h4 => ⟨?_, e2⟩⟩) fun h3 => ⟨n.vote, h2.at_ 5 rfl, m.frm, hb2.at_ 1 rfl, vif_mk (fun h5 => ⟨n.role, h2.at_ 6 rfl, vif_mk (fun h4 => vcells_all hb2 11 rfl ((younger65 h2 f m x).mono ?_)) fun h4 => ⟨?_, e2⟩⟩) fun h5 => ⟨?_, e2⟩⟩⟩
    · have h3' : n.vote = 0 := by simp at h3; omega
      have h4' : n.role ≠ 3 := by simp at h4; omega
      rintro _ w3 ⟨rfl, e3⟩
      refine ⟨_, rfl, ?_, e2.trans e3⟩
      rw [← hy]; simp [h3', h4']
    · have h4' : n.role = 3 := by simp at h4; omega
      rw [← hy]; simp [h4']
    · have h5' : n.vote = m.frm := by simp at h5; omega
      have h4' : n.role ≠ 3 := by simp at h4; omega
      rintro _ w3 ⟨rfl, e3⟩
      refine ⟨_, rfl, ?_, e2.trans e3⟩
      rw [← hy]; simp [h5', h4']
    · have h4' : n.role = 3 := by simp at h4; omega
      rw [← hy]; simp [h4']
    · have h3' : ¬ n.vote = 0 := by simp at h3; omega
      have h5' : ¬ n.vote = m.frm := by simp at h5; omega
      rw [← hy]; simp [h3', h5']
  · rintro bb w2 ⟨hv, e2⟩
    simp only [List.cons.injEq, Value.bool.injEq, and_true] at hv
    subst hv
    have h2 := h.ex (e1.trans e2)
    have hb2 := e2.blk hb1
    have e12 := e1.trans e2
    have hfr : w.heap.size ∉ foot b r := fun hh => by have := h.lt _ hh; omega
    have hm : n.askVote m = (if bb then { n with vote := m.frm, since := 0 } else n).send ⟨3, 0, m.frm, n.term, 0, 0, 0, bb, [], []⟩ := by
      unfold Node.askVote; simp only [hy]
      cases bb <;> rfl
    rw [hm]
    refine vif_mk (fun h3 => vdraw_mk fun w3 e3 _ => ?_) fun h3 => vdraw_mk fun w3 e3 _ => ?_
    · subst h3
      have h3 := h2.ex e3
      have hb3 := e3.blk hb2
      have s3 := (e12.trans e3).step (foot b r)
      refine ⟨r.hard, h3.at_ 18 rfl, vif_mk (fun h4 => ?_) fun h4 => ⟨n.vote, h3.at_ 5 rfl, m.frm, hb3.at_ 1 rfl, ?_⟩⟩
      · refine h3.stHard true fun w4 h4 s4 => ?_
        have x4 := s4.box ⟨hb3, hfr⟩
        refine ⟨m.frm, x4.1.at_ 1 rfl, h4.stVote m.frm fun w5 h5 s5 => h5.stSince 0 fun w6 h6 s6 => vdraw_mk fun w7 e7 _ => ?_⟩
        have x6 := s6.box (s5.box x4)
        have h7 := h6.ex e7
        refine ⟨m.frm, (e7.blk x6.1).at_ 1 rfl, n.term, h7.at_ 4 rfl, ?_⟩
        refine (send66' h7 ⟨3, 0, m.frm, n.term, 0, 0, 0, true, [], []⟩ rfl rfl hl rfl).mono ?_
        rintro _ w8 ⟨rfl, ha⟩
        exact ⟨rfl, by trivial, Act.then ((((s3.trans s4).trans s5).trans s6).trans (e7.step _)) ha⟩
      · refine h3.stHard _ fun w4 h4 s4 => ?_
        have x4 := s4.box ⟨hb3, hfr⟩
        refine ⟨m.frm, x4.1.at_ 1 rfl, h4.stVote m.frm fun w5 h5 s5 => h5.stSince 0 fun w6 h6 s6 => vdraw_mk fun w7 e7 _ => ?_⟩
        have x6 := s6.box (s5.box x4)
        have h7 := h6.ex e7
        refine ⟨m.frm, (e7.blk x6.1).at_ 1 rfl, n.term, h7.at_ 4 rfl, ?_⟩
        refine (send66' h7 ⟨3, 0, m.frm, n.term, 0, 0, 0, true, [], []⟩ rfl rfl hl rfl).mono ?_
        rintro _ w8 ⟨rfl, ha⟩
        exact ⟨rfl, by trivial, Act.then ((((s3.trans s4).trans s5).trans s6).trans (e7.step _)) ha⟩
    · subst h3
      have h3 := h2.ex e3
      have hb3 := e3.blk hb2
      refine ⟨m.frm, hb3.at_ 1 rfl, n.term, h3.at_ 4 rfl, ?_⟩
      refine (send66' h3 ⟨3, 0, m.frm, n.term, 0, 0, 0, false, [], []⟩ rfl rfl hl rfl).mono ?_
      rintro _ w4 ⟨rfl, ha⟩
      exact ⟨rfl, by trivial, ha.ex (e12.trans e3)⟩

theorem tick13 (h : NodeR w b n r) (f : Fit n) (draw : Nat) (hl : n.out.length ≤ 800000) (hs : n.since ≤ 1000000000) (he : 1 ≤ n.elect) (he' : n.elect ≤ 1000) (ht : n.role = 3 → n.track.isSome) :
    Calls Tryz.prog 13 #[.pointer (some ⟨b, 0, none⟩), .int .u64 (draw : Int)] w fun e w' => e = .returned (.tuple #[]) ∧ Act w w' b r (n.tick draw) := by
  refine ret (R := fun v w' => v = .tuple #[] ∧ Act w w' b r (n.tick draw)) (c13 _ draw w ?_) (fun v w' ⟨h1, h2⟩ => ⟨by rw [h1], h2⟩)
  unfold F13
  simp only [add_mk, Nat.zero_add]
  refine ⟨n.since, h.at_ 8 rfl, ?_⟩
  rw [wi (by omega) (by omega), show ((n.since : Int) + 1) = ((n.since + 1 : Nat) : Int) by omega]
  refine h.stSince (n.since + 1) fun w1 h1 s1 => ⟨n.role, h1.at_ 6 rfl, vif_mk (fun h2 => vdraw_mk fun w2 e2 _ => ?_) fun h2 => vdraw_mk fun w2 e2 _ => ?_⟩
  · have hr3 : n.role = 3 := by simp at h2; omega
    obtain ⟨t, htk⟩ := Option.isSome_iff_exists.1 (ht hr3)
    have h2r := h1.ex e2
    have s2 := s1.trans (e2.step _)
    have hm : n.tick draw = if n.beat ≤ n.since + 1 then ({ n with since := n.since + 1 } : Md.Node).all else { n with since := n.since + 1 } := by
      unfold Node.tick; simp only [hr3, if_true]
    rw [hm]
    refine ⟨_, h2r.at_ 8 rfl, n.beat, h2r.at_ 3 rfl, vif_mk (fun h3 => (all29 h2r (t := t) ⟨f.log, f.cf, f.im, f.poll, f.track⟩ htk (by show n.out.length ≤ _; omega)).mono ?_) fun h3 => ⟨by trivial, r, ?_, s2⟩⟩
    · rintro _ w3 ⟨rfl, ha⟩
      refine ⟨rfl, by trivial, ?_⟩
      rw [if_pos (by simp at h3; omega)]
      exact Act.then s2 ha
    · rw [if_neg (by simp at h3; omega)]
      exact h2r
  · have hr3 : n.role ≠ 3 := by simp at h2; omega
    have h2r := h1.ex e2
    have s2 := s1.trans (e2.step _)
    have f2 : Fit { n with since := n.since + 1 } := ⟨f.log, f.cf, f.im, f.poll, f.track⟩
    have hml : n.members.length ≤ 7 := f.len
    have hm : n.tick draw = if n.term < far ∧ n.elect + draw % n.elect ≤ n.since + 1 ∧ n.id ∈ n.members then ({ n with since := n.since + 1 } : Md.Node).asks else { n with since := n.since + 1 } := by
      unfold Node.tick; simp only [hr3, if_false]; rfl
    have hno : ¬ (n.term < far ∧ n.elect + draw % n.elect ≤ n.since + 1 ∧ n.id ∈ n.members) → (True ∧ Act w w2 b r (n.tick draw)) := fun hh => by
      rw [hm, if_neg hh]; exact ⟨trivial, r, h2r, s2⟩
    refine ⟨n.term, h2r.at_ 4 rfl, ?_⟩
    generalize hF : (4611686018427387904 : Int) = F
    refine vif_mk (fun h3 => ?_) fun h3 => ?_
    · have h3' : n.term < far := by simp at h3; unfold far; omega
      refine ⟨((n.since + 1 : Nat) : Int), h2r.at_ 8 rfl, n.elect, h2r.at_ 2 rfl, n.elect, h2r.at_ 2 rfl, ?_⟩
      rw [wu (n := (n.elect : Int)) (by omega) (by omega)]
      refine ⟨by omega, ?_⟩
      have htm : ((draw : Int).tmod (n.elect : Int)) = ((draw % n.elect : Nat) : Int) := by
        rw [Int.tmod_eq_emod_of_nonneg (by omega)]; rfl
      have hlt : draw % n.elect < n.elect := Nat.mod_lt _ (by omega)
      rw [htm, wi (n := ((draw % n.elect : Nat) : Int)) (by omega) (by omega), wi (by omega) (by omega)]
      have key : ∀ {w5 : World}, n.elect + draw % n.elect ≤ n.since + 1 → Ex w2 w5 → vif (decide (n.id ∈ n.members)) (Calls Tryz.prog 32 #[.pointer (some ⟨b, 0, none⟩)] w5 fun e21 w22 => e21 = .returned (.tuple #[]) ∧ (True ∧ Act w w22 b r (n.tick draw)))
          (True ∧ Act w w5 b r (n.tick draw)) := by
        intro w5 hc e5
        have h5 := h2r.ex e5
        have s5 := s2.trans (e5.step _)
        refine vif_mk (fun h6 => (asks32 h5 f2 hl (by show n.term ≤ _; unfold far at h3'; omega)).mono ?_) fun h6 => ?_
        · have h6' : n.id ∈ n.members := by simpa using h6
          rintro _ w6 ⟨rfl, ha⟩
          refine ⟨rfl, trivial, ?_⟩
          rw [hm, if_pos ⟨h3', hc, h6'⟩]
          exact Act.then s5 ha
        · have h6' : ¬ n.id ∈ n.members := by simpa using h6
          rw [hm, if_neg fun hh => h6' hh.2.2]
          exact ⟨trivial, r, h5, s5⟩
      refine vif_mk (fun h4 => ?_) fun h4 => ?_
      · have hc : n.elect + draw % n.elect ≤ n.since + 1 := by simp at h4; omega
        refine ⟨(members31 h2r f2).mono ?_, n.id, h2r.at_ 0 rfl, (members31 h2r f2).mono ?_⟩
        · rintro _ w3 ⟨s, rfl, hs3, e3, ho⟩
          have hs3 : Ints w3 s n.members := hs3
          refine ⟨_, _, _, rfl, n.id, (h2r.ex e3).at_ 0 rfl, (has30 hs3 (by have := hs3.n; omega) n.id).mono ?_⟩
          rintro _ _ ⟨rfl, rfl⟩
          exact ⟨_, rfl, by simpa using key hc e3⟩
        · rintro _ w3 ⟨s, rfl, hs3, e3, ho⟩
          have hs3 : Ints w3 s n.members := hs3
          refine ⟨_, _, _, rfl, (has30 hs3 (by have := hs3.n; omega) n.id).mono ?_⟩
          rintro _ _ ⟨rfl, rfl⟩
          exact ⟨_, rfl, by simpa using key hc e3⟩
      · have hc : ¬ n.elect + draw % n.elect ≤ n.since + 1 := by simp at h4; omega
        have := hno fun hh => hc hh.2.1
        exact ⟨by simpa using this, by simpa using this⟩
    · have h3' : ¬ n.term < far := by simp at h3; unfold far; omega
      have := hno fun hh => h3' hh.1
      exact ⟨by simpa using this, by simpa using this⟩

end
end Rx
end Go.Proofs.YtkoipeddfbeliaaGreat

/-
  The node's functions: entries and images that come; what is told.
-/
namespace Go.Proofs.YtkoipeddfbeliaaGreat
namespace Rx
open Go.RowKit Md
set_option maxRecDepth 100000

/-- what a message's numbers are bound by -/
structure MsgOk (m : Msg) : Prop where
  index : m.index ≤ 9000000000000000000
  ents : m.ents.length ≤ 1000000
  idx : ∀ x ∈ m.ents, x.index ≤ 10000000000000000000
  cf : ∀ x ∈ m.ents, x.conf = true → ∃ ms, goodM ms ∧ x.data = encM ms

theorem put_some {g g' : Log} {i t c : Nat} {l : List Ent} (h : g.put i t l = some (g', c)) : okFollow i t l = true ∧ okLong l = true ∧ g.term i = some t ∧
    (((l.drop (g.known l) = []) ∧ g' = g ∧ c = 0) ∨ ∃ x xs, l.drop (g.known l) = x :: xs ∧ (x.index - g.base - 1) + (x :: xs).length ≤ 1024 ∧ g' = { g with l := g.l.take (x.index - g.base - 1) ++ (x :: xs) } ∧ c = x.index) := by
  unfold Log.put at h
  split at h
  · rename_i hc
    simp only [Bool.and_eq_true, beq_iff_eq] at hc
    refine ⟨hc.1.1, hc.1.2, hc.2, ?_⟩
    split at h
    · rename_i hd
      simp only [Option.some.injEq, Prod.mk.injEq] at h
      exact .inl ⟨hd, h.1.symm, h.2.symm⟩
    · rename_i x xs hd
      split at h
      · cases h
      · rename_i hle
        simp only [Option.some.injEq, Prod.mk.injEq] at h
        exact .inr ⟨x, xs, hd, by omega, h.1.symm, h.2.symm⟩
  · cases h

theorem LogOk.put {g g' : Log} (h : LogOk g) {i t c : Nat} {l : List Ent} (hp : g.put i t l = some (g', c)) : LogOk g' := by
  obtain ⟨h1, h2, h3, ⟨_, rfl, _⟩ | ⟨x, xs, hd, hle, rfl, _⟩⟩ := put_some hp
  · exact h
  · have hlast := h.last
    obtain ⟨hb1, hb2⟩ := term_some h3
    have hget : ∀ k y, (x :: xs)[k]? = some y → y.index = i + (g.known l + k) + 1 := fun k y hk => by
      rw [← hd, List.getElem?_drop] at hk
      exact okFollow_idx h1 _ _ hk
    have hx0 := hget 0 x rfl
    have hkt : ∀ k, k < g.known l → i + k + 1 ≤ g.last.1 := fun k hk => by
      have hkl := known_le g l
      have hlt : k < l.length := by omega
      have h5 := known_term g l k l[k] hk (List.getElem?_eq_getElem hlt)
      have h6 := okFollow_idx h1 k l[k] (List.getElem?_eq_getElem hlt)
      have := (term_some h5).2
      omega
    have hxl : x.index - g.base - 1 ≤ g.l.length := by
      rcases Nat.eq_zero_or_pos (g.known l) with h0 | h0
      · omega
      · have := hkt (g.known l - 1) (by omega); omega
    refine ⟨fun k y hk => ?_, by simp only [List.length_append, List.length_take]; omega, h.bnd, fun y hy => ?_⟩
    · simp only at hk ⊢
      rcases Nat.lt_or_ge k (x.index - g.base - 1) with hlt | hge
      · rw [List.getElem?_append_left (by simp; omega), List.getElem?_take_of_lt hlt] at hk
        exact h.idx k y hk
      · rw [List.getElem?_append_right (by simp; omega)] at hk
        have := hget _ _ hk
        simp only [List.length_take] at this
        omega
    · simp only [List.mem_append] at hy
      rcases hy with hy | hy
      · exact h.data y (List.mem_of_mem_take hy)
      · have : y ∈ l := List.mem_of_mem_drop (by rw [hd]; exact hy)
        have := List.all_eq_true.1 h2 y this
        simpa using this
theorem ConfOk.put {g g' : Log} (h : ConfOk g) {i t c : Nat} {l : List Ent} (hl : ∀ x ∈ l, x.conf = true → ∃ ms, goodM ms ∧ x.data = encM ms) (hp : g.put i t l = some (g', c)) : ConfOk g' := by
  obtain ⟨h1, h2, h3, ⟨_, rfl, _⟩ | ⟨x, xs, hd, hle, rfl, _⟩⟩ := put_some hp
  · exact h
  · intro y hy
    simp only [List.mem_append] at hy
    rcases hy with hy | hy
    · exact h y (List.mem_of_mem_take hy)
    · exact hl y (List.mem_of_mem_drop (by rw [hd]; exact hy))

theorem LogOk.cut {g : Log} (h : LogOk g) {i : Nat} (hi : i ≤ 9000000000000000000) : LogOk (g.cut i) := by
  unfold Log.cut
  cases ht : g.term i with
  | none => exact h
  | some t =>
    obtain ⟨h1, h2⟩ := term_some ht
    have hlen := h.len
    refine ⟨fun k y hk => ?_, by simp; omega, hi, fun y hy => h.data y (List.mem_of_mem_drop hy)⟩
    simp only [List.getElem?_drop] at hk ⊢
    have := h.idx _ _ hk
    omega
theorem ConfOk.cut {g : Log} (h : ConfOk g) (i : Nat) : ConfOk (g.cut i) := by
  unfold Log.cut
  cases g.term i with
  | none => exact h
  | some t => exact fun y hy => h y (List.mem_of_mem_drop hy)

theorem LogOk.new {i t : Nat} (hi : i ≤ 9000000000000000000) : LogOk (Log.new i t) := ⟨fun k x hk => by simp [Log.new] at hk, by simp [Log.new], hi, fun x hx => by simp [Log.new] at hx⟩
theorem ConfOk.new {i t : Nat} : ConfOk (Log.new i t) := fun x hx => by simp [Log.new] at hx

theorem follow_same (n : Md.Node) (l : Nat) : n.follow n.term l = { n with role := 0, leader := l, poll := none, track := none } := by
  unfold Node.follow; simp

section
variable {w : World} {b : Nat} {n : Md.Node} {r : Raw}

theorem append41 (h : NodeR w b n r) (f : Fit n) (m : Msg) (x : MD) (hp : Parts w m x) (hm : MsgOk m) (hl : n.out.length ≤ 1000000) :
    Calls Tryz.prog 41 #[.pointer (some ⟨b, 0, none⟩), .agg (mvA m x)] w fun e w' => e = .returned (.tuple #[]) ∧ Act w w' b r (n.append m) := by
  refine ret (R := fun v w' => v = .tuple #[] ∧ Act w w' b r (n.append m)) (c41 _ _ w ?_) (fun v w' ⟨h1, h2⟩ => ⟨by rw [h1], h2⟩)
  unfold F41
  refine vnew_mk fun w1 e1 s1 b1 => vdraw_mk fun w2 e2 _ => ?_
  have hb1 : Blk w1 w.heap.size (mvA m x) 54 := b1
  have hb2 := e2.blk hb1
  simp only [add_mk, Nat.zero_add]
  have e12 := e1.trans e2
  have h2 := h.ex e12
  have hfr : w.heap.size ∉ foot b r := fun hh => by have := h.lt _ hh; omega
  refine ⟨n.term, h2.at_ 4 rfl, m.frm, hb2.at_ 1 rfl, (follow37 h2 n.term m.frm).mono ?_⟩
  rintro _ w3 ⟨rfl, r3, h3, s3⟩
  have x3 := s3.box ⟨hb2, hfr⟩
  rw [follow_same] at h3
  refine ⟨rfl, h3.stSince 0 fun w4 h4 s4 => vdraw_mk fun w5 e5 _ => ?_⟩
  have x4 := s4.box x3
  have h5 := h4.ex e5
  have hb5 := e5.blk x4.1
  have s5 := (((e12.step (foot b r)).trans s3).trans s4).trans (e5.step _)
  have f5 : Fit { n with role := 0, leader := m.frm, poll := none, track := none, since := 0 } := ⟨f.log, f.cf, f.im, fun b hb => by simp at hb, fun t ht => by simp at ht⟩
  have hmod : n.append m = if m.index < n.commit then ({ n with role := 0, leader := m.frm, poll := none, track := none, since := 0 } : Md.Node).tell 5 m true n.commit
      else match n.log.put m.index m.logTerm m.ents with
        | none => ({ n with role := 0, leader := m.frm, poll := none, track := none, since := 0 } : Md.Node).tell 5 m false (min n.log.last.1 (m.index - 1))
        | some (g, _) => ({ n with role := 0, leader := m.frm, poll := none, track := none, since := 0, log := g, commit := max n.commit (min m.commit (m.index + m.ents.length)) } : Md.Node).tell 5 m true (m.index + m.ents.length) := by
    unfold Node.append
    rw [follow_same]
    dsimp only
    cases n.log.put m.index m.logTerm m.ents <;> rfl
  have hmi := hm.index
  have hme := hm.ents
  refine ⟨m.index, hb5.at_ 4 rfl, n.commit, h5.at_ 14 rfl, vif_mk (fun h6 => vdraw_mk fun w6 e6 _ => ?_) fun h6 => vdraw_mk fun w6 e6 _ => ?_⟩
  · have h6' : m.index < n.commit := by simp at h6; omega
    have h6r := h5.ex e6
    have hb6 := e6.blk hb5
    refine vcells_all hb6 11 rfl ⟨n.commit, h6r.at_ 14 rfl, (tell38 h6r 5 m x true n.commit hl).mono ?_⟩
    rintro _ w7 ⟨rfl, ha⟩
    refine ⟨rfl, by trivial, ?_⟩
    rw [hmod, if_pos h6']
    exact Act.then (s5.trans (e6.step _)) ha
  · have h6' : ¬ m.index < n.commit := by simp at h6; omega
    have h6r := h5.ex e6
    have hb6 := e6.blk hb5
    have s6 := s5.trans (e6.step _)
    have hp6 := hp.keeps s6.keeps
    rw [if_neg h6'] at hmod
    refine ⟨some (at0 r3.lb), h6r.at_ 9 rfl, m.index, hb6.at_ 4 rfl, m.logTerm, hb6.at_ 5 rfl, x.e.p, x.e.n, x.e.c, hb6.at_ 8 rfl, ?_⟩
    refine (put49 h6r.sub.log f.log hp6.e hme m.index m.logTerm (by omega) (fun y hy => by have := hm.idx y hy; omega)).mono ?_
    cases hput : n.log.put m.index m.logTerm m.ents with
    | none =>
      rw [hput] at hmod
      simp only at hmod
      rintro _ w7 ⟨⟨c, hc, rfl⟩, e7⟩
      have h7 := h6r.ex e7
      have hb7 := e7.blk hb6
      refine ⟨_, _, rfl, vif_t (by simpa using hc) ⟨some (at0 r3.lb), h7.at_ 9 rfl, (last33 h7.sub.log f.log.len).mono ?_⟩⟩
      rintro _ w8 ⟨rfl, e8⟩
      have h8 := h7.ex e8
      have hb8 := e8.blk hb7
      refine ⟨_, _, rfl, vcells_all hb8 11 rfl ⟨m.index, hb8.at_ 4 rfl, m.index, hb8.at_ 4 rfl, ?_⟩⟩
      have hsub : IntKind.u64.wrap ((m.index : Int) - (if 1 < (m.index : Int) then 1 else (m.index : Int))) = ((m.index - 1 : Nat) : Int) := by
        split
        · rw [wu (by omega) (by omega)]; omega
        · rw [wu (by omega) (by omega)]; omega
      have hmin : (if ((m.index - 1 : Nat) : Int) < (n.log.last.1 : Int) then ((m.index - 1 : Nat) : Int) else (n.log.last.1 : Int)) = ((min n.log.last.1 (m.index - 1) : Nat) : Int) := by
        split <;> omega
      rw [hsub, hmin]
      refine (tell38 h8 5 m x false _ hl).mono ?_
      rintro _ w9 ⟨rfl, ha⟩
      refine ⟨rfl, by trivial, ?_⟩
      rw [hmod]
      exact Act.then ((s6.trans (e7.step _)).trans (e8.step _)) ha
    | some gc =>
      obtain ⟨g, c⟩ := gc
      rw [hput] at hmod
      simp only at hmod
      rintro _ w7 ⟨rfl, s', ps', hl', st⟩
      obtain ⟨h7, s7⟩ := h6r.logS hl' st
      have x6 : Box w6 (foot b r3) w.heap.size (mvA m x) 54 := ⟨hb6, x4.2⟩
      have x7 := s7.box x6
      have s67 := s6.trans s7
      refine ⟨_, _, rfl, vif_f (by simp) ⟨fun vs w' => vs = [] ∧ ∃ r8, NodeR w' b { n with role := 0, leader := m.frm, poll := none, track := none, since := 0, log := g } r8 ∧ Step (foot b r) (foot b r8) w w' ∧ Box w' (foot b r8) w.heap.size (mvA m x) 54, ?_, ?_⟩⟩
      · refine vif_mk (fun h8 => ⟨_, h7.at_ 20 rfl, h7.stStable _ fun w8 h8 s8 => ⟨rfl, _, h8, s67.trans s8, s8.box x7⟩⟩) fun h8 => ⟨rfl, _, h7, s67, x7⟩
      · rintro w8 ⟨_, r8, h8, s8, x8⟩
        have hen := hp.e.n
        refine ⟨m.index, x8.1.at_ 4 rfl, x.e.p, x.e.n, x.e.c, x8.1.at_ 8 rfl, vdraw_mk fun w9 e9 _ => ?_⟩
        have h9 := h8.ex e9
        have x9 : Box w9 (foot b r8) w.heap.size (mvA m x) 54 := ⟨e9.blk x8.1, x8.2⟩
        refine ⟨n.commit, h9.at_ 14 rfl, m.commit, x9.1.at_ 6 rfl, ?_⟩
        have hw1 : IntKind.u64.wrap ((m.index : Int) + IntKind.u64.wrap ((x.e.n : Nat) : Int)) = ((m.index + m.ents.length : Nat) : Int) := by
          rw [wu (n := ((x.e.n : Nat) : Int)) (by omega) (by omega), wu (by omega) (by omega)]; omega
        rw [hw1]
        have hmx : (if (n.commit : Int) < (if ((m.index + m.ents.length : Nat) : Int) < (m.commit : Int) then ((m.index + m.ents.length : Nat) : Int) else (m.commit : Int)) then (if ((m.index + m.ents.length : Nat) : Int) < (m.commit : Int) then ((m.index + m.ents.length : Nat) : Int) else (m.commit : Int)) else (n.commit : Int)) = ((max n.commit (min m.commit (m.index + m.ents.length)) : Nat) : Int) := by
          split <;> split at * <;> omega
        rw [hmx]
        refine h9.stCommit _ fun w10 h10 s10 => vcells_all (s10.box x9).1 11 rfl ((tell38 h10 5 m x true (m.index + m.ents.length) hl).mono ?_)
        rintro _ w11 ⟨rfl, ha⟩
        refine ⟨rfl, by trivial, ?_⟩
        rw [hmod]
        exact Act.then ((s8.trans (e9.step _)).trans s10) ha

theorem install42 (h : NodeR w b n r) (f : Fit n) (m : Msg) (x : MD) (hp : Parts w m x) (hm : MsgOk m) (hml : m.members.length ≤ 1000000) (hl : n.out.length ≤ 1000000) :
    Calls Tryz.prog 42 #[.pointer (some ⟨b, 0, none⟩), .agg (mvA m x)] w fun e w' => e = .returned (.tuple #[]) ∧ Act w w' b r (n.install m) := by
  refine ret (R := fun v w' => v = .tuple #[] ∧ Act w w' b r (n.install m)) (c42 _ _ w ?_) (fun v w' ⟨h1, h2⟩ => ⟨by rw [h1], h2⟩)
  unfold F42
  refine vnew_mk fun w1 e1 s1 b1 => vdraw_mk fun w2 e2 _ => ?_
  have hb1 : Blk w1 w.heap.size (mvA m x) 54 := b1
  have hb2 := e2.blk hb1
  simp only [add_mk, Nat.zero_add]
  have e12 := e1.trans e2
  have h2 := h.ex e12
  have hfr : w.heap.size ∉ foot b r := fun hh => by have := h.lt _ hh; omega
  refine ⟨n.term, h2.at_ 4 rfl, m.frm, hb2.at_ 1 rfl, (follow37 h2 n.term m.frm).mono ?_⟩
  rintro _ w3 ⟨rfl, r3, h3, s3⟩
  have x3 := s3.box ⟨hb2, hfr⟩
  rw [follow_same] at h3
  refine ⟨rfl, h3.stSince 0 fun w4 h4 s4 => vdraw_mk fun w5 e5 _ => ?_⟩
  have x4 := s4.box x3
  have h5 := h4.ex e5
  have hb5 := e5.blk x4.1
  have s5 := (((e12.step (foot b r)).trans s3).trans s4).trans (e5.step _)
  have hmi := hm.index
  have hmod : n.install m = if m.index ≤ n.commit then ({ n with role := 0, leader := m.frm, poll := none, track := none, since := 0 } : Md.Node).tell 7 m true n.commit
      else ({ n with role := 0, leader := m.frm, poll := none, track := none, since := 0, log := if n.log.term m.index = some m.logTerm then n.log.cut m.index else Log.new m.index m.logTerm, img := ⟨m.index, m.logTerm, m.members⟩, commit := m.index } : Md.Node).tell 7 m true m.index := by
    unfold Node.install
    rw [follow_same]
  refine ⟨m.index, hb5.at_ 4 rfl, n.commit, h5.at_ 14 rfl, vif_mk (fun h6 => vdraw_mk fun w6 e6 _ => ?_) fun h6 => ?_⟩
  · have h6' : m.index ≤ n.commit := by simp at h6; omega
    have h6r := h5.ex e6
    have hb6 := e6.blk hb5
    refine vcells_all hb6 11 rfl ⟨n.commit, h6r.at_ 14 rfl, (tell38 h6r 7 m x true n.commit hl).mono ?_⟩
    rintro _ w7 ⟨rfl, ha⟩
    refine ⟨rfl, by trivial, ?_⟩
    rw [hmod, if_pos h6']
    exact Act.then (s5.trans (e6.step _)) ha
  · have h6' : ¬ m.index ≤ n.commit := by simp at h6; omega
    rw [if_neg h6'] at hmod
    generalize hg : (if n.log.term m.index = some m.logTerm then n.log.cut m.index else Log.new m.index m.logTerm) = g at hmod
    have hgok : LogOk g := by
      rw [← hg]; split
      · exact f.log.cut hmi
      · exact LogOk.new hmi
    refine ⟨fun vs w' => vs = [] ∧ ∃ r8, NodeR w' b { n with role := 0, leader := m.frm, poll := none, track := none, since := 0, log := g } r8 ∧ Step (foot b r) (foot b r8) w w' ∧ Box w' (foot b r8) w.heap.size (mvA m x) 54, vdraw_mk fun w6 e6 _ => ?_, ?_⟩
    · have h6r := h5.ex e6
      have x6 : Box w6 (foot b r3) w.heap.size (mvA m x) 54 := ⟨e6.blk hb5, x4.2⟩
      have s6 := s5.trans (e6.step _)
      refine ⟨some (at0 r3.lb), h6r.at_ 9 rfl, m.index, x6.1.at_ 4 rfl, (term52 h6r.sub.log f.log m.index (by omega)).mono ?_⟩
      rintro _ w7 ⟨⟨c, rfl, hc⟩, e7⟩
      have h7 := h6r.ex e7
      have x7 : Box w7 (foot b r3) w.heap.size (mvA m x) 54 := ⟨e7.blk x6.1, x6.2⟩
      have s7 := s6.trans (e7.step _)
      have hnew : ∀ {w8 : World} {c : Nat}, g = Log.new m.index m.logTerm → w7.heap.size ≤ c → LogR w8 c (Log.new m.index m.logTerm) .nil [] → Ex w7 w8 →
          vstore1 w8 ⟨b, 9, none⟩ (.pointer (some ⟨c, 0, none⟩)) fun w' => ([] : List Value) = [] ∧ ∃ r8, NodeR w' b { n with role := 0, leader := m.frm, poll := none, track := none, since := 0, log := g } r8 ∧ Step (foot b r) (foot b r8) w w' ∧ Box w' (foot b r8) w.heap.size (mvA m x) 54 := by
        intro w8 c hgn hcl hlr e8
        refine h7.stLogN e8 hlr hcl (fun y hy => by simp [SV.own, SV.nil] at hy) fun w9 h9 s9 => ⟨rfl, _, ?_, s7.trans s9, s9.box x7⟩
        rw [hgn]; exact h9
      refine ⟨_, _, rfl, vif_mk (fun h8 => ⟨m.logTerm, x7.1.at_ 5 rfl, vif_mk (fun h9 => vdraw_mk fun w8 e8 _ => ?_) fun h9 => ?_⟩) fun h8 => ?_⟩
      · have hc0 : c = 0 := by simpa using h8
        obtain ⟨t, ht⟩ := Option.isSome_iff_exists.1 (hc.1 hc0)
        have hyes : n.log.term m.index = some m.logTerm := by
          simp [Log.termD, ht] at h9; rw [ht]; congr 1; omega
        rw [if_pos hyes] at hg
        have h8r := h7.ex e8
        have x8 : Box w8 (foot b r3) w.heap.size (mvA m x) 54 := ⟨e8.blk x7.1, x7.2⟩
        refine ⟨some (at0 r3.lb), h8r.at_ 9 rfl, m.index, x8.1.at_ 4 rfl, (cut54 h8r.sub.log f.log m.index (by omega)).mono ?_⟩
        rintro _ w9 ⟨⟨c9, rfl⟩, s', ps', hl', st⟩
        obtain ⟨h9', s9⟩ := h8r.logS hl' st
        refine ⟨_, rfl, rfl, _, ?_, (s7.trans (e8.step _)).trans s9, s9.box x8⟩
        rw [← hg]; exact h9'
      · have hno : ¬ n.log.term m.index = some m.logTerm := fun hh => by
          simp [Log.termD, hh] at h9
        rw [if_neg hno] at hg
        refine ⟨m.index, x7.1.at_ 4 rfl, m.logTerm, x7.1.at_ 5 rfl, (new48 m.index m.logTerm).mono ?_⟩
        rintro _ w8 ⟨c8, rfl, hcl, hlr, e8⟩
        exact ⟨_, rfl, hnew hg.symm hcl hlr e8⟩
      · have hno : ¬ n.log.term m.index = some m.logTerm := fun hh => by
          have := hc.2 (by rw [hh]; rfl); simp [this] at h8
        rw [if_neg hno] at hg
        refine ⟨m.index, x7.1.at_ 4 rfl, m.logTerm, x7.1.at_ 5 rfl, (new48 m.index m.logTerm).mono ?_⟩
        rintro _ w8 ⟨c8, rfl, hcl, hlr, e8⟩
        exact ⟨_, rfl, hnew hg.symm hcl hlr e8⟩
    · rintro w8 ⟨_, r8, h8, s8, x8⟩
      have hp8 := hp.keeps s8.keeps
      refine ⟨m.index, x8.1.at_ 4 rfl, m.logTerm, x8.1.at_ 5 rfl, x.ms.p, x.ms.n, x.ms.c, x8.1.at_ 9 rfl, x.d.p, x.d.n, x.d.c, x8.1.at_ 10 rfl, ?_⟩
      refine (show _ from clone28 (i := m.index) (t := m.logTerm) hp8.ms hp8.d hml hp8.dn).mono ?_
      rintro _ w9 ⟨m', d', rfl, e9, hm', hd'⟩
      have h9 := h8.ex e9
      have x9 : Box w9 (foot b r8) w.heap.size (mvA m x) 54 := ⟨e9.blk x8.1, x8.2⟩
      refine ⟨_, rfl, rfl, ?_⟩
      refine h9.stImg ⟨m.index, m.logTerm, m.members⟩ hm' hd' hp8.dn fun w10 h10 s10 => ?_
      have x10 := s10.box x9
      refine ⟨m.index, x10.1.at_ 4 rfl, h10.stCommit m.index fun w11 h11 s11 => h11.stFresh true fun w12 h12 s12 => ?_⟩
      have x12 := s12.box (s11.box x10)
      refine ⟨some (at0 r8.lb), h12.at_ 9 rfl, (last33 h12.sub.log hgok.len).mono ?_⟩
      rintro _ w13 ⟨rfl, e13⟩
      refine ⟨_, _, rfl, vdraw_mk fun w14 e14 _ => ?_⟩
      have e1314 := e13.trans e14
      have h14 := h12.ex e1314
      have x14 : Box w14 _ w.heap.size (mvA m x) 54 := ⟨e1314.blk x12.1, x12.2⟩
      refine ⟨_, h14.at_ 20 rfl, m.index, x14.1.at_ 4 rfl, h14.stStable _ fun w15 h15 s15 => ?_⟩
      have x15 := s15.box x14
      refine vcells_all x15.1 11 rfl ⟨m.index, x15.1.at_ 4 rfl, (tell38 h15 7 m x true m.index hl).mono ?_⟩
      rintro _ w16 ⟨rfl, ha⟩
      refine ⟨rfl, by trivial, ?_⟩
      rw [hmod]
      exact Act.then ((((((s8.trans (e9.step _)).trans s10).trans s11).trans s12).trans (e1314.step _)).trans s15) ha

theorem has_some {t : Track} {x : Nat} (h : t.has x = true) : ∃ m, t.get x = some m := Option.isSome_iff_exists.1 h
theorem TrkOk.set {t : Track} (h : TrkOk t) (x : Nat) {m : Nat × Nat} (hm : m.1 < m.2 ∧ m.2 ≤ 10000000000000000000) : TrkOk (t.set x m) := by
  intro p hp
  unfold Track.set at hp
  obtain ⟨q, hq, rfl⟩ := List.mem_map.1 hp
  split
  · exact hm
  · exact h q hq
theorem TrkOk.no {t : Track} (h : TrkOk t) (x i : Nat) : TrkOk (t.no x i) := by
  unfold Track.no
  split
  · rename_i hh
    obtain ⟨m, hm⟩ := has_some hh
    have := h.get hm
    simp only
    split
    · exact h
    · have h1 : t.next x = m.2 := by simp [Track.next, hm]
      have h2 : t.mat x = m.1 := by simp [Track.mat, hm]
      exact h.set x (by simp only; omega)
  · exact h
theorem TrkOk.yes {t t' : Track} (h : TrkOk t) {x i : Nat} (hi : i < 10000000000000000000) (hy : t.yes x i = some t') : TrkOk t' := by
  unfold Track.yes at hy
  split at hy
  · rw [← Option.some.inj hy]
    have := h.next x
    exact h.set x (by simp only; omega)
  · cases hy

theorem told43 (h : NodeR w b n r) (f : Fit n) (m : Msg) (x : MD) (hi : m.index ≤ 9000000000000000000) (hl : n.out.length ≤ 800000) (ht : n.role = 3 → n.track.isSome) :
    Calls Tryz.prog 43 #[.pointer (some ⟨b, 0, none⟩), .agg (mvA m x)] w fun e w' => e = .returned (.tuple #[]) ∧ Act w w' b r (n.told m) := by
  refine ret (R := fun v w' => v = .tuple #[] ∧ Act w w' b r (n.told m)) (c43 _ _ w ?_) (fun v w' ⟨h1, h2⟩ => ⟨by rw [h1], h2⟩)
  unfold F43
  refine vnew_mk fun w1 e1 s1 b1 => ?_
  have hb1 : Blk w1 w.heap.size (mvA m x) 54 := b1
  simp only [add_mk, Nat.zero_add]
  have h1 := h.ex e1
  refine ⟨some (at0 r.lb), h1.at_ 9 rfl, (last33 h1.sub.log f.log.len).mono ?_⟩
  rintro _ w2 ⟨rfl, e2⟩
  have h2 := h1.ex e2
  have hb2 := e2.blk hb1
  have s2 := (e1.trans e2).step (foot b r)
  have hfr : w.heap.size ∉ foot b r := fun hh => by have := h.lt _ hh; omega
  refine ⟨_, _, rfl, n.role, h2.at_ 6 rfl, vif_mk (fun h3 => ⟨by trivial, r, ?_, s2⟩) fun h3 => ?_⟩
  · have : n.role ≠ 3 := by simp at h3; omega
    unfold Node.told
    simp only [this, ne_eq, not_false_eq_true, if_true]
    exact h2
  have hr3 : n.role = 3 := by simp at h3; omega
  obtain ⟨t, htk⟩ := Option.isSome_iff_exists.1 (ht hr3)
  have htok := f.track t htk
  have hgd : n.track.getD [] = t := by rw [htk]; rfl
  refine ⟨m.yes, hb2.at_ 7 rfl, vif_mk (fun h4 => vdraw_mk fun w3 e3 _ => ?_) fun h4 => vdraw_mk fun w3 e3 _ => ?_⟩
  · have h4' : m.yes = false := by simpa using h4
    have hmod : n.told m = if (t.no m.frm m.index).has m.frm then ({ n with track := some (t.no m.frm m.index) } : Md.Node).to m.frm else { n with track := some (t.no m.frm m.index) } := by
      unfold Node.told
      simp only [hr3, ne_eq, not_true_eq_false, if_false, h4', if_true, hgd]
    have h3r := h2.ex e3
    have x3 : Box w3 (foot b r) w.heap.size (mvA m x) 54 := ⟨e3.blk hb2, hfr⟩
    obtain ⟨tb, mb, hr, htr, hne⟩ := h3r.track htk
    have hmat := htok.mat m.frm
    refine ⟨some (at0 tb), h3r.at_ 16 (by simp [cellsN, hr]), m.frm, x3.1.at_ 1 rfl, m.index, x3.1.at_ 4 rfl, (no70 htr hne m.frm m.index (by omega) (by omega)).mono ?_⟩
    rintro _ w4 ⟨⟨q, rfl⟩, ht4, st⟩
    obtain ⟨h4r, s4⟩ := h3r.trackS hr ht4 st
    refine ⟨_, rfl, vdraw_mk fun w5 e5 _ => ?_⟩
    have h5 := h4r.ex e5
    have x5 : Box w5 (foot b r) w.heap.size (mvA m x) 54 := ⟨e5.blk (s4.box x3).1, hfr⟩
    have s5 := ((s2.trans (e3.step _)).trans s4).trans (e5.step _)
    refine ⟨some (at0 tb), h5.at_ 16 (by simp [cellsN, hr]), m.frm, x5.1.at_ 1 rfl, (has71 (ht4.ex e5) m.frm).mono ?_⟩
    rintro _ w6 ⟨rfl, e6⟩
    have h6 := h5.ex e6
    have f6 : Fit { n with track := some (t.no m.frm m.index) } := ⟨f.log, f.cf, f.im, f.poll, fun t' ht' => by simp at ht'; rw [← ht']; exact htok.no _ _⟩
    refine ⟨_, rfl, vif_mk (fun h7 => ⟨m.frm, (e6.blk x5.1).at_ 1 rfl, (to58 h6 f6 rfl m.frm (by show n.out.length ≤ _; omega)).mono ?_⟩) fun h7 => ⟨by trivial, r, ?_, s5.trans (e6.step _)⟩⟩
    · rintro _ w7 ⟨rfl, ha⟩
      refine ⟨rfl, by trivial, ?_⟩
      rw [hmod, if_pos h7]
      exact Act.then (s5.trans (e6.step _)) ha
    · rw [hmod, if_neg (by rw [h7]; simp)]
      exact h6
  · have h4' : m.yes = true := by simpa using h4
    have hmod : n.told m = if n.log.last.1 < m.index then n else match t.yes m.frm m.index with
        | none => n
        | some t' => (if t'.next m.frm ≤ n.log.last.1 then ({ n with track := some t' } : Md.Node).to m.frm else { n with track := some t' }).agree := by
      unfold Node.told
      simp only [hr3, ne_eq, not_true_eq_false, if_false, h4', hgd, Bool.true_eq_false]
      cases t.yes m.frm m.index <;> rfl
    have h3r := h2.ex e3
    have x3 : Box w3 (foot b r) w.heap.size (mvA m x) 54 := ⟨e3.blk hb2, hfr⟩
    have s3 := s2.trans (e3.step _)
    refine ⟨m.index, x3.1.at_ 4 rfl, vif_mk (fun h5 => ⟨by trivial, r, ?_, s3⟩) fun h5 => ?_⟩
    · rw [hmod, if_pos (by simp at h5; omega)]; exact h3r
    rw [if_neg (by simp at h5; omega)] at hmod
    obtain ⟨tb, mb, hr, htr, hne⟩ := h3r.track htk
    refine ⟨some (at0 tb), h3r.at_ 16 (by simp [cellsN, hr]), m.frm, x3.1.at_ 1 rfl, m.index, x3.1.at_ 4 rfl, (yes72 htr hne m.frm m.index (by omega)).mono ?_⟩
    rintro _ w4 ⟨rfl, ht4, st⟩
    cases hy : t.yes m.frm m.index with
    | none =>
      rw [hy] at hmod ht4
      obtain ⟨h4r, s4⟩ := h3r.trackS hr ht4 st
      refine ⟨_, rfl, vif_t (by simp) ⟨by trivial, r, ?_, s3.trans s4⟩⟩
      rw [hmod]
      have hnn : ({ n with track := some t } : Md.Node) = n := by rw [← htk]
      simp only [Option.getD_none] at h4r
      rw [hnn] at h4r
      exact h4r
    | some t' =>
      rw [hy] at hmod ht4
      simp only at hmod
      obtain ⟨h4r, s4⟩ := h3r.trackS hr ht4 st
      have htok' : TrkOk t' := htok.yes (by omega) hy
      have f6 : Fit { n with track := some t' } := ⟨f.log, f.cf, f.im, f.poll, fun t2 ht2 => by simp at ht2; rw [← ht2]; exact htok'⟩
      refine ⟨_, rfl, vif_f (by simp) (vdraw_mk fun w5 e5 _ => ?_)⟩
      have h5 := h4r.ex e5
      have x5 : Box w5 (foot b r) w.heap.size (mvA m x) 54 := ⟨e5.blk (s4.box x3).1, hfr⟩
      have s5 := (s3.trans s4).trans (e5.step _)
      refine ⟨some (at0 tb), h5.at_ 16 (by simp [cellsN, hr]), m.frm, x5.1.at_ 1 rfl, (next73 (ht4.ex e5) m.frm).mono ?_⟩
      rintro _ _ ⟨rfl, rfl⟩
      refine ⟨_, rfl, vif_mk (fun h7 => ⟨m.frm, x5.1.at_ 1 rfl, (to58 h5 f6 rfl m.frm (by show n.out.length ≤ _; omega)).mono ?_⟩) fun h7 => (agree74 h5 f6 rfl (by show n.out.length ≤ _; omega)).mono ?_⟩
      · have hle : t'.next m.frm ≤ n.log.last.1 := by simp at h7; omega
        rintro _ w7 ⟨rfl, r7, h7r, s7⟩
        rw [to_eq] at h7r
        refine ⟨rfl, (agree74 h7r (f6.withOut _) rfl (by show (n.out ++ _).length ≤ _; simp; omega)).mono ?_⟩
        rintro _ w8 ⟨rfl, ha⟩
        refine ⟨rfl, by trivial, ?_⟩
        rw [hmod, if_pos hle, to_eq]
        exact Act.then (s5.trans s7) ha
      · have hle : ¬ t'.next m.frm ≤ n.log.last.1 := by simp at h7; omega
        rintro _ w7 ⟨rfl, ha⟩
        refine ⟨rfl, by trivial, ?_⟩
        rw [hmod, if_neg hle]
        exact Act.then s5 ha

end
end Rx
end Go.Proofs.YtkoipeddfbeliaaGreat

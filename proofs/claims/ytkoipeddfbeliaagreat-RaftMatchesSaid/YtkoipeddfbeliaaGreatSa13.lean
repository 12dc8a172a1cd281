import Derived.Test.YtkoipeddfbeliaaGreatSa11
import Derived.Test.YtkoipeddfbeliaaGreatSa12
/-
  The nodes and the net in memory: what a step does, piece by piece.
-/
namespace Go.Proofs.YtkoipeddfbeliaaGreat
namespace Rx
open Go.RowKit Md
set_option maxRecDepth 100000

theorem local_msg {w : World} {v : Array Value} {K : Addr → World → Prop} (hv : v.size = 11) (ho : ∀ x ∈ v.toList, isOne x = true) (hK : ∀ c w', Ex w w' → w.heap.size ≤ c → Blk w' c v 54 → K ⟨c, 0, none⟩ w') :
    vnew w (.cells #[.int .i64 0, .int .i64 0, .int .i64 0, .int .u64 0, .int .u64 0, .int .u64 0, .int .u64 0, .bool false, .slice Option.none 0 0, .slice Option.none 0 0, .slice Option.none 0 0] 54) fun a w1 => vstoreN w1 a 11 v fun w2 => K a w2 := by
  refine vnew_mk fun w1 e1 s1 b1 => ?_
  refine vstoreN_mk (cs := #[.int .i64 0, .int .i64 0, .int .i64 0, .int .u64 0, .int .u64 0, .int .u64 0, .int .u64 0, .bool false, .slice Option.none 0 0, .slice Option.none 0 0, .slice Option.none 0 0]) b1 hv (by simp) ho fun w2 p => hK _ _ (e1.put p (Nat.le_refl _)) (Nat.le_refl _) ?_
  have hb := p.blk
  have : (setMany [Value.int .i64 0, .int .i64 0, .int .i64 0, .int .u64 0, .int .u64 0, .int .u64 0, .int .u64 0, .bool false, .slice Option.none 0 0, .slice Option.none 0 0, .slice Option.none 0 0] 0 v.toList).toArray = v := by
    obtain ⟨l⟩ := v
    match l, hv with
    | [x0, x1, x2, x3, x4, x5, x6, x7, x8, x9, x10], _ => rfl
  simpa [this] using hb

theorem one_mv (m : Msg) (x : MD) : ∀ v ∈ (mvA m x).toList, isOne v = true := by
  intro v hv
  exact one_mc [(m, x)] v (by simpa [mvA, mc] using hv)

section
variable {w0 w w' : World} {b N lm am : Nat} {wl : Sf.Wl} {rs : List (Nat × Raw)} {sn sc st cm : SV} {ops : List (Msg × MD)} {L : List (Nat × Nat)} {A : List (Nat × Ent × SV)} {PL : Nat → Nat → Prop} {PA : Nat → Ent → Prop}

theorem WOk.of {wl' : Sf.Wl} {rs' : List (Nat × Raw)} {st' sn' : SV} {ops' : List (Msg × MD)} (h : WR w' b wl' N rs' sn' sc st' cm ops' lm am L A) (low : ∀ x ∈ ownW b sn sc st lm am rs, w0.heap.size ≤ x) (e : Ex w0 w) (s : Step (ownW b sn sc st lm am rs) (ownW b sn' sc st' lm am rs') w w')
    (hL : ∀ p ∈ L, PL p.1 p.2) (hA : ∀ p ∈ A, PA p.1 p.2.1) : WOk w0 w' b wl' N PL PA :=
  ⟨rs', sn', sc, st', cm, ops', lm, am, L, A, h, fun x hx => (s.own x hx).elim (low x) fun hh => Nat.le_trans e.size hh, e.fr' s.fr low, hL, hA⟩

/-- a node is another one, that is new -/
theorem WR.nodeNew (h : WR w b wl N rs sn sc st cm ops lm am L A) {i : Nat} {p : Nat × Raw} (hi : rs[i]? = some p) {b' : Nat} {r' : Raw} {n' : Md.Node} {w1 : World} (e : Ex w w1) (hn : NodeR w1 b' n' r') (hf : ∀ x ∈ foot b' r', w.heap.size ≤ x) {K : World → Prop}
    (hK : ∀ w', WR w' b { wl with ns := wl.ns.set i n' } N (rs.set i (b', r')) sn sc st cm ops lm am L A → Step (ownW b sn sc st lm am rs) (ownW b sn sc st lm am (rs.set i (b', r'))) w w' → K w') :
    vidx sn.p sn.n (i : Int) fun a => vstore1 w1 (a.add ((i : Int).toNat * 1)) (.pointer (some ⟨b', 0, none⟩)) K := by
  obtain ⟨H, T, o1, o2, o3, o4⟩ := own_split b sn sc st lm am rs hi
  have h1 := h.ex e
  have hnd := h.nd
  have hlt := h.lt
  rw [o1] at hnd
  have hout := nodup_out hnd
  have hil := (List.getElem?_eq_some_iff.1 hi).1
  have hsn : i < sn.n := by have := h.nodes.len; simp at this; omega
  refine Sl.store h1.nodes hsn fun w' hs fr sz kk => ?_
  have k := kk (by decide)
  -- the block of the row of nodes is nobody else's
  have hsn' : ∀ x ∈ b :: (sc.own ++ (st.own ++ (lm :: am :: rs.flatMap ftp))), x ∉ sn.own := fun x hx hh => by
    have q := h.nd
    have o : ownW b sn sc st lm am rs = [b] ++ (sn.own ++ (sc.own ++ (st.own ++ (lm :: am :: rs.flatMap ftp)))) := by simp [ownW]
    rw [o] at q
    obtain ⟨q1, q2⟩ := nodup_out q x hh
    rcases List.mem_cons.1 hx with rfl | hx
    · exact q1 (by simp)
    · exact q2 hx
  have hfo : ∀ (j : Nat) (q : Nat × Raw), rs[j]? = some q → ∀ x ∈ ftp q, x ∉ sn.own := fun j q hq x hx => hsn' x (by
    simp only [List.mem_cons, List.mem_append]
    exact .inr (.inr (.inr (.inr (.inr (List.mem_flatMap.2 ⟨q, List.mem_of_getElem? hq, hx⟩)))))) 
  have hns : ∀ x ∈ foot b' r', x ∉ sn.own := fun x hx hh => by
    have := hf x hx
    have := h.nodes.own_lt x hh
    omega
  refine hK w' ⟨fr.blk h1.blk (hsn' b (by simp)), ?_, h1.conf.fr fr fun x hx => hsn' x (by simp [hx]), Sl.keeps h1.cms k (.inl rfl), h1.net.step k fr fun x hx => hsn' x (by simp [hx]), h1.lead.fr fr (hsn' _ (by simp)), h1.agr.fr fr (hsn' _ (by simp)), fun q hq => Sl.keeps (h1.ab q hq) k (.inr rfl), fun j q hj => ?_, ⟨by simp [h.len.1], by simp [h.len.2]⟩, ?_⟩
    ⟨(e.fr _).trans (fr.mono fun x hx => ?_), e.keeps.trans k, fun x hx => ?_⟩
  · have : (rs.set i (b', r')).map (fun p => Value.pointer (some ⟨p.1, 0, none⟩)) = (rs.map fun p => Value.pointer (some ⟨p.1, 0, none⟩)).set i (.pointer (some ⟨b', 0, none⟩)) := by rw [List.map_set]
    rw [this]; exact hs
  · rw [List.getElem?_set] at hj
    by_cases hij : i = j
    · subst hij
      simp only [if_true, hil] at hj
      have hq := Option.some.inj hj
      subst hq
      have : i < wl.ns.length := by rw [h.len.2, ← h.len.1]; exact hil
      exact ⟨n', by simp [this], hn.step k fr hns⟩
    · simp only [hij, if_false] at hj
      obtain ⟨n, q1, q2⟩ := h1.node j q hj
      exact ⟨n, by rw [List.getElem?_set_ne hij]; exact q1, q2.step k fr (hfo j q hj)⟩
  · rw [o2]
    refine nodup_swap (X' := ftp (b', r')) hnd hn.nd fun x hx => ?_
    have hfx := hf x hx
    constructor
    · intro hc; have := hlt x (by rw [o1]; exact List.mem_append_left _ hc); omega
    · intro hc; have := hlt x (by rw [o1]; exact List.mem_append_right _ (List.mem_append_right _ hc)); omega
  · simp [ownW, hx]
  · rw [o2] at hx
    rw [o1]
    rcases List.mem_append.1 hx with hx | hx
    · exact .inl (List.mem_append_left _ hx)
    · rcases List.mem_append.1 hx with hx | hx
      · exact .inr (hf x hx)
      · exact .inl (List.mem_append_right _ (List.mem_append_right _ hx))

/-- the net without one message -/
theorem WR.cutNet (h : WR w b wl N rs sn sc st cm ops lm am L A) {a : Nat} (ha : a < wl.net.length) (hl : wl.net.length ≤ 100000) {K : World → Prop}
    (hK : ∀ w' st' ops', WR w' b { wl with net := wl.net.take a ++ wl.net.drop (a + 1) } N rs sn sc st' cm ops' lm am L A → Step (ownW b sn sc st lm am rs) (ownW b sn sc st' lm am rs) w w' → (∀ k ds ty, k ≠ b → Blk w k ds ty → Blk w' k ds ty) → K w') :
    ∃ (J : World → Prop), J w ∧ ∃ (s35 : Option Addr) (s35n s35c : Nat), w.cell? ⟨b, 2, none⟩ = some (.slice s35 s35n s35c) ∧ vslice 11 s35 s35n s35c none (some (.int .i64 (a : Int))) none fun s36 s36n _ => ∃ (s37 : Option Addr) (s37n s37c : Nat), (∀ w, J w → w.cell? ⟨b, 2, none⟩ = some (.slice s37 s37n s37c)) ∧
      vslice 11 s37 s37n s37c (some (.int .i64 (IntKind.i64.wrap ((a : Int) + 1)))) none none fun s38 s38n _ => (#[.int .i64 0, .int .i64 0, .int .i64 0, .int .u64 0, .int .u64 0, .int .u64 0, .int .u64 0, .bool false, .slice Option.none 0 0, .slice Option.none 0 0, .slice Option.none 0 0] : Array Value).size = 11 ∧
        vnew w (.cells #[] 54) fun a39 w40 => J w40 ∧ vappend Tryz.prog 54 w40 (some a39) 0 0 s36 s36n fun s41 s41n s41c w42 => J w42 ∧ vappend Tryz.prog 54 w42 s41 s41n s41c s38 s38n fun s43 s43n s43c w44 => vstore1 w44 ⟨b, 2, none⟩ (.slice s43 s43n s43c) K := by
  have hn := h.net.n
  have hlen : ops.length = wl.net.length := by rw [← h.net.fst]; simp
  have hcap := h.net.sl.cap
  refine ⟨fun w' => Ex w w', Ex.refl _, st.p, st.n, st.c, h.blk.at_ 2 rfl, ?_⟩
  refine vslice_mk 0 a st.c (fun G hG => hG) (fun G hG => ⟨by omega, by omega, by simpa using hG⟩) (fun G hG => hG) (.inr (by simp)) (fun _ => rfl) ?_
  have hc1 := h.net.sl.cut (l := 0) (h := a) (m := st.c) (by omega) (by omega) (by omega) (Nat.le_refl _)
  refine ⟨st.p, st.n, st.c, fun w1 e1 => (h.ex e1).blk.at_ 2 rfl, ?_⟩
  rw [wi (by omega) (by omega)]
  refine vslice_mk (a + 1) st.n st.c (fun G hG => ⟨by omega, by omega, by simpa using hG⟩) (fun G hG => hG) (fun G hG => hG) (.inl rfl) (fun _ => rfl) ⟨by simp, ?_⟩
  have hc2 := h.net.sl.cut (l := a + 1) (h := st.n) (m := st.c) (by omega) (Nat.le_refl _) hcap (Nat.le_refl _)
  refine vnew_mk fun w1 e1 s1 b1 => ⟨e1, ?_⟩
  have hb1 : Blk w1 w.heap.size #[] 54 := b1
  have hd1 : Sl w1 54 11 ⟨some ⟨w.heap.size, 0, none⟩, 0, 0⟩ [] := Sl.of_blk (n := 0) hb1 rfl
  have ht1 : (ops.flatMap mc).take (a * 11) = (ops.take a).flatMap mc := flat_take mc_len ops a
  have hq1 : Sl w1 54 11 (st.cut 11 0 a st.c) ((ops.take a).flatMap mc) := by
    have := hc1.ex e1
    simpa [ht1] using this
  refine app54 (q := st.cut 11 0 a st.c) hd1 hq1 (one_mc _) (by simp [SV.cut]; omega) fun r1 w2 hr1 hr1n g1 => ?_
  obtain ⟨e2, ho1⟩ := g1.ex e1 (fun x hx => by simp [SV.own] at hx; omega)
  refine ⟨e2, ?_⟩
  have ht2 : ((ops.flatMap mc).drop ((a + 1) * 11)).take ((st.n - (a + 1)) * 11) = (ops.drop (a + 1)).flatMap mc := by
    rw [flat_drop mc_len, List.take_of_length_le]
    rw [flat_len mc_len]; simp; omega
  have hq2 : Sl w2 54 11 (st.cut 11 (a + 1) st.n st.c) ((ops.drop (a + 1)).flatMap mc) := by
    have := hc2.ex e2
    rwa [ht2] at this
  refine app54 (q := st.cut 11 (a + 1) st.n st.c) hr1 hq2 (one_mc _) (by simp only [SV.cut] at hr1n ⊢; simp only [hr1n]; omega) fun r2 w3 hr2 hr2n g2 => ?_
  obtain ⟨e3, ho2⟩ := g2.ex e2 ho1
  have hb3 := e3.blk h.blk
  refine vstore1_mk hb3 (by simp [cellsW]) fun w4 p4 => ?_
  have k34 := p4.keeps hb3 (by decide)
  have k := e3.keeps.trans k34
  have f : Fr (b :: st.own) w w4 := (e3.fr _).trans (p4.fr (by simp))
  have hm : Msgs w4 r2 (wl.net.take a ++ wl.net.drop (a + 1)) (ops.take a ++ ops.drop (a + 1)) := by
    refine ⟨by rw [List.map_append, List.map_take, List.map_drop, h.net.fst], ?_, fun p hp => ?_⟩
    · rw [List.flatMap_append]
      refine Sl.blk (by simpa using hr2) fun x cs hx hbx => p4.other (fun hh => ?_) hbx
      have := ho2 _ (SV.mem_own.2 ⟨x, hx, rfl⟩)
      have := h.blk.lt
      omega
    · have hp' : p ∈ ops := by
        rcases List.mem_append.1 hp with hp | hp
        · exact List.mem_of_mem_take hp
        · exact List.mem_of_mem_drop hp
      exact (h.net.parts p hp').keeps k
  obtain ⟨hw, hs⟩ := h.netStep hm k f p4.blk fun x hx => .inr (ho2 x hx)
  exact hK w4 r2 _ hw hs fun c ds ty hc hb => p4.other hc (e3.blk hb)

end
end Rx
end Go.Proofs.YtkoipeddfbeliaaGreat

/-
  The nodes and the net in memory: a step.
-/
namespace Go.Proofs.YtkoipeddfbeliaaGreat
namespace Rx
open Go.RowKit Md
set_option maxRecDepth 100000

theorem okFollow_mk : ∀ (l : List Ent) (i t : Nat), (∀ (k : Nat) (x : Ent), l[k]? = some x → x.index = i + k + 1) → (∀ x ∈ l, t ≤ x.term) → (∀ (j k : Nat) (x y : Ent), j ≤ k → l[j]? = some x → l[k]? = some y → x.term ≤ y.term) → okFollow i t l = true
  | [], _, _, _, _, _ => rfl
  | x :: l, i, t, h1, h2, h3 => by
    have hx := h1 0 x rfl
    simp only [okFollow, Bool.and_eq_true, beq_iff_eq, decide_eq_true_eq]
    refine ⟨⟨by omega, h2 x (by simp)⟩, okFollow_mk l x.index x.term (fun k y hk => ?_) (fun y hy => ?_) fun j k y z hjk hy hz => h3 (j + 1) (k + 1) y z (by omega) (by simpa using hy) (by simpa using hz)⟩
    · have := h1 (k + 1) y (by simpa using hk); omega
    · obtain ⟨k, hk⟩ := List.mem_iff_getElem?.1 hy
      exact h3 0 (k + 1) x y (by omega) rfl (by simpa using hk)

section
variable {g : Sf.G} {x : Nat} {n : Md.Node}
theorem node_follow (gi : Sf.GInv g) (h : Sf.NodeInv g x n) : okFollow n.img.index n.img.term n.log.l = true := by
  have hb := h.log.base
  refine okFollow_mk _ _ _ (fun k y hk => ?_) (fun y hy => ?_) fun j k y z hjk hy hz => ?_
  · rw [h.log.l, List.getElem?_drop] at hk
    have := h.log.idx _ _ hk
    have := h.img.1; omega
  · obtain ⟨k, hk⟩ := List.mem_iff_getElem?.1 hy
    rw [h.log.l, List.getElem?_drop] at hk
    rw [h.img.2.1, h.log.bterm]
    unfold Sf.termAt
    split
    · omega
    · cases hx : (g.full x)[n.log.base - 1]? with
      | none => simp
      | some z => exact Sf.Gd.mono gi h.gd _ _ z y (by omega) hx hk
  · rw [h.log.l, List.getElem?_drop] at hy hz
    exact Sf.Gd.mono gi h.gd _ _ y z (by omega) hy hz
theorem node_anew (h : Sf.NodeInv g x n) {N : Nat} (hc : g.C0 = Sf.firstM N) (hm : n.img.members ≠ []) : n.anew = newN x (Sf.firstM N) 4 2 n.term n.vote n.img n.log.l := by
  unfold Node.anew newN
  rw [if_neg hm, h.id, h.cfg.1, h.cfg.2.1, h.cfg.2.2, hc]
end

/-- what holds of the nodes and the net between steps -/
structure Good (g : Sf.G) (wl : Sf.Wl) (N : Nat) : Prop where
  inv : Sf.Inv g wl
  B : g.B ≤ 900
  outs : ∀ n ∈ wl.ns, n.out = []
  net : wl.net.length ≤ 200
  c0 : g.C0 = Sf.firstM N
  N1 : 1 ≤ N ∧ N ≤ 7
  len : wl.ns.length = N

theorem act_one (wl : Sf.Wl) {i : Nat} {n : Md.Node} (hn : wl.ns[i]? = some n) (kind : Int) (draw : Nat) : wl.act kind i draw =
    let a := draw % wl.net.length
    if kind = 0 then { wl with ns := wl.ns.set i (n.tick draw) }
    else if 0 < kind ∧ kind ≤ 3 ∧ wl.net ≠ [] then
      match wl.net[a]? with
      | none => wl
      | some m =>
        match wl.ns[m.to - 1]? with
        | none => { wl with net := wl.net.take a ++ wl.net.drop (a + 1) }
        | some n' => ⟨wl.ns.set (m.to - 1) (n'.step m), wl.net.take a ++ wl.net.drop (a + 1)⟩
    else if kind = 4 ∧ wl.net ≠ [] then { wl with net := wl.net.take a ++ wl.net.drop (a + 1) }
    else if kind = 5 ∧ wl.net ≠ [] then { wl with net := wl.net ++ (wl.net[a]?).toList }
    else if kind = 6 then { wl with ns := wl.ns.set i (n.propose [UInt8.ofNat draw, UInt8.ofNat (draw / 256)]).1 }
    else if kind = 7 then { wl with ns := wl.ns.set i (n.change (Sf.bitsN draw)) }
    else if kind = 8 then { wl with ns := wl.ns.set i (n.compact n.commit) }
    else if kind = 9 then { wl with ns := wl.ns.set i n.anew }
    else wl := by
  unfold Sf.Wl.act
  rw [hn]
  rfl

theorem flat_set {l : List Md.Node} {i : Nat} {n n' : Md.Node} (hn : l[i]? = some n) (ho : ∀ m ∈ l, m.out = []) (hl : n'.out.length ≤ 14) : ((l.set i n').flatMap (·.out)).length ≤ 14 := by
  have hlt := (List.getElem?_eq_some_iff.1 hn).1
  have e1 : l.set i n' = l.take i ++ n' :: l.drop (i + 1) := by rw [List.set_eq_take_append_cons_drop, if_pos hlt]
  have z1 : ∀ k : List Md.Node, (∀ m ∈ k, m.out = []) → k.flatMap (·.out) = [] := fun k hk => by
    rw [List.flatMap_eq_nil_iff]; exact hk
  rw [e1, List.flatMap_append, List.flatMap_cons, z1 _ fun m hm => ho m (List.mem_of_mem_take hm), z1 _ fun m hm => ho m (List.mem_of_mem_drop hm)]
  simpa using hl

/-- what is sent in a step -/
theorem Good.sent {g : Sf.G} {wl : Sf.Wl} {N : Nat} (h : Good g wl N) (kind : Int) (i draw : Nat) : ((wl.act kind i draw).ns.flatMap (·.out)).length ≤ 14 ∧ (wl.act kind i draw).net.length ≤ 201 := by
  have hnet := h.net
  have hz : (wl.ns.flatMap (·.out)).length ≤ 14 := by
    have : wl.ns.flatMap (·.out) = [] := by rw [List.flatMap_eq_nil_iff]; exact h.outs
    rw [this]; simp
  cases hn : wl.ns[i]? with
  | none =>
    have : wl.act kind i draw = wl := by unfold Sf.Wl.act; rw [hn]
    rw [this]; exact ⟨hz, by omega⟩
  | some n =>
    have fit : ∀ {j : Nat} {m : Md.Node}, wl.ns[j]? = some m → Fit m := fun {j m} hj => (h.inv.ns j m hj).fit h.inv.gi (by have := h.B; omega)
    have hcut : ∀ a, (wl.net.take a ++ wl.net.drop (a + 1)).length ≤ 201 := fun a => by simp; omega
    have one : ∀ {j : Nat} {m m' : Md.Node}, wl.ns[j]? = some m → m'.out.length ≤ m.out.length + 14 → ((wl.ns.set j m').flatMap (·.out)).length ≤ 14 := fun {j m m'} hj hl =>
      flat_set hj h.outs (by rw [h.outs m (List.mem_of_getElem? hj)] at hl; simpa using hl)
    rw [act_one wl hn]
    simp only
    split
    · exact ⟨one hn (o_tick (fit hn) draw), by simp only; omega⟩
    · split
      · cases hm : wl.net[draw % wl.net.length]? with
        | none => exact ⟨hz, by simp only; omega⟩
        | some m =>
          simp only
          cases hn' : wl.ns[m.to - 1]? with
          | none => exact ⟨hz, hcut _⟩
          | some n' => exact ⟨one hn' (o_step (fit hn') m), hcut _⟩
      · split
        · exact ⟨hz, hcut _⟩
        · split
          · refine ⟨hz, ?_⟩
            cases wl.net[draw % wl.net.length]? with
            | none => simp; omega
            | some m => simp; omega
          · split
            · exact ⟨one hn (o_propose (fit hn) _), by simp only; omega⟩
            · split
              · exact ⟨one hn (o_change (fit hn) _), by simp only; omega⟩
              · split
                · exact ⟨one hn (by rw [o_compact]; omega), by simp only; omega⟩
                · split
                  · exact ⟨one hn (by show ([] : List Msg).length ≤ _; simp), by simp only; omega⟩
                  · exact ⟨hz, by omega⟩

theorem Good.step {g : Sf.G} {wl : Sf.Wl} {N : Nat} (h : Good g wl N) (hB : g.B < 900) (kind : Int) (i draw : Nat) : ∃ g', Good g' (wl.step kind i draw) N ∧ Sf.Mono g g' ∧ g'.B = g.B + 1 := by
  obtain ⟨g', h1, h2, h3⟩ := h.inv.step kind i draw
  refine ⟨g', ⟨h1, by omega, fun n hn => ?_, ?_, by rw [h2.c0]; exact h.c0, h.N1, ?_⟩, h2, h3⟩
  · simp only [Sf.Wl.step, Sf.Wl.flush, List.mem_map] at hn
    obtain ⟨m, _, rfl⟩ := hn
    rfl
  · simp only [Sf.Wl.step, Sf.Wl.flush, List.length_drop]
    omega
  · simp only [Sf.Wl.step, Sf.Wl.flush, List.length_map]
    rw [← h.len]
    unfold Sf.Wl.act
    cases hn : wl.ns[i]? with
    | none => rfl
    | some n =>
      simp only
      split
      · simp
      · split
        · cases wl.net[draw % wl.net.length]? with
          | none => rfl
          | some m =>
            simp only
            cases wl.ns[m.to - 1]? with
            | none => rfl
            | some n' => simp
        · split
          · rfl
          · split
            · rfl
            · split
              · simp
              · split
                · simp
                · split
                  · simp
                  · split
                    · simp
                    · rfl

end Rx
end Go.Proofs.YtkoipeddfbeliaaGreat

/-
  The nodes and the net in memory: members as bits.
-/
namespace Go.Proofs.YtkoipeddfbeliaaGreat
namespace Rx
open Go.RowKit Md
set_option maxRecDepth 100000

theorem low_bit (x : Nat) (hx : x < 18446744073709551616) : ibits .and .u64 (x : Int) 1 = ((x % 2 : Nat) : Int) := by
  show IntKind.u64.wrap (((BitVec.ofInt 64 (x : Int) &&& BitVec.ofInt 64 1).toNat : Nat) : Int) = _
  have h3 : (BitVec.ofInt 64 (x : Int) &&& BitVec.ofInt 64 1).toNat = x % 2 := by
    have h2 : BitVec.ofInt 64 1 = BitVec.ofNat 64 1 := rfl
    rw [BitVec.ofInt_natCast, h2, BitVec.toNat_and, BitVec.toNat_ofNat, BitVec.toNat_ofNat, Nat.mod_eq_of_lt (show x < 2 ^ 64 by omega), show 1 % 2 ^ 64 = 1 by decide, Nat.and_one_is_mod]
  rw [h3, wu (by omega) (by omega)]

theorem bits24 {w : World} (d : Nat) (hd : d < 18446744073709551616) : Calls Tryz.prog 24 #[.int .u64 (d : Int)] w fun e w' => ∃ s : SV, e = .returned (.slice s.p s.n s.c) ∧ Ex w w' ∧ Ints w' s (Sf.bitsN d) := by
  refine ret (R := fun v w' => ∃ s : SV, v = .slice s.p s.n s.c ∧ Ex w w' ∧ Ints w' s (Sf.bitsN d)) (c24 d w ?_) (fun v w' ⟨s, h1, h2⟩ => ⟨s, by rw [h1], h2⟩)
  let f : Nat → List Nat := fun i => (List.range' 1 (i - 1)).filter fun k => d / 2 ^ k % 2 == 1
  refine ⟨fun vs w' => ∃ (i : Nat) (s : SV), vs = [.slice s.p s.n s.c, iv i] ∧ 1 ≤ i ∧ i ≤ 8 ∧ Ex w w' ∧ Ints w' s (f i) ∧ ∀ x ∈ s.own, w.heap.size ≤ x, fun vs _ => match vs with | [_, .int _ j] => (8 - j).toNat | _ => 0, ⟨1, .nil, rfl, by omega, by omega, Ex.refl _, Sl.zero _ _ _, by simp [SV.own, SV.nil]⟩, ?_⟩
  rintro s3 s3n s3c i4 w1 ⟨i, s, hv, h1, h8, e1, hs, ho⟩
  simp only [iv, List.cons.injEq, Value.int.injEq, Value.slice.injEq, and_true, true_and] at hv
  obtain ⟨⟨rfl, rfl, rfl⟩, rfl⟩ := hv
  have hlen : (f i).length ≤ 7 := by
    have : (f i).length ≤ (List.range' 1 (i - 1)).length := List.length_filter_le _ _
    simp at this; omega
  have hsn := hs.n
  have hnext : f (i + 1) = f i ++ (if d / 2 ^ i % 2 == 1 then [i] else []) := by
    simp only [f]
    rw [show i + 1 - 1 = (i - 1) + 1 by omega, List.range'_concat, List.filter_append]
    simp only [show 1 + 1 * (i - 1) = i by omega, List.filter_cons, List.filter_nil]
  refine vif_mk (fun h2 => ?_) fun h2 => ?_
  · have hi7 : i ≤ 7 := by simp at h2; omega
    refine ⟨by omega, ?_⟩
    have hdiv : ((d : Int).fdiv (2 ^ (min (i : Int).toNat 64))) = ((d / 2 ^ i : Nat) : Int) := by
      have hp : ((2 : Int) ^ i) = ((2 ^ i : Nat) : Int) := by simp
      rw [show min (i : Int).toNat 64 = i by omega, hp, Int.fdiv_eq_ediv_of_nonneg _ (Int.natCast_nonneg _)]
      rfl
    have hlt : d / 2 ^ i < 18446744073709551616 := Nat.lt_of_le_of_lt (Nat.div_le_self _ _) hd
    rw [hdiv, low_bit _ hlt]
    generalize d / 2 ^ i = q at hnext hlt
    refine vif_mk (fun h3 => ?_) fun h3 => ?_
    · have h3' : (q % 2 == 1) = true := by simp at h3 ⊢; omega
      rw [h3', if_pos rfl] at hnext
      refine ⟨rfl, vnew_mk fun w2 e2 s2 b2 => ?_⟩
      have hb2 : Blk w2 w1.heap.size #[iv i] 3 := b2
      refine app3 (q := ⟨some ⟨w1.heap.size, 0, none⟩, 1, 1⟩) (Sl.ex hs e2) (Sl.of_blk (n := 1) hb2 rfl) (by simp [iv, isOne]) (by simp; omega) fun r w3 hr hrn gg => ?_
      obtain ⟨e3, ho3⟩ := gg.ex (e1.trans e2) ho
      rw [wi (by omega) (by omega)]
      refine ⟨⟨i + 1, r, by simp [iv], by omega, by omega, e3, ?_, ho3⟩, by simp only; omega⟩
      show Sl w3 3 1 r ((f (i + 1)).map iv)
      rw [hnext]; simpa using hr
    · have h3' : (q % 2 == 1) = false := by simp at h3 ⊢; omega
      rw [h3'] at hnext
      rw [wi (by omega) (by omega)]
      refine ⟨⟨i + 1, s, by simp [iv], by omega, by omega, e1, ?_, ho⟩, by simp only; omega⟩
      rw [hnext]; simpa using hs
  · have hi8 : i = 8 := by simp at h2; omega
    subst hi8
    exact ⟨s, rfl, e1, hs⟩

end Rx
end Go.Proofs.YtkoipeddfbeliaaGreat

/-
  The nodes and the net in memory: a step, whole.
-/
namespace Go.Proofs.YtkoipeddfbeliaaGreat
namespace Rx
open Go.RowKit Md
set_option maxRecDepth 100000

/-- the numbers of a step -/
def stepA (kind node : Int) (draw : Nat) : Array Value := #[.int .i64 kind, .int .i64 node, .int .u64 (draw : Int)]

theorem node_idx (node : Int) {N : Nat} (h1 : 1 ≤ N) (h7 : N ≤ 7) : ∃ i : Nat, i < N ∧ IntKind.i64.wrap ((IntKind.u64.wrap node).tmod (IntKind.u64.wrap ((N : Nat) : Int))) = (i : Int) := by
  have h0 : 0 ≤ IntKind.u64.wrap node := by rw [IntKind.wrap_u64]; omega
  have hN : IntKind.u64.wrap ((N : Nat) : Int) = (N : Int) := wu (by omega) (by omega)
  rw [hN]
  generalize IntKind.u64.wrap node = u at h0
  obtain ⟨k, rfl⟩ := Int.eq_ofNat_of_zero_le h0
  have hlt : k % N < N := Nat.mod_lt _ (by omega)
  refine ⟨k % N, hlt, ?_⟩
  have : ((k : Int).tmod (N : Int)) = ((k % N : Nat) : Int) := by rw [Int.tmod_eq_emod_of_nonneg (by omega)]; rfl
  rw [this, wi (by omega) (by omega)]

section
variable {w0 w : World} {b N : Nat} {wl : Sf.Wl} {PL : Nat → Nat → Prop} {PA : Nat → Ent → Prop} {g : Sf.G}

/-- the first nodes have sent -/
def fl (ns : List Md.Node) (j : Nat) : List Md.Node := (ns.take j).map (fun n => { n with out := [] }) ++ ns.drop j
theorem fl_get {ns : List Md.Node} {j : Nat} (hj : j < ns.length) : (fl ns j)[j]? = some ns[j] := by
  unfold fl
  rw [List.getElem?_append_right (by simp; omega)]
  simp [show min j ns.length = j by omega, hj]
theorem fl_set {ns : List Md.Node} {j : Nat} (hj : j < ns.length) : (fl ns j).set j { ns[j] with out := [] } = fl ns (j + 1) := by
  unfold fl
  rw [List.set_append_right _ _ (by simp; omega)]
  simp only [List.length_map, List.length_take, show min j ns.length = j by omega, Nat.sub_self]
  have : ns.drop j = ns[j] :: ns.drop (j + 1) := (List.getElem_cons_drop hj).symm
  rw [this, List.take_succ_eq_append_getElem hj, List.map_append]
  simp only [List.map_cons, List.map_nil, List.append_assoc, List.singleton_append, List.set_cons_zero]

theorem do9 (h : WOk w0 w b wl N PL PA) (hg : Good g wl N) (kind node : Int) (draw : Nat) (hd : draw < 18446744073709551616) :
    Calls Tryz.prog 9 #[.pointer (some ⟨b, 0, none⟩), .agg (stepA kind node draw)] w fun e w' => e = .returned (.tuple #[]) ∧ ∃ i, WOk w0 w' b (wl.step kind i draw) N PL PA := by
  refine ret (R := fun v w' => v = .tuple #[] ∧ ∃ i, WOk w0 w' b (wl.step kind i draw) N PL PA) (c9 _ _ w ?_) (fun v w' ⟨h1, h2⟩ => ⟨by rw [h1], h2⟩)
  obtain ⟨rs, sn, sc, st, cm, ops, lm, am, L, A, hw, low, ex, hL, hA⟩ := h
  have gi := hg.inv.gi
  have hN1 := hg.N1
  have hsnN : sn.n = N := by have hh := hw.nodes.len; rw [List.length_map, hw.len.1] at hh; omega
  have hstn : st.n = wl.net.length := hw.net.n
  have hnet := hg.net
  unfold F9
  refine vnew_mk fun w1 e1 s1 b1 => vdraw_mk fun w2 e2 _ => ?_
  have hb1 : Blk w1 w.heap.size (stepA kind node draw) 28 := b1
  have e12 := e1.trans e2
  have h2 := hw.ex e12
  have hb2 := e2.blk hb1
  simp only [add_mk, Nat.zero_add]
  refine ⟨node, hb2.at_ 1 rfl, sn.p, sn.n, sn.c, h2.blk.at_ 0 rfl, ?_⟩
  rw [hsnN]
  refine ⟨by rw [wu (by omega) (by omega)]; omega, sn.p, sn.n, sn.c, h2.blk.at_ 0 rfl, ?_⟩
  obtain ⟨i, hiN, hidx⟩ := node_idx node hN1.1 hN1.2
  rw [hidx]
  have hil : i < rs.length := by rw [hw.len.1]; exact hiN
  have hri : rs[i]? = some rs[i] := List.getElem?_eq_getElem hil
  generalize hp : rs[i] = p at hri
  have hiw : i < wl.ns.length := by rw [hw.len.2]; exact hiN
  obtain ⟨n, hn, _⟩ := h2.node i p hri
  refine Sl.load h2.nodes (i := i) (v := .pointer (some ⟨p.1, 0, none⟩)) (by rw [List.getElem?_map, hri]; rfl) fun a ha => ⟨some ⟨p.1, 0, none⟩, ha, ?_⟩
  -- facts about any world that is later
  have fitn : ∀ {j : Nat} {m : Md.Node}, wl.ns[j]? = some m → Fit m := fun {j m} hj => (hg.inv.ns j m hj).fit gi (by have := hg.B; omega)
  have outn : ∀ {j : Nat} {m : Md.Node}, wl.ns[j]? = some m → m.out = [] := fun {j m} hj => hg.outs m (List.mem_of_getElem? hj)
  have ninv := hg.inv.ns i n hn
  have hB := hg.B
  refine ⟨fun vs w' => ∃ c : Nat, vs = [.int .i64 (c : Int)] ∧ Ex w2 w' ∧ (wl.net ≠ [] → c = draw % wl.net.length), ⟨st.p, st.n, st.c, h2.blk.at_ 2 rfl, vif_mk (fun h3 => vdraw_mk fun w3 e3 _ => ?_) fun h3 => ⟨0, rfl, Ex.refl _, fun hh => ?_⟩⟩, ?_⟩
  · have h3r := h2.ex e3
    have hpos : 0 < wl.net.length := by simp at h3; omega
    refine ⟨draw, (e3.blk hb2).at_ 2 rfl, st.p, st.n, st.c, h3r.blk.at_ 2 rfl, ?_⟩
    rw [hstn, wu (n := ((wl.net.length : Nat) : Int)) (by omega) (by omega)]
    refine ⟨by omega, draw % wl.net.length, ?_, e3, fun _ => rfl⟩
    have hlt : draw % wl.net.length < wl.net.length := Nat.mod_lt _ hpos
    have : ((draw : Int).tmod (wl.net.length : Int)) = ((draw % wl.net.length : Nat) : Int) := by rw [Int.tmod_eq_emod_of_nonneg (by omega)]; rfl
    rw [this, wi (by omega) (by omega)]
  · have : wl.net.length = 0 := by simp at h3; omega
    exact absurd (List.eq_nil_of_length_eq_zero this) hh
  · rintro _ w4 ⟨c, hv, e4, hc⟩
    simp only [List.cons.injEq, Value.int.injEq, and_true, true_and] at hv
    subst hv
    have h4 := h2.ex e4
    have hb4 := e4.blk hb2
    have e04 := ex.trans (e12.trans e4)
    have low4 : ∀ x ∈ ownW b sn sc st lm am rs, w0.heap.size ≤ x := low
    have some_net : (decide (((st.n : Nat) : Int) > 0)) = decide (wl.net ≠ []) := by
      rw [hstn, decide_eq_decide]
      constructor
      · intro hh hz; rw [hz] at hh; simp at hh
      · intro hh; have := List.length_pos_iff.2 hh; omega
    obtain ⟨n', hn', hR⟩ := h4.node i p hri
    rw [hn] at hn'
    have hnn : n = n' := Option.some.inj hn'
    subst hnn
    have hact := act_one wl hn kind draw
    simp only at hact
    refine ⟨st.p, st.n, st.c, h4.blk.at_ 2 rfl, fun vs w' => vs = [] ∧ WOk w0 w' b (wl.act kind i draw) N PL PA, ?_, ?_⟩
    · -- what is done
      have done : ∀ {w' : World} {n' : Md.Node}, Act w4 w' p.1 p.2 n' → wl.act kind i draw = { wl with ns := wl.ns.set i n' } → ([] : List Value) = [] ∧ WOk w0 w' b (wl.act kind i draw) N PL PA := fun {w' n'} ha hq => by
        obtain ⟨r', k1, k2⟩ := ha
        obtain ⟨k3, k4⟩ := h4.nodeStep hri k1 k2
        rw [hq]
        exact ⟨rfl, WOk.of k3 low4 e04 k4 hL hA⟩
      refine ⟨kind, hb4.at_ 0 rfl, vif_mk (fun h5 => ⟨draw, hb4.at_ 2 rfl, (tick13 hR (fitn hn) draw (by rw [outn hn]; simp) (by have := ninv.sb; omega) (by rw [ninv.cfg.1]; omega) (by rw [ninv.cfg.1]; omega) ninv.roles.track).mono ?_⟩) fun h5 => ?_⟩
      · have h5' : kind = 0 := by simpa using h5
        rw [if_pos h5'] at hact
        rintro _ w5 ⟨rfl, ha⟩
        exact ⟨rfl, done ha hact⟩
      have h5' : ¬ kind = 0 := by simpa using h5
      rw [if_neg h5'] at hact
      refine ⟨fun vs w' => vs = [.bool (decide (0 < kind ∧ kind ≤ 3 ∧ wl.net ≠ []))] ∧ w' = w4, ⟨kind, hb4.at_ 0 rfl, vif_mk (fun h6 => ⟨kind, hb4.at_ 0 rfl, vif_mk (fun h7 => ⟨?_, rfl⟩) fun h7 => ⟨?_, rfl⟩⟩) fun h6 => ⟨?_, rfl⟩⟩, ?_⟩
      · simp at h6 h7
        rw [some_net]; simp [h6, h7]
      · simp at h6 h7
        have : ¬ 0 < kind := by omega
        simp [this]
      · simp at h6
        have : ¬ kind ≤ 3 := by omega
        simp [this]
      · rintro bb w5 ⟨hv, rfl⟩
        simp only [List.cons.injEq, Value.bool.injEq, and_true] at hv
        refine vif_mk (fun h6 => ?_) fun h6 => ?_
        · -- a message comes
          have h6' : 0 < kind ∧ kind ≤ 3 ∧ wl.net ≠ [] := by rw [hv] at h6; simpa using h6
          rw [if_pos h6'] at hact
          have hpos : 0 < wl.net.length := List.length_pos_iff.2 h6'.2.2
          have hca := hc h6'.2.2
          have hcl : c < wl.net.length := by rw [hca]; exact Nat.mod_lt _ hpos
          rw [← hca] at hact
          have hol : ops.length = wl.net.length := by rw [← hw.net.fst]; simp
          have hop : ops[c]? = some ops[c] := List.getElem?_eq_getElem (by omega)
          generalize ops[c] = q at hop
          have hmq : wl.net[c]? = some q.1 := by rw [← hw.net.fst, List.getElem?_map, hop]; rfl
          rw [hmq] at hact
          simp only at hact
          have hmi := hg.inv.net q.1 (List.mem_of_getElem? hmq)
          obtain ⟨mok, mml⟩ := hmi.ok gi (by omega)
          refine ⟨st.p, st.n, st.c, h4.blk.at_ 2 rfl, Sl.elem (by decide) mc_len h4.net.sl hop ?_⟩
          refine local_msg rfl (one_mv q.1 q.2) fun c5 w6 e6 hc5 hb6 => vdraw_mk fun w7 e7 _ => ?_
          have e67 := e6.trans e7
          have h7 := h4.ex e67
          have hb7 := e7.blk hb6
          have hc5b : c5 ≠ b := by have := h4.blk.lt; omega
          have hq7 := (h7.net.parts q (List.mem_of_getElem? hop))
          refine h7.cutNet hcl (by omega) fun w8 st' ops' h8 s8 k8 => vdraw_mk fun w9 e9 _ => ?_
          have hb9 := e9.blk (k8 _ _ _ hc5b hb7)
          have h9 := h8.ex e9
          have s9 := s8.trans (e9.step _)
          refine ⟨q.1.to, hb9.at_ 2 rfl, sn.p, sn.n, sn.c, h9.blk.at_ 0 rfl, ?_⟩
          rw [hsnN]
          have hto1 := hmi.to1
          refine vif_mk (fun h10 => vdraw_mk fun w10 e10 _ => ?_) fun h10 => ⟨rfl, ?_⟩
          · have hto : q.1.to ≤ N := by simp at h10; omega
            have h10r := h9.ex e10
            have hb10 := e10.blk hb9
            refine ⟨sn.p, sn.n, sn.c, h10r.blk.at_ 0 rfl, q.1.to, hb10.at_ 2 rfl, ?_⟩
            rw [show ((q.1.to : Nat) : Int) - 1 = ((q.1.to - 1 : Nat) : Int) by omega, wi (by omega) (by omega)]
            have htl : q.1.to - 1 < rs.length := by rw [hw.len.1]; omega
            have hrt : rs[q.1.to - 1]? = some rs[q.1.to - 1] := List.getElem?_eq_getElem htl
            generalize rs[q.1.to - 1] = p2 at hrt
            obtain ⟨n2, hn2, hR2⟩ := h10r.node _ p2 hrt
            have hn2 : wl.ns[q.1.to - 1]? = some n2 := hn2
            rw [hn2] at hact
            simp only at hact
            have n2inv := hg.inv.ns _ n2 hn2
            refine Sl.load h10r.nodes (i := q.1.to - 1) (v := .pointer (some ⟨p2.1, 0, none⟩)) (by rw [List.getElem?_map, hrt]; rfl) fun a2 ha2 => ⟨some ⟨p2.1, 0, none⟩, ha2, vcells_all hb10 11 rfl ?_⟩
            refine (step16 hR2 (fitn hn2) n2inv.roles q.1 q.2 (hq7.keeps (s9.trans (e10.step _)).keeps) mok (by omega) (by rw [outn hn2]; simp) (by have := n2inv.tb; omega)).mono ?_
            rintro _ w11 ⟨rfl, r2, k1, k2⟩
            obtain ⟨k3, k4⟩ := h10r.nodeStep hrt k1 k2
            refine ⟨rfl, rfl, ?_⟩
            rw [hact]
            exact WOk.of k3 low4 (e04.trans e67) ((s9.trans (e10.step _)).trans k4) hL hA
          · have hto : ¬ q.1.to ≤ N := by simp at h10; omega
            have hn2 : wl.ns[q.1.to - 1]? = none := by rw [List.getElem?_eq_none_iff, hw.len.2]; omega
            rw [hn2] at hact
            simp only at hact
            rw [hact]
            exact WOk.of h9 low4 (e04.trans e67) s9 hL hA
        · have h6' : ¬ (0 < kind ∧ kind ≤ 3 ∧ wl.net ≠ []) := by rw [hv] at h6; simpa using h6
          rw [if_neg h6'] at hact
          refine ⟨fun vs w' => vs = [.bool (decide (kind = 4 ∧ wl.net ≠ []))] ∧ w' = w5, ⟨kind, hb4.at_ 0 rfl, vif_mk (fun h7 => ⟨?_, rfl⟩) fun h7 => ⟨?_, rfl⟩⟩, ?_⟩
          · have h7' : kind = 4 := by simpa using h7
            rw [some_net]; simp [h7']
          · have h7' : ¬ kind = 4 := by simpa using h7
            simp [h7']
          rintro b7 w7 ⟨hv7, rfl⟩
          simp only [List.cons.injEq, Value.bool.injEq, and_true] at hv7
          refine vif_mk (fun h7 => vdraw_mk fun w8 e8 _ => ?_) fun h7 => ?_
          · -- one is lost
            have h7' : kind = 4 ∧ wl.net ≠ [] := by rw [hv7] at h7; simpa using h7
            rw [if_pos h7'] at hact
            have hpos : 0 < wl.net.length := List.length_pos_iff.2 h7'.2
            have hca := hc h7'.2
            have hcl : c < wl.net.length := by rw [hca]; exact Nat.mod_lt _ hpos
            rw [← hca] at hact
            have h8 := h4.ex e8
            refine h8.cutNet hcl (by omega) fun w9 st' ops' h9 s9 k9 => ⟨rfl, ?_⟩
            rw [hact]
            exact WOk.of h9 low4 (e04.trans e8) s9 hL hA
          have h7' : ¬ (kind = 4 ∧ wl.net ≠ []) := by rw [hv7] at h7; simpa using h7
          rw [if_neg h7'] at hact
          refine ⟨fun vs w' => vs = [.bool (decide (kind = 5 ∧ wl.net ≠ []))] ∧ w' = w7, ⟨kind, hb4.at_ 0 rfl, vif_mk (fun h8 => ⟨?_, rfl⟩) fun h8 => ⟨?_, rfl⟩⟩, ?_⟩
          · have h8' : kind = 5 := by simpa using h8
            rw [some_net]; simp [h8']
          · have h8' : ¬ kind = 5 := by simpa using h8
            simp [h8']
          rintro b8 w8 ⟨hv8, rfl⟩
          simp only [List.cons.injEq, Value.bool.injEq, and_true] at hv8
          refine vif_mk (fun h8 => vdraw_mk fun w9 e9 _ => ?_) fun h8 => ?_
          · -- one comes twice
            have h8' : kind = 5 ∧ wl.net ≠ [] := by rw [hv8] at h8; simpa using h8
            rw [if_pos h8'] at hact
            have hpos : 0 < wl.net.length := List.length_pos_iff.2 h8'.2
            have hca := hc h8'.2
            have hcl : c < wl.net.length := by rw [hca]; exact Nat.mod_lt _ hpos
            rw [← hca] at hact
            have hol : ops.length = wl.net.length := by rw [← hw.net.fst]; simp
            have hop : ops[c]? = some ops[c] := List.getElem?_eq_getElem (by omega)
            generalize ops[c] = q at hop
            have hmq : wl.net[c]? = some q.1 := by rw [← hw.net.fst, List.getElem?_map, hop]; rfl
            rw [hmq] at hact
            have h9 := h4.ex e9
            refine ⟨st.p, st.n, st.c, h9.blk.at_ 2 rfl, st.p, st.n, st.c, h9.blk.at_ 2 rfl, Sl.elem (by decide) mc_len h9.net.sl hop ⟨by simp [mc_len], by simp, vnew_mk fun w10 e10 s10 b10 => ?_⟩⟩
            have hb10 : Blk w10 w9.heap.size (mc q).toArray 54 := by
              have : ((mc q).toArray.toList ++ []).toArray = (mc q).toArray := by simp
              rw [this] at b10; exact b10
            have h10 := h9.ex e10
            refine app54 (s := st) (q := ⟨some ⟨w9.heap.size, 0, none⟩, 1, 1⟩) h10.net.sl (Sl.of_blk (n := 1) hb10 rfl) (fun v hv => one_mc [q] v (by simpa using hv)) (by simp; omega) fun st' w11 hst' hstn' gg => ?_
            have k11 := gg.keeps (by decide)
            have hbn : b ∉ st.own := fun hh => by
              have := hw.nd
              unfold ownW at this
              rw [List.nodup_cons] at this
              exact this.1 (by simp [hh])
            have hb11 := gg.fr.blk h10.blk hbn
            refine vstore1_mk hb11 (by simp [cellsW]) fun w12 p12 => ?_
            have k12 := k11.trans (p12.keeps hb11 (by decide))
            have f12 : Fr (b :: st.own) w10 w12 := (gg.fr.mono fun y hy => List.mem_cons_of_mem _ hy).trans (p12.fr (by simp))
            have hbo : b ∉ st'.own := fun hh => by
              rcases gg.own b hh with h1 | h1
              · exact hbn h1
              · have := h10.blk.lt; omega
            have hm : Msgs w12 st' (wl.net ++ [q.1]) (ops ++ [q]) := by
              refine ⟨by rw [List.map_append, h10.net.fst]; rfl, ?_, fun y hy => ?_⟩
              · rw [List.flatMap_append]
                have : Sl w12 54 11 st' (ops.flatMap mc ++ mc q) := by
                  refine Sl.blk (by simpa using hst') fun x cs hx hbx => p12.other (fun hh => ?_) hbx
                  exact hbo (hh ▸ SV.mem_own.2 ⟨x, hx, rfl⟩)
                simpa using this
              · rcases List.mem_append.1 hy with hy | hy
                · exact (h10.net.parts y hy).keeps k12
                · simp at hy; subst hy; exact (h10.net.parts y (List.mem_of_getElem? hop)).keeps k12
            obtain ⟨k3, k4⟩ := h10.netStep hm k12 f12 p12.blk gg.own
            refine ⟨rfl, ?_⟩
            rw [hact]
            exact WOk.of k3 low4 (e04.trans (e9.trans e10)) k4 hL hA
          have h8' : ¬ (kind = 5 ∧ wl.net ≠ []) := by rw [hv8] at h8; simpa using h8
          rw [if_neg h8'] at hact
          refine ⟨kind, hb4.at_ 0 rfl, vif_mk (fun h9 => ⟨draw, hb4.at_ 2 rfl, draw, hb4.at_ 2 rfl, by omega, rfl, vnew_mk fun w9 e9 s9 b9 => ?_⟩) fun h9 => ⟨kind, hb4.at_ 0 rfl, vif_mk (fun h10 => ⟨draw, hb4.at_ 2 rfl, (bits24 draw hd).mono ?_⟩) fun h10 => ⟨kind, hb4.at_ 0 rfl, vif_mk (fun h11 => ?_) fun h11 => ⟨kind, hb4.at_ 0 rfl, vif_mk (fun h12 => vdraw_mk fun w9 e9 _ => ?_) fun h12 => ⟨rfl, ?_⟩⟩⟩⟩⟩
          · -- a proposal
            have h9' : kind = 6 := by simpa using h9
            rw [if_pos h9'] at hact
            have hu1 : IntKind.u8.wrap (draw : Int) = ((UInt8.ofNat draw).toNat : Int) := by
              rw [IntKind.wrap_u8]; simp
            have hu2 : IntKind.u8.wrap ((draw : Int).fdiv (2 ^ (min (8 : Int).toNat 64))) = ((UInt8.ofNat (draw / 256)).toNat : Int) := by
              rw [show ((2 : Int) ^ (min (8 : Int).toNat 64)) = 256 by rfl, Int.fdiv_eq_ediv_of_nonneg _ (by omega), IntKind.wrap_u8]; simp
            rw [hu1, hu2] at b9
            have hb9 : Blk w9 w8.heap.size (byteVals [UInt8.ofNat draw, UInt8.ofNat (draw / 256)]).toArray 5 := b9
            have hd9 : Bytes w9 ⟨some ⟨w8.heap.size, 0, none⟩, 2, 2⟩ [UInt8.ofNat draw, UInt8.ofNat (draw / 256)] := Sl.of_blk (n := 2) hb9 rfl
            refine (propose18 (hR.ex e9) (fitn hn) ninv.roles hd9 (by simp) (by rw [outn hn]; simp)).mono ?_
            rintro _ w10 ⟨⟨cc, rfl, _⟩, ha⟩
            exact ⟨_, _, rfl, done (ha.ex e9) hact⟩
          · -- a change
            have h9' : ¬ kind = 6 := by simpa using h9
            have h10' : kind = 7 := by simpa using h10
            rw [if_neg h9', if_pos h10'] at hact
            rintro _ w9 ⟨s9, rfl, e9, hs9⟩
            refine ⟨_, _, _, rfl, (change23 (hR.ex e9) (fitn hn) ninv.roles hs9 (by
              have : (Sf.bitsN draw).length ≤ (List.range' 1 7).length := List.length_filter_le _ _
              simp at this; omega) (by have := ninv.cm; have := ninv.flen gi; omega) (by rw [outn hn]; simp)).mono ?_⟩
            rintro _ w10 ⟨⟨v, rfl, i1, c1, rfl⟩, ha⟩
            exact ⟨_, _, rfl, done (ha.ex e9) hact⟩
          · -- a compaction
            have h9' : ¬ kind = 6 := by simpa using h9
            have h10' : ¬ kind = 7 := by simpa using h10
            have h11' : kind = 8 := by simpa using h11
            rw [if_neg h9', if_neg h10', if_pos h11'] at hact
            have hcb : n.commit ≤ 900 := by have := ninv.cm; have := ninv.flen gi; omega
            refine (commit19 hR).mono ?_
            rintro _ _ ⟨rfl, rfl⟩
            refine ⟨_, rfl, (commit19 hR).mono ?_⟩
            rintro _ w9 ⟨rfl, rfl⟩
            refine ⟨_, rfl, rfl, vnew_mk fun w10 e10 s10 b10 => ?_⟩
            have hu1 : IntKind.u8.wrap (n.commit : Int) = ((UInt8.ofNat n.commit).toNat : Int) := by
              rw [IntKind.wrap_u8]; simp
            rw [hu1] at b10
            have hb10 : Blk w10 w9.heap.size (byteVals [UInt8.ofNat n.commit]).toArray 5 := b10
            have hd10 : Bytes w10 ⟨some ⟨w9.heap.size, 0, none⟩, 1, 1⟩ [UInt8.ofNat n.commit] := Sl.of_blk (n := 1) hb10 rfl
            refine (compact25 (hR.ex e10) (fitn hn) n.commit (by omega) hd10 (by simp)).mono ?_
            rintro _ w11 ⟨⟨cc, rfl⟩, ha⟩
            exact ⟨_, rfl, done (ha.ex e10) hact⟩
          · -- a node is made anew
            have h9' : ¬ kind = 6 := by simpa using h9
            have h10' : ¬ kind = 7 := by simpa using h10
            have h11' : ¬ kind = 8 := by simpa using h11
            have h12' : kind = 9 := by simpa using h12
            rw [if_neg h9', if_neg h10', if_neg h11', if_pos h12'] at hact
            have h9r := h4.ex e9
            have hR9 := hR.ex e9
            have hfit := fitn hn
            have hcfl : ∀ k : Nat, (cfA (k + 1) cm 4 2).toList.length = 4 := fun k => rfl
            have hgi : (List.range N)[i]? = some i := by simp [hiN]
            have hcn : i < sc.n := by
              have := h9r.conf.len
              rw [flat_len (f := fun i => (cfA (i + 1) cm 4 2).toList) hcfl] at this
              simp at this; omega
            refine ⟨fun w' => Ex w9 w', Ex.refl _, sc.p, sc.n, sc.c, fun w' e' => (h9r.ex e').blk.at_ 1 rfl, ?_⟩
            refine h9r.conf.idx (i := (i : Int)) (by omega) (by omega) fun ac cs hac q1 q2 q3 q4 => ⟨cfA (i + 1) cm 4 2, rfl, fun w' e' j v hj => ?_, (state10 hR9 hfit).mono ?_⟩
            · rw [addr_eta q1, add_mk, add_mk, (e'.blk q2).cell]
              have hj4 : j < 4 := by have := (List.getElem?_eq_some_iff.1 hj).1; simpa [cfA] using this
              have := q4 (i * 4 + j) v (by rw [flat_get (f := fun i => (cfA (i + 1) cm 4 2).toList) hcfl _ _ _ hj4, hgi]; exact hj)
              rw [← this]; congr 1; simp; omega
            · rintro _ w10 ⟨m, d, qq, qs, rfl, e10, hm, hdd, hq, _⟩
              refine ⟨_, rfl, rfl, e10, ?_⟩
              have h10r := h9r.ex e10
              have hgood : goodM n.img.members := hfit.im
              have hlast := ninv.log.last
              refine (new22 (im := n.img) (cm := Sf.firstM N) h10r.cms hm hdd (hR9.ex e10).sub.dn hq ⟨by omega, by omega⟩ (Sf.good_first hN1.1 hN1.2) ⟨by omega, by omega⟩ ⟨by omega, by omega⟩ (node_follow gi ninv) ?_ ?_ ninv.vt3 ?_ (by have := ninv.tb; omega) (by rw [ninv.img.1]; have := ninv.log.base; have := ninv.flen gi; omega) (.inr hgood)).mono ?_
              · exact List.all_eq_true.2 fun y hy => by simpa using hfit.log.data y hy
              · exact hfit.log.len
              · have : (Log.mk n.img.index n.img.term n.log.l) = n.log := by rw [ninv.img.1, ninv.img.2.1]
                rw [this, hlast]
                exact ninv.lastT
              · rintro _ w11 ⟨b', r', rfl, hn11, e11, hf11⟩
                refine ⟨_, _, rfl, sn.p, sn.n, sn.c, (h10r.ex e11).blk.at_ 0 rfl, ?_⟩
                rw [← node_anew ninv hg.c0 hgood.1] at hn11
                refine h10r.nodeNew hri e11 hn11 hf11 fun w12 k1 k2 => ⟨rfl, ?_⟩
                rw [hact]
                exact WOk.of k1 low4 (e04.trans (e9.trans e10)) k2 hL hA
          · have h9' : ¬ kind = 6 := by simpa using h9
            have h10' : ¬ kind = 7 := by simpa using h10
            have h11' : ¬ kind = 8 := by simpa using h11
            have h12' : ¬ kind = 9 := by simpa using h12
            rw [if_neg h9', if_neg h10', if_neg h11', if_neg h12'] at hact
            rw [hact]
            exact ⟨rs, sn, sc, st, cm, ops, lm, am, L, A, h4, low, e04, hL, hA⟩
    · -- what was sent is on its way
      obtain ⟨g', hinv', hmono, hB'⟩ := hg.inv.act' kind i draw
      obtain ⟨hsent, hnet2⟩ := hg.sent kind i draw
      generalize hwa : wl.act kind i draw = wa at hinv' hsent hnet2
      rintro w5 ⟨_, rs2, sn2, sc2, st2, cm2, ops2, lm2, am2, L2, A2, hw2, low2, ex2, hL2, hA2⟩
      have hwal : wa.ns.length = N := hw2.len.2
      have hsn2 : sn2.n = N := by have hh := hw2.nodes.len; rw [List.length_map, hw2.len.1] at hh; omega
      refine ⟨sn2.p, sn2.n, sn2.c, hw2.blk.at_ 0 rfl, fun vs w' => ∃ (j : Nat) (rs' : List (Nat × Raw)) (st' : SV) (ops' : List (Msg × MD)), vs = [iv j] ∧ j ≤ N ∧ WR w' b ⟨fl wa.ns j, wa.net ++ (wa.ns.take j).flatMap (·.out)⟩ N rs' sn2 sc2 st' cm2 ops' lm2 am2 L2 A2 ∧ (∀ x ∈ ownW b sn2 sc2 st' lm2 am2 rs', w0.heap.size ≤ x) ∧ Ex w0 w',
        fun vs _ => match vs with | [.int _ j] => ((N : Int) - j).toNat | _ => 0, ⟨0, rs2, st2, ops2, rfl, by omega, ?_, low2, ex2⟩, ?_⟩
      · have : (⟨fl wa.ns 0, wa.net ++ (wa.ns.take 0).flatMap (·.out)⟩ : Sf.Wl) = wa := by simp [fl]
        rw [this]; exact hw2
      rintro i6 w6 ⟨j, rs6, st6, ops6, hv, hj, hw6, low6, ex6⟩
      simp only [iv, List.cons.injEq, Value.int.injEq, and_true, true_and] at hv
      subst hv
      have hbn6 : b ∉ st6.own := fun hh => by
        have := hw6.nd
        unfold ownW at this
        rw [List.nodup_cons] at this
        exact this.1 (by simp [hh])
      have hst6 : st6.n = (wa.net ++ (wa.ns.take j).flatMap (·.out)).length := hw6.net.n
      have hsum : ((wa.ns.take j).flatMap (·.out)).length ≤ 14 := by
        have e1 : wa.ns.flatMap (·.out) = (wa.ns.take j).flatMap (·.out) ++ (wa.ns.drop j).flatMap (·.out) := by rw [← List.flatMap_append, List.take_append_drop]
        rw [e1, List.length_append] at hsent
        omega
      refine vif_mk (fun h7 => ?_) fun h7 => vdraw_mk fun w7 e7 _ => ?_
      · have hjN : j < N := by simp at h7; omega
        have hjl : j < wa.ns.length := by omega
        have hrl : j < rs6.length := by rw [hw6.len.1]; exact hjN
        have hrj : rs6[j]? = some rs6[j] := List.getElem?_eq_getElem hrl
        generalize rs6[j] = q at hrj
        have hfj : (fl wa.ns j)[j]? = some wa.ns[j] := fl_get hjl
        have hout : wa.ns[j].out.length ≤ 14 := by
          have e1 : wa.ns.flatMap (·.out) = (wa.ns.take j).flatMap (·.out) ++ (wa.ns.drop j).flatMap (·.out) := by rw [← List.flatMap_append, List.take_append_drop]
          rw [e1, ← List.getElem_cons_drop hjl, List.flatMap_cons] at hsent
          simp at hsent; omega
        have hfit : Fit wa.ns[j] := (hinv'.ns j _ (List.getElem?_eq_getElem hjl)).fit hinv'.gi (by omega)
        generalize hnj : wa.ns[j] = nj at hfj hout hfit
        obtain ⟨n7, hn7, hR7⟩ := hw6.node j q hrj
        have hn7 : (fl wa.ns j)[j]? = some n7 := hn7
        rw [hfj] at hn7
        have := Option.some.inj hn7
        subst this
        refine Sl.load hw6.nodes (i := j) (v := .pointer (some ⟨q.1, 0, none⟩)) (by rw [List.getElem?_map, hrj]; rfl) fun a7 ha7 => ⟨some ⟨q.1, 0, none⟩, ha7, (saved14 hR7 hfit).mono ?_⟩
        rintro _ w7 ⟨rfl, r7, k1, k2⟩
        obtain ⟨k3, k4⟩ := hw6.nodeStep hrj k1 k2
        have hset : (fl wa.ns j).set j nj = fl wa.ns j := by
          rw [List.getElem?_eq_some_iff] at hfj
          obtain ⟨h1, h2⟩ := hfj
          rw [← h2, List.set_getElem_self]
        have k3 : WR w7 b ⟨fl wa.ns j, wa.net ++ (wa.ns.take j).flatMap (·.out)⟩ N (rs6.set j (q.1, r7)) sn2 sc2 st6 cm2 ops6 lm2 am2 L2 A2 := by
          have := k3
          simp only [hset] at this
          exact this
        refine ⟨rfl, vdraw_mk fun w8 e8 _ => ?_⟩
        have h8 := k3.ex e8
        have hrj8 : (rs6.set j (q.1, r7))[j]? = some (q.1, r7) := by rw [List.getElem?_set]; simp [hrl]
        refine ⟨fun w' => Blk w' b (cellsW sn2 sc2 st6 lm2 am2) 36, h8.blk, st6.p, st6.n, st6.c, fun w' hb' => hb'.at_ 2 rfl, (out15 (k1.ex e8)).mono ?_⟩
        rintro _ w9 ⟨rfl, m1, m2, m3, m4⟩
        obtain ⟨h9, s9⟩ := h8.nodeStep hrj8 m1 m2
        refine ⟨_, _, _, rfl, h9.blk, ?_⟩
        have hon := m3.n
        have hfs : (fl wa.ns j).set j { nj with out := [] } = fl wa.ns (j + 1) := by rw [← hnj]; exact fl_set hjl
        refine app54 (s := st6) (q := r7.out) h9.net.sl m3.sl (one_mc _) (by rw [List.length_append] at hst6; omega) fun st' w10 hst' hstn' gg => ?_
        have k10 := gg.keeps (by decide)
        have hb10 := gg.fr.blk h9.blk hbn6
        refine vstore1_mk hb10 (by simp [cellsW]) fun w11 p11 => ?_
        have k11 := k10.trans (p11.keeps hb10 (by decide))
        have f11 : Fr (b :: st6.own) w9 w11 := (gg.fr.mono fun y hy => List.mem_cons_of_mem _ hy).trans (p11.fr (by simp))
        have hbo : b ∉ st'.own := fun hh => by
          rcases gg.own b hh with h1 | h1
          · exact hbn6 h1
          · have := h9.blk.lt; omega
        have hm : Msgs w11 st' (wa.net ++ (wa.ns.take (j + 1)).flatMap (·.out)) (ops6 ++ r7.ops) := by
          refine ⟨?_, ?_, fun y hy => ?_⟩
          · rw [List.map_append, h9.net.fst, m3.fst, List.take_succ_eq_append_getElem hjl, List.flatMap_append, hnj]
            simp
          · rw [List.flatMap_append]
            refine Sl.blk hst' fun x cs hx hbx => p11.other (fun hh => ?_) hbx
            exact hbo (hh ▸ SV.mem_own.2 ⟨x, hx, rfl⟩)
          · rcases List.mem_append.1 hy with hy | hy
            · exact (h9.net.parts y hy).keeps k11
            · exact (m3.parts y hy).keeps k11
        obtain ⟨h11, s11⟩ := h9.netStep hm k11 f11 p11.blk gg.own
        rw [wi (by omega) (by omega)]
        have sall := ((k4.trans (e8.step _)).trans s9).trans s11
        refine ⟨⟨j + 1, _, st', ops6 ++ r7.ops, by simp [iv], hjN, ?_, fun x hx => (sall.own x hx).elim (low6 x) fun hh => Nat.le_trans ex6.size hh, ex6.fr' sall.fr low6⟩, by simp only; omega⟩
        simp only [hfs] at h11
        exact h11
      · have hjN : j = N := by simp at h7; omega
        have h7r := hw6.ex e7
        have hfN : fl wa.ns j = wa.ns.map fun n => { n with out := [] } := by
          unfold fl; rw [List.take_of_length_le (by omega), List.drop_eq_nil_of_le (by omega)]; simp
        have htN : wa.ns.take j = wa.ns := List.take_of_length_le (by omega)
        rw [htN] at hst6 hsum
        have hlen6 : (wa.net ++ wa.ns.flatMap (·.out)).length ≤ 215 := by rw [List.length_append]; omega
        refine ⟨st6.p, st6.n, st6.c, h7r.blk.at_ 2 rfl, st6.p, st6.n, st6.c, h7r.blk.at_ 2 rfl, ?_⟩
        have hlo : (if 0 < IntKind.i64.wrap (((st6.n : Nat) : Int) - 200) then IntKind.i64.wrap (((st6.n : Nat) : Int) - 200) else 0) = ((st6.n - 200 : Nat) : Int) := by
          rw [wi (by omega) (by omega)]
          split <;> omega
        rw [hlo]
        have hcap := h7r.net.sl.cap
        refine vslice_mk (st6.n - 200) st6.n st6.c (fun G hG => ⟨by omega, by omega, by simpa using hG⟩) (fun G hG => hG) (fun G hG => hG) (.inl rfl) (fun _ => rfl) ?_
        have hcut := h7r.net.sl.cut (l := st6.n - 200) (h := st6.n) (m := st6.c) (by omega) (Nat.le_refl _) hcap (Nat.le_refl _)
        refine vstore1_mk h7r.blk (by simp [cellsW]) fun w8 p8 => ⟨by trivial, i, ?_⟩
        have k8 := p8.keeps h7r.blk (by decide)
        have hopl : ops6.length = st6.n := by rw [hst6]; have := congrArg List.length h7r.net.fst; simp only [List.length_map] at this; rw [this, htN]
        have hd2 : ((ops6.flatMap mc).drop ((st6.n - 200) * 11)).take ((st6.n - (st6.n - 200)) * 11) = (ops6.drop (st6.n - 200)).flatMap mc := by
          rw [flat_drop mc_len, List.take_of_length_le]
          rw [flat_len mc_len]; simp; omega
        rw [hd2] at hcut
        have hcutown : ∀ x ∈ (st6.cut 11 (st6.n - 200) st6.n st6.c).own, x ∈ st6.own := fun x hx => by
          rw [SV.mem_own] at hx ⊢
          obtain ⟨y, hy, rfl⟩ := hx
          simp only [SV.cut] at hy
          split at hy
          · exact ⟨y, hy, rfl⟩
          · cases hpp : st6.p with
            | none => rw [hpp] at hy; simp at hy
            | some z =>
              rw [hpp] at hy
              simp only [Option.map_some, Option.some.injEq] at hy
              refine ⟨z, rfl, ?_⟩
              rw [← hy]
              obtain ⟨q1, _⟩ := h7r.net.sl.at_ z hpp
              rw [addr_eta q1, add_mk]
        have hm : Msgs w8 (st6.cut 11 (st6.n - 200) st6.n st6.c) ((wa.net ++ wa.ns.flatMap (·.out)).drop (st6.n - 200)) (ops6.drop (st6.n - 200)) := by
          refine ⟨?_, ?_, fun y hy => (h7r.net.parts y (List.mem_of_mem_drop hy)).keeps k8⟩
          · rw [List.map_drop, h7r.net.fst, htN]
          · exact Sl.blk hcut fun x cs hx hbx => p8.other (fun hh => hbn6 (hcutown _ (hh ▸ SV.mem_own.2 ⟨x, hx, rfl⟩))) hbx
        obtain ⟨h8, s8⟩ := h7r.netStep hm k8 (p8.fr (by simp)) p8.blk fun x hx => .inl (hcutown x hx)
        have hwl : wl.step kind i draw = ⟨fl wa.ns j, (wa.net ++ wa.ns.flatMap (·.out)).drop (st6.n - 200)⟩ := by
          unfold Sf.Wl.step Sf.Wl.flush
          rw [hwa, hfN, hst6]
        rw [hwl]
        exact WOk.of h8 low6 (ex6.trans e7) s8 hL2 hA2

end
end Rx
end Go.Proofs.YtkoipeddfbeliaaGreat

/-
  The nodes and the net in memory: is all safe?
-/
namespace Go.Proofs.YtkoipeddfbeliaaGreat
namespace Rx
open Go.RowKit Md
set_option maxRecDepth 100000

theorem vbytes_mk {w : World} {d : SV} {l : List UInt8} (h : Bytes w d l) {F : ByteArray → Prop} (hF : F ⟨l.toArray⟩) : vbytes w d.p d.n F :=
  ⟨l, h.n.symm, fun _ ha => Sl.cellsAt h ha, fun hn => (Sl.nil h hn).1, hF⟩

theorem same11 {w : World} {e : Ent} {d d' : SV} (h : Bytes w d e.data) (h' : Bytes w d' e.data) :
    Calls Tryz.prog 11 #[.agg (ec (e, d)).toArray, .agg (ec (e, d')).toArray] w fun r w' => r = .returned (.bool true) ∧ Ex w w' := by
  refine ret (R := fun v w' => v = .bool true ∧ Ex w w') (c11 _ _ w ?_) (fun v w' ⟨h1, h2⟩ => ⟨by rw [h1], h2⟩)
  refine vnew_mk fun w1 e1 s1 b1 => vnew_mk fun w2 e2 s2 b2 => ?_
  have hb1 : Blk w2 w.heap.size (ec (e, d)).toArray 47 := e2.blk b1
  have hb2 : Blk w2 w1.heap.size (ec (e, d')).toArray 47 := b2
  have e12 := e1.trans e2
  simp only [add_mk, Nat.zero_add]
  refine ⟨e.index, hb1.at_ 0 rfl, e.index, hb2.at_ 0 rfl, vif_t (by simp) ⟨e.term, hb1.at_ 1 rfl, e.term, hb2.at_ 1 rfl, vif_t (by simp) ⟨e.conf, hb1.at_ 2 rfl, e.conf, hb2.at_ 2 rfl, vif_t (by simp) ⟨d.p, d.n, d.c, hb1.at_ 3 rfl, vbytes_mk (Sl.ex h e12) ⟨d'.p, d'.n, d'.c, hb2.at_ 3 rfl, vbytes_mk (Sl.ex h' e12) ⟨?_, e12⟩⟩⟩⟩⟩⟩
  simp

/-- an update of a map, on plain rows -/
theorem putL_map {α : Type} (F : α → Value) (l : List (Nat × α)) (x : Nat) (a : α) : ∃ l' : List (Nat × α), putL (l.map fun p => (p.1, F p.2)) x (F a) = l'.map (fun p => (p.1, F p.2)) ∧ ∀ p ∈ l', p ∈ l ∨ p = (x, a) := by
  unfold putL
  cases first (l.map fun p => (p.1, F p.2)) x with
  | none => exact ⟨l ++ [(x, a)], by simp, fun p hp => by simpa using hp⟩
  | some q =>
    obtain ⟨i, u⟩ := q
    exact ⟨l.set i (x, a), by simp [List.map_set], fun p hp => List.mem_or_eq_of_mem_set hp⟩

section
variable {w0 w w' : World} {b N lm am : Nat} {wl : Sf.Wl} {rs : List (Nat × Raw)} {sn sc st cm : SV} {ops : List (Msg × MD)} {L : List (Nat × Nat)} {A : List (Nat × Ent × SV)} {PL : Nat → Nat → Prop} {PA : Nat → Ent → Prop}

/-- a block that is nobody else's -/
theorem WR.mapOut (h : WR w b wl N rs sn sc st cm ops lm am L A) : lm ≠ am ∧ ∀ x, x = lm ∨ x = am → x ≠ b ∧ x ∉ sn.own ∧ x ∉ sc.own ∧ x ∉ st.own ∧ ∀ p ∈ rs, x ∉ ftp p := by
  have hnd := h.nd
  have o : ownW b sn sc st lm am rs = (b :: (sn.own ++ (sc.own ++ st.own))) ++ ([lm, am] ++ rs.flatMap ftp) := by simp [ownW]
  rw [o] at hnd
  have hout := nodup_out hnd
  refine ⟨?_, fun x hx => ?_⟩
  · rw [List.nodup_append] at hnd
    have := hnd.2.1
    rw [List.nodup_append] at this
    have := this.1
    simpa using this
  · obtain ⟨q1, q2⟩ := hout x (by rcases hx with rfl | rfl <;> simp)
    simp only [List.mem_cons, List.mem_append, not_or] at q1
    exact ⟨q1.1, q1.2.1, q1.2.2.1, q1.2.2.2, fun p hp hh => q2 (List.mem_flatMap.2 ⟨p, hp, hh⟩)⟩

theorem WR.leadPut (h : WR w b wl N rs sn sc st cm ops lm am L A) {x i : Nat} {es : Array MapEntry} {clock : Nat} (g1 : w.heap[lm]? = some (.map es clock)) (g2 : es.toList.map (fun e => (e.key, e.val)) = (L.map fun p => (p.1, iv p.2)).map (fun p => (uv p.1, p.2)))
    (g3 : (es.toList.map (·.born)).Nodup) (g4 : ∀ e ∈ es.toList, e.born < clock) {K : World → Prop}
    (hK : ∀ w' L', WR w' b wl N rs sn sc st cm ops lm am L' A → Step (ownW b sn sc st lm am rs) (ownW b sn sc st lm am rs) w w' → (∀ p ∈ L', p ∈ L ∨ p = (x, i)) → K w') : vput w lm (mapPut es clock (first (L.map fun p => (p.1, iv p.2)) x) (uv x) (iv i)) K := by
  obtain ⟨hne, hx⟩ := h.mapOut
  obtain ⟨x1, x2, x3, x4, x5⟩ := hx lm (.inl rfl)
  obtain ⟨L', hL', hm⟩ := putL_map iv L x i
  refine vput_mk h.lead.lt fun w3 k1 k2 k3 k4 => ?_
  have k := map_keeps g1 k3
  refine hK w3 L' ⟨k2.blk h.blk (by simpa using Ne.symm x1), h.nodes.fr k2 fun y hy hh => ?_, h.conf.fr k2 fun y hy hh => ?_, Sl.keeps h.cms k (.inl rfl), h.net.step k k2 fun y hy hh => ?_, ?_, h.agr.fr k2 (by simpa using Ne.symm hne), fun q hq => Sl.keeps (h.ab q hq) k (.inr rfl), fun j p hj => ?_, h.len, h.nd⟩
    ⟨k2.mono fun y hy => ?_, k, fun y hy => .inl hy⟩ hm
  · simp at hh; subst hh; exact x2 hy
  · simp at hh; subst hh; exact x3 hy
  · simp at hh; subst hh; exact x4 hy
  · rw [← hL']; exact mapPut_u g2 g3 g4 k1
  · obtain ⟨n, q1, q2⟩ := h.node j p hj
    refine ⟨n, q1, q2.step k k2 fun y hy hh => ?_⟩
    simp at hh; subst hh; exact x5 p (List.mem_of_getElem? hj) hy
  · simp at hy; subst hy; simp [ownW]

theorem WR.agrPut (h : WR w b wl N rs sn sc st cm ops lm am L A) {x : Nat} {e : Ent} {d : SV} (hd : Bytes w d e.data) {es : Array MapEntry} {clock : Nat} (g1 : w.heap[am]? = some (.map es clock)) (g2 : es.toList.map (fun e => (e.key, e.val)) = (A.map fun p => (p.1, Value.agg (ec p.2).toArray)).map (fun p => (uv p.1, p.2)))
    (g3 : (es.toList.map (·.born)).Nodup) (g4 : ∀ e ∈ es.toList, e.born < clock) {K : World → Prop}
    (hK : ∀ w' A', WR w' b wl N rs sn sc st cm ops lm am L A' → Step (ownW b sn sc st lm am rs) (ownW b sn sc st lm am rs) w w' → (∀ p ∈ A', p ∈ A ∨ p = (x, e, d)) → K w') : vput w am (mapPut es clock (first (A.map fun p => (p.1, Value.agg (ec p.2).toArray)) x) (uv x) (.agg (ec (e, d)).toArray)) K := by
  obtain ⟨hne, hx⟩ := h.mapOut
  obtain ⟨x1, x2, x3, x4, x5⟩ := hx am (.inr rfl)
  obtain ⟨A', hA', hm⟩ := putL_map (fun p : Ent × SV => Value.agg (ec p).toArray) A x (e, d)
  refine vput_mk h.agr.lt fun w3 k1 k2 k3 k4 => ?_
  have k := map_keeps g1 k3
  refine hK w3 A' ⟨k2.blk h.blk (by simpa using Ne.symm x1), h.nodes.fr k2 fun y hy hh => ?_, h.conf.fr k2 fun y hy hh => ?_, Sl.keeps h.cms k (.inl rfl), h.net.step k k2 fun y hy hh => ?_, h.lead.fr k2 (by simpa using hne), ?_, fun q hq => ?_, fun j p hj => ?_, h.len, h.nd⟩
    ⟨k2.mono fun y hy => ?_, k, fun y hy => .inl hy⟩ hm
  · simp at hh; subst hh; exact x2 hy
  · simp at hh; subst hh; exact x3 hy
  · simp at hh; subst hh; exact x4 hy
  · rw [← hA']; exact mapPut_u g2 g3 g4 k1
  · rcases hm q hq with hh | rfl
    · exact Sl.keeps (h.ab q hh) k (.inr rfl)
    · exact Sl.keeps hd k (.inr rfl)
  · obtain ⟨n, q1, q2⟩ := h.node j p hj
    refine ⟨n, q1, q2.step k k2 fun y hy hh => ?_⟩
    simp at hh; subst hh; exact x5 p (List.mem_of_getElem? hj) hy
  · simp at hy; subst hy; simp [ownW]

theorem first_mem {α : Type} {F : α → Value} {l : List (Nat × α)} {x i : Nat} {v : Value} (h : first (l.map fun p => (p.1, F p.2)) x = some (i, v)) : ∃ a, (x, a) ∈ l ∧ v = F a := by
  obtain ⟨h1, _⟩ := first_some h
  rw [List.getElem?_map] at h1
  cases hl : l[i]? with
  | none => rw [hl] at h1; cases h1
  | some p =>
    rw [hl] at h1
    simp only [Option.map_some, Option.some.injEq, Prod.mk.injEq] at h1
    refine ⟨p.2, ?_, h1.2.symm⟩
    rw [← h1.1]; exact List.mem_of_getElem? hl

theorem safe12 (h : WOk w0 w b wl N PL PA) (hN : N ≤ 7) (fit : ∀ n ∈ wl.ns, Fit n) (hl : ∀ (i : Nat) (n : Md.Node), wl.ns[i]? = some n → n.role = 3 → PL n.term i) (ha : ∀ n ∈ wl.ns, ∀ e ∈ n.log.l, e.index ≤ n.commit → PA e.index e)
    (f1 : ∀ T i j, PL T i → PL T j → i = j) (f2 : ∀ k e e', PA k e → PA k e' → e = e') :
    Calls Tryz.prog 12 #[.pointer (some ⟨b, 0, none⟩)] w fun e w' => e = .returned (.bool true) ∧ WOk w0 w' b wl N PL PA := by
  refine ret (R := fun v w' => v = .bool true ∧ WOk w0 w' b wl N PL PA) (c12 _ w ?_) (fun v w' ⟨h1, h2⟩ => ⟨by rw [h1], h2⟩)
  obtain ⟨rs, sn, sc, st, cm, ops, lm, am, L, A, hw, low, ex, hL, hA⟩ := h
  have hsn : sn.n = N := by have hh := hw.nodes.len; rw [List.length_map, hw.len.1] at hh; omega
  unfold F12
  simp only [add_mk, Nat.zero_add]
  -- what holds while this goes on
  let J : World → Prop := fun w' => ∃ L' A', WR w' b wl N rs sn sc st cm ops lm am L' A' ∧ Ex w0 w' ∧ (∀ p ∈ L', PL p.1 p.2) ∧ ∀ p ∈ A', PA p.1 p.2.1
  have Jex : ∀ {w1 w2 : World}, J w1 → Ex w1 w2 → J w2 := fun ⟨L', A', q1, q2, q3, q4⟩ e => ⟨L', A', q1.ex e, q2.trans e, q3, q4⟩
  refine ⟨sn.p, sn.n, sn.c, hw.blk.at_ 0 rfl, fun vs w' => ∃ j : Nat, vs = [iv j] ∧ j ≤ N ∧ J w', fun vs _ => match vs with | [.int _ j] => ((N : Int) - j).toNat | _ => 0, ⟨0, rfl, by omega, L, A, hw, ex, hL, hA⟩, ?_⟩
  rintro i4 w1 ⟨j, hv, hj, hJ1⟩
  simp only [iv, List.cons.injEq, Value.int.injEq, and_true, true_and] at hv
  subst hv
  refine vif_mk (fun h2 => ?_) fun h2 => ?_
  · have hjN : j < N := by simp at h2; omega
    obtain ⟨L1, A1, hw1, ex1, hL1, hA1⟩ := hJ1
    have hrl : j < rs.length := by rw [hw.len.1]; exact hjN
    have hrj : rs[j]? = some rs[j] := List.getElem?_eq_getElem hrl
    generalize rs[j] = p at hrj
    obtain ⟨n, hn, hR1⟩ := hw1.node j p hrj
    have hnm := List.mem_of_getElem? hn
    have hfit := fit n hnm
    have nodeR : ∀ {w' : World}, J w' → NodeR w' p.1 n p.2 := fun ⟨L', A', q, _⟩ => by
      obtain ⟨n', q1, q2⟩ := q.node j p hrj
      rw [hn] at q1; rw [Option.some.inj q1]; exact q2
    refine Sl.load hw1.nodes (i := j) (v := .pointer (some ⟨p.1, 0, none⟩)) (by rw [List.getElem?_map, hrj]; rfl) fun a ha' => ⟨some ⟨p.1, 0, none⟩, ha', fun vs w' => vs = [] ∧ J w', (role17 hR1).mono ?_, ?_⟩
    · rintro _ w2 ⟨rfl, rfl⟩
      refine ⟨_, rfl, vif_mk (fun h3 => vdraw_mk fun w3 e3 _ => ?_) fun h3 => ⟨rfl, L1, A1, hw1, ex1, hL1, hA1⟩⟩
      have hr3 : n.role = 3 := by simp at h3; omega
      have hPL := hl j n hn hr3
      have h3r := hw1.ex e3
      have put : ∀ {w4 : World}, Ex w3 w4 → ∃ (J13 : World → Prop), J13 w4 ∧ ∃ (m26 : Option Nat), (∀ w, J13 w → w.cell? ⟨b, 3, none⟩ = some (.map m26)) ∧ Calls Tryz.prog 20 #[.pointer (some ⟨p.1, 0, none⟩)] w4 fun e27 w28 => ∃ (i29 : Int), e27 = .returned (.int .u64 (i29)) ∧ J13 w28 ∧ vmap w28 m26 fun m30 e31 c32 => ∃ r33, Instr.findNow (.int .u64) (.int .u64 (i29)) e31.toList 0 = some r33 ∧
          vput w28 m30 (mapPut e31 c32 r33 (.int .u64 (i29)) (.int .i64 (j : Int))) fun w34 => ([] : List Value) = [] ∧ J w34 := by
        intro w4 e4
        have h4 := h3r.ex e4
        refine ⟨fun w' => Ex w4 w', Ex.refl _, some lm, fun w' e' => (h4.ex e').blk.at_ 3 rfl, (term20 (hR1.ex (e3.trans e4))).mono ?_⟩
        rintro _ _ ⟨rfl, rfl⟩
        refine ⟨_, rfl, Ex.refl _, h4.lead.find n.term fun es clock g1 g2 g3 g4 g5 => ⟨_, g5, ?_⟩⟩
        refine h4.leadPut g1 g2 g3 g4 fun w5 L' k1 k2 k3 => ⟨rfl, L', A1, k1, (ex1.trans (e3.trans e4)).fr' k2.fr low, fun q hq => ?_, hA1⟩
        rcases k3 q hq with hh | rfl
        · exact hL1 q hh
        · exact hPL
      refine ⟨fun w' => Ex w3 w', Ex.refl _, some lm, fun w' e' => (h3r.ex e').blk.at_ 3 rfl, (term20 (hR1.ex e3)).mono ?_⟩
      rintro _ _ ⟨rfl, rfl⟩
      refine ⟨_, rfl, Ex.refl _, h3r.lead.find n.term fun es clock g1 g2 g3 g4 g5 => ⟨_, g5, ?_⟩⟩
      cases hf : first (L1.map fun p => (p.1, iv p.2)) n.term with
      | none => exact ⟨0, false, rfl, vif_f rfl (vdraw_mk fun w4 e4 _ => put e4)⟩
      | some q =>
        obtain ⟨k, v⟩ := q
        obtain ⟨who, hm, rfl⟩ := first_mem (F := iv) hf
        have hwho : who = j := f1 n.term who j (hL1 _ hm) hPL
        subst hwho
        exact ⟨_, true, rfl, vif_t rfl (vif_f (by simp) (vdraw_mk fun w4 e4 _ => put e4))⟩
    · rintro w2 ⟨_, hJ2⟩
      refine (state10 (nodeR hJ2) hfit).mono ?_
      rintro _ w3 ⟨m, d, q, qs, rfl, e3, _, _, hq, _⟩
      refine ⟨_, rfl, rfl, vnew_mk fun w4 e4 s4 b4 => ?_⟩
      have hb4 : Blk w4 w3.heap.size #[.int .u64 0, .int .i64 0, .int .u64 0, .int .u64 0, .slice Option.none 0 0, .slice Option.none 0 0, .slice Option.none 0 0] 43 := b4
      refine vstoreN_mk hb4 rfl (by simp) (by simp [stA, isOne]) fun w5 p5 => ?_
      have hb5 : Blk w5 w3.heap.size (stA n.term n.vote n.img.index n.img.term m d q) 43 := p5.blk
      have e35 : Ex w3 w5 := e4.put p5 (Nat.le_refl _)
      have hJ5 := Jex (Jex hJ2 e3) e35
      have hq5 : Ents w5 q n.log.l qs := hq.keeps e35.keeps
      have hql := hq5.len
      have hqn := hq5.n
      have hll := hfit.log.len
      refine ⟨q.p, q.n, q.c, hb5.at_ 6 rfl, fun vs w' => ∃ k : Nat, vs = [iv k] ∧ k ≤ n.log.l.length ∧ J w' ∧ Keeps w5 w', fun vs _ => match vs with | [.int _ k] => ((n.log.l.length : Int) - k).toNat | _ => 0, ⟨0, rfl, by omega, hJ5, Keeps.refl _⟩, ?_⟩
      rintro i6 w6 ⟨k, hv, hk, hJ6, kp6⟩
      simp only [iv, List.cons.injEq, Value.int.injEq, and_true, true_and] at hv
      subst hv
      have hq6 := hq5.keeps kp6
      have next : ∀ {w' : World}, J w' → (∃ j_1 : Nat, [iv (j + 1)] = [iv j_1] ∧ j_1 ≤ N ∧ J w') := fun h => ⟨j + 1, rfl, hjN, h⟩
      refine vif_mk (fun h7 => ?_) fun h7 => ?_
      · have hkl : k < n.log.l.length := by simp at h7; omega
        have hkq : qs[k]? = some qs[k] := List.getElem?_eq_getElem (by omega)
        have hfst : n.log.l[k]? = some qs[k].1 := by rw [← hq6.fst, List.getElem?_map, hkq]; rfl
        have hdat := hq6.data _ (List.getElem_mem (by omega : k < qs.length))
        generalize qs[k] = y at hkq hfst hdat
        have hymem : y.1 ∈ n.log.l := List.mem_of_getElem? hfst
        refine Sl.elem (by decide) ec_len hq6.sl hkq (local_ent rfl (fun v hv => one_ec [y] v (by simpa using hv)) fun c7 w7 e7 hc7 hb7 => vdraw_mk fun w8 e8 _ => ?_)
        have e78 := e7.trans e8
        have hJ8 := Jex hJ6 e78
        have hb8 := e8.blk hb7
        have hd8 : Bytes w8 y.2 y.1.data := Sl.ex hdat e78
        refine ⟨fun w' => Ex w8 w', Ex.refl _, y.1.index, fun w' e' => (e'.blk hb8).at_ 0 rfl, (commit19 (nodeR hJ8)).mono ?_⟩
        rintro _ _ ⟨rfl, rfl⟩
        refine ⟨_, rfl, Ex.refl _, vif_mk (fun h9 => ?_) fun h9 => vdraw_mk fun w9 e9 _ => ?_⟩
        · rw [wi (by omega) (by omega)]
          exact ⟨⟨j + 1, by simp [iv], hjN, hJ8⟩, by simp only; omega⟩
        · have hle : y.1.index ≤ n.commit := by simp at h9; omega
          have hPA := ha n hnm y.1 hymem hle
          obtain ⟨L9, A9, hw9, ex9, hL9, hA9⟩ := Jex hJ8 e9
          have hb9 := e9.blk hb8
          have hd9 : Bytes w9 y.2 y.1.data := Sl.ex hd8 e9
          have kp9 := kp6.trans (e78.trans e9).keeps
          have put : ∀ {w4 : World}, Ex w9 w4 → ∃ (m87 : Option Nat), w4.cell? ⟨b, 4, none⟩ = some (.map m87) ∧ ∃ (i88 : Int), w4.cell? ⟨c7, 0, none⟩ = some (.int .u64 (i88)) ∧ vcells 4 w4 ⟨c7, 0, none⟩ fun g89 => vmap w4 m87 fun m90 e91 c92 => ∃ r93, Instr.findNow (.int .u64) (.int .u64 (i88)) e91.toList 0 = some r93 ∧ vput w4 m90 (mapPut e91 c92 r93 (.int .u64 (i88)) (.agg g89)) fun w94 =>
              (∃ k_1 : Nat, [Value.int .i64 (IntKind.i64.wrap ((k : Int) + 1))] = [iv k_1] ∧ k_1 ≤ n.log.l.length ∧ J w94 ∧ Keeps w5 w94) ∧ (((n.log.l.length : Int) - (IntKind.i64.wrap ((k : Int) + 1))).toNat) < (((n.log.l.length : Int) - (k : Int)).toNat) := by
            intro w4 e4
            have h4 := hw9.ex e4
            refine ⟨some am, h4.blk.at_ 4 rfl, y.1.index, (e4.blk hb9).at_ 0 rfl, vcells_all (e4.blk hb9) 4 rfl (h4.agr.find y.1.index fun es clock g1 g2 g3 g4 g5 => ⟨_, g5, ?_⟩)⟩
            refine h4.agrPut (e := y.1) (d := y.2) (Sl.ex hd9 e4) g1 g2 g3 g4 fun w5' A' k1 k2 k3 => ?_
            rw [wi (by omega) (by omega)]
            refine ⟨⟨k + 1, by simp [iv], hkl, ⟨L9, A', k1, (ex9.trans e4).fr' k2.fr low, hL9, fun q hq => ?_⟩, (kp9.trans e4.keeps).trans k2.keeps⟩, by omega⟩
            rcases k3 q hq with hh | rfl
            · exact hA9 q hh
            · exact hPA
          refine ⟨some am, hw9.blk.at_ 4 rfl, y.1.index, hb9.at_ 0 rfl, hw9.agr.find y.1.index fun es clock g1 g2 g3 g4 g5 => ⟨_, g5, ?_⟩⟩
          cases hf : first (A9.map fun p => (p.1, Value.agg (ec p.2).toArray)) y.1.index with
          | none =>
            refine ⟨_, rfl, false, rfl, local_ent rfl (by simp [isOne]) fun c10 w10 e10 hc10 hb10 => vif_f rfl (vdraw_mk fun w11 e11 _ => put (e10.trans e11))⟩
          | some z =>
            obtain ⟨kk, v⟩ := z
            obtain ⟨ed, hm, rfl⟩ := first_mem (F := fun p : Ent × SV => Value.agg (ec p).toArray) hf
            have hed : ed.1 = y.1 := f2 _ _ _ (hA9 _ hm) hPA
            have hbd : Bytes w9 ed.2 ed.1.data := hw9.ab _ hm
            refine ⟨(ec ed).toArray, rfl, true, rfl, local_ent rfl (fun v hv => one_ec [ed] v (by simpa using hv)) fun c10 w10 e10 hc10 hb10 => vif_t rfl (vcells_all (e10.blk hb9) 4 rfl (vcells_all hb10 4 rfl ?_))⟩
            have hee : ed = (y.1, ed.2) := by rw [← hed]
            rw [hee]
            refine (same11 (Sl.ex hd9 e10) (Sl.ex (by rw [← hed]; exact hbd) e10)).mono ?_
            rintro _ w11 ⟨rfl, e11⟩
            exact ⟨_, rfl, vif_f (by simp) (vdraw_mk fun w12 e12 _ => put ((e10.trans e11).trans e12))⟩
      · rw [wi (by omega) (by omega)]
        exact ⟨⟨j + 1, by simp [iv], hjN, hJ6⟩, by simp only; omega⟩
  · obtain ⟨L1, A1, hw1, ex1, hL1, hA1⟩ := hJ1
    exact ⟨by trivial, rs, sn, sc, st, cm, ops, lm, am, L1, A1, hw1, low, ex1, hL1, hA1⟩

end
end Rx
end Go.Proofs.YtkoipeddfbeliaaGreat

/-
  The nodes and the net in memory: the chapter's example; the beginning.
-/
namespace Go.Proofs.YtkoipeddfbeliaaGreat
namespace Rx
open Go.RowKit Md
set_option maxRecDepth 100000

def nA : Md.Node := newN 1 [1] 2 1 0 0 ⟨0, 0, []⟩ []
def nB : Md.Node := nA.tick 0
def nC : Md.Node := nB.tick 0
theorem nB_is : nB = { nA with since := 1 } := by rfl
theorem nC_role : nC.role = 3 := by decide +kernel
theorem nC_commit : nC.commit = 1 := by decide +kernel
theorem nC_log : nC.log = ⟨0, 0, [⟨1, 1, false, [0, 0, 0]⟩]⟩ := by rfl
theorem nC_poll : nC.poll = none := by rfl
theorem nC_track : nC.track = some [] := by rfl
theorem nC_img : nC.img = ⟨0, 0, [1]⟩ := by rfl
theorem fitA : Fit nA := ⟨⟨fun k x hk => by simp [nA, newN] at hk, by decide, by decide, fun x hx => by simp [nA, newN] at hx⟩, fun x hx => by simp [nA, newN] at hx, by decide, fun b hb => by simp [nA, newN] at hb, fun t ht => by simp [nA, newN] at ht⟩
theorem fitC : Fit nC := by
  refine ⟨?_, ?_, ?_, ?_, ?_⟩
  · rw [nC_log]
    refine ⟨fun k x hk => ?_, by decide, by decide, fun x hx => ?_⟩
    · cases k with
      | zero => simp at hk; subst hk; rfl
      | succ k => simp at hk
    · simp at hx; subst hx; decide
  · rw [nC_log]; intro x hx hc; simp at hx; subst hx; cases hc
  · rw [nC_img]; decide
  · rw [nC_poll]; intro b hb; cases hb
  · rw [nC_track]; intro t ht p hp; cases ht; cases hp

theorem lives7 {w : World} : Calls Tryz.prog 7 #[] w fun e w' => e = .returned (.bool true) ∧ Ex w w' := by
  refine ret (R := fun v w' => v = .bool true ∧ Ex w w') (c7 w ?_) (fun v w' ⟨h1, h2⟩ => ⟨by rw [h1], h2⟩)
  unfold F7
  refine ⟨rfl, vnew_mk fun w1 e1 s1 b1 => ?_⟩
  have hb1 : Blk w1 w.heap.size #[iv 1] 3 := b1
  have hc : Ints w1 ⟨some ⟨w.heap.size, 0, none⟩, 1, 1⟩ [1] := Sl.of_blk (n := 1) hb1 rfl
  refine (show _ from new22 (id := 1) (elect := 2) (beat := 1) (term := 0) (vote := 0) (cm := [1]) (im := ⟨0, 0, []⟩) (l := []) hc (m := .nil) (Sl.zero _ _ _) (d := .nil) (data := []) (Sl.zero _ _ _) (by simp) (q := .nil) (Ents.zero _) ⟨by omega, by omega⟩ (by decide) ⟨by omega, by omega⟩ ⟨by omega, by omega⟩ rfl rfl (by simp) (by omega) (by decide) (by omega) (by simp) (.inl rfl)).mono ?_
  rintro _ w2 ⟨b, r, rfl, h2, e2, hf⟩
  have h2 : NodeR w2 b nA r := h2
  have e12 := e1.trans e2
  have low : ∀ x ∈ foot b r, w.heap.size ≤ x := fun x hx => Nat.le_trans e1.size (hf x hx)
  refine ⟨_, _, rfl, (tick13 h2 fitA 0 (by simp [nA, newN]) (by simp [nA, newN]) (by simp [nA, newN]) (by simp [nA, newN]) (by simp [nA, newN])).mono ?_⟩
  rintro _ w3 ⟨rfl, r3, h3, s3⟩
  have h3 : NodeR w3 b nB r3 := h3
  have e3 := e12.fr' s3.fr low
  have low3 : ∀ x ∈ foot b r3, w.heap.size ≤ x := fun x hx => (s3.own x hx).elim (low x) fun hh => Nat.le_trans e12.size hh
  have fitB : Fit nB := by rw [nB_is]; exact ⟨fitA.log, fitA.cf, fitA.im, fitA.poll, fitA.track⟩
  refine ⟨rfl, (role17 h3).mono ?_⟩
  rintro _ _ ⟨rfl, rfl⟩
  have hrB : nB.role = 0 := by rw [nB_is]; rfl
  refine ⟨_, rfl, (tick13 h3 fitB 0 (by rw [nB_is]; simp [nA, newN]) (by rw [nB_is]; decide) (by rw [nB_is]; simp [nA, newN]) (by rw [nB_is]; simp [nA, newN]) (by rw [hrB]; intro hh; cases hh)).mono ?_⟩
  rintro _ w4 ⟨rfl, r4, h4, s4⟩
  have h4 : NodeR w4 b nC r4 := h4
  have e4 := e3.fr' s4.fr low3
  refine ⟨rfl, vif_t (by decide) (vif_t (by rw [hrB]; decide) ((role17 h4).mono ?_))⟩
  rintro _ _ ⟨rfl, rfl⟩
  refine ⟨_, rfl, vif_t (by rw [nC_role]; decide) ((commit19 h4).mono ?_)⟩
  rintro _ _ ⟨rfl, rfl⟩
  refine ⟨_, rfl, vif_t (by rw [nC_commit]; decide) ((last21 h4 fitC).mono ?_)⟩
  rintro _ w5 ⟨rfl, e5⟩
  refine ⟨_, rfl, ?_, e4.trans e5⟩
  rw [nC_log]; rfl

end Rx
end Go.Proofs.YtkoipeddfbeliaaGreat

/-
  The nodes and the net in memory: the beginning.
-/
namespace Go.Proofs.YtkoipeddfbeliaaGreat
namespace Rx
open Go.RowKit Md
set_option maxRecDepth 100000

def cf4 (cm : SV) (i : Nat) : List Value := (cfA (i + 1) cm 4 2).toList
theorem cf4_len (cm : SV) (i : Nat) : (cf4 cm i).length = 4 := rfl

/-- so many nodes are there -/
structure WB (w0 w : World) (b S j : Nat) (rs : List (Nat × Raw)) (sn sc cm : SV) (lm am : Nat) : Prop where
  blk : Blk w b (cellsW sn sc .nil lm am) 36
  nodes : Sl w 44 1 sn (rs.map fun p => .pointer (some ⟨p.1, 0, none⟩))
  conf : Sl w 64 4 sc ((List.range j).flatMap (cf4 cm))
  cms : Ints w cm (Sf.firstM S)
  lead : MapU w lm []
  agr : MapU w am []
  node : ∀ (i : Nat) (p : Nat × Raw), rs[i]? = some p → NodeR w p.1 (Sf.node0 S i) p.2
  len : rs.length = j
  nd : (ownW b sn sc .nil lm am rs).Nodup
  low : ∀ x ∈ ownW b sn sc .nil lm am rs, w0.heap.size ≤ x
  ex : Ex w0 w

theorem addr_own {r s : SV} (h : r.p = s.p) : r.own = s.own := by unfold SV.own; rw [h]

theorem grow_nd {w w' : World} {el k : Nat} {z : Array Value} {s r : SV} {new : List Value} (g : Grow w w' el k z s r new) : r.own = s.own ∨ r.own = [w.heap.size] ∨ r.own = [] := by
  cases g with
  | here a cs hp hb hw hr hc hn => exact .inl (addr_own hr)
  | stay hp hr hw => right; right; simp [SV.own, hr]
  | fresh hr hw cs hb ht => right; left; simp [SV.own, hr]

section
variable {w0 w : World} {b S j lm am : Nat} {rs : List (Nat × Raw)} {sn sc cm : SV}

theorem WB.exd (h : WB w0 w b S j rs sn sc cm lm am) {w' : World} (e : Ex w w') : WB w0 w' b S j rs sn sc cm lm am :=
  ⟨e.blk h.blk, h.nodes.ex e, h.conf.ex e, Sl.ex h.cms e, h.lead.fr (e.fr []) (by simp), h.agr.fr (e.fr []) (by simp), fun i p hp => (h.node i p hp).ex e, h.len, h.nd, h.low, h.ex.trans e⟩
theorem WB.lt (h : WB w0 w b S j rs sn sc cm lm am) : ∀ x ∈ ownW b sn sc .nil lm am rs, x < w.heap.size := by
  intro x hx
  simp only [ownW, List.mem_cons, List.mem_append, SV.own, SV.nil, List.not_mem_nil, false_or] at hx
  rcases hx with rfl | hx | hx | rfl | rfl | hx
  · exact h.blk.lt
  · exact h.nodes.own_lt x hx
  · exact h.conf.own_lt x hx
  · exact h.lead.lt
  · exact h.agr.lt
  · obtain ⟨p, hp, hxp⟩ := List.mem_flatMap.1 hx
    obtain ⟨i, hi⟩ := List.mem_iff_getElem?.1 hp
    exact (h.node i p hi).lt x hxp

/-- one node more: the rows grow, and are stored -/
theorem beg_end (h : WB w0 w b S j rs sn sc cm lm am) (hS : S ≤ 7) (hj : j < S) {w1 w2 w3 : World} {b' : Nat} {r' : Raw} {r1 : SV} {c : Nat} {z : Array Value} (hn : NodeR w b' (Sf.node0 S j) r') (hfo : ∀ x ∈ foot b' r', x ∉ ownW b sn sc .nil lm am rs) (hfl : ∀ x ∈ foot b' r', w0.heap.size ≤ x)
    (e1 : Ex w w1) (hr1 : Sl w2 44 1 r1 (rs.map (fun p => Value.pointer (some ⟨p.1, 0, none⟩)) ++ [.pointer (some ⟨b', 0, none⟩)])) (g1 : Grow w1 w2 44 1 z sn r1 [.pointer (some ⟨b', 0, none⟩)])
    (e3 : Ex w2 w3) (hc : Blk w3 c (cf4 cm j).toArray 64) {K : World → Prop} (hK : ∀ w' sn' sc', WB w0 w' b S (j + 1) (rs ++ [(b', r')]) sn' sc' cm lm am → K w') :
    vappend Tryz.prog 64 w3 sc.p sc.n sc.c (some ⟨c, 0, none⟩) 1 fun s n c' w4 => vstore1 w4 ⟨b, 0, none⟩ (.slice r1.p r1.n r1.c) fun w5 => vstore1 w5 ⟨b, 1, none⟩ (.slice s n c') K := by
  have hsnN : sn.n = j := by have hh := h.nodes.len; rw [List.length_map, h.len] at hh; omega
  have hscN : sc.n = j := by have hh := h.conf.len; rw [flat_len (cf4_len cm)] at hh; simp at hh; omega
  -- what is whose
  have hnd := h.nd
  have o1 : ownW b sn sc .nil lm am rs = [] ++ ((b :: (sn.own ++ sc.own)) ++ (lm :: am :: rs.flatMap ftp)) := by simp [ownW, SV.own, SV.nil]
  rw [o1] at hnd
  have hout := nodup_out hnd
  have hM : ∀ x ∈ lm :: am :: rs.flatMap ftp, x ∉ b :: (sn.own ++ sc.own) := fun x hx hh => (hout x hh).2 hx
  have hb3 : b ∉ sn.own ∧ b ∉ sc.own ∧ ∀ x ∈ sn.own, x ∉ sc.own := by
    rw [List.nil_append, List.nodup_append] at hnd
    have h1 := hnd.1
    rw [List.nodup_cons, List.nodup_append] at h1
    refine ⟨fun hh => h1.1 (by simp [hh]), fun hh => h1.1 (by simp [hh]), fun x hx hh => h1.2.2.2 x hx x hh rfl⟩
  have hnM : ∀ x ∈ foot b' r', x ∉ b :: (sn.own ++ sc.own) := fun x hx hh => hfo x hx (by rw [o1]; simp only [List.nil_append]; exact List.mem_append_left _ hh)
  have hlt := h.lt
  have ltsn : ∀ x ∈ sn.own, x < w.heap.size := fun x hx => hlt x (by simp [ownW, hx])
  have ltsc : ∀ x ∈ sc.own, x < w.heap.size := fun x hx => hlt x (by simp [ownW, hx])
  have ltb : b < w.heap.size := h.blk.lt
  have sz1 := e1.size
  have f12 : Fr (b :: (sn.own ++ sc.own)) w1 w2 := g1.fr.mono fun x hx => by simp [hx]
  have f13 : Fr (b :: (sn.own ++ sc.own)) w w3 := ((e1.fr _).trans f12).trans (e3.fr _)
  have sz12 := g1.fr.size
  have sz3 := e3.size
  have k13 : Keeps w w3 := (e1.keeps.trans (g1.keeps (by decide))).trans e3.keeps
  have hr1o : r1.own = sn.own ∨ r1.own = [w1.heap.size] ∨ r1.own = [] := grow_nd g1
  have hr1x : ∀ x ∈ r1.own, x ∉ sc.own ∧ x ≠ b ∧ x ∉ (lm :: am :: rs.flatMap ftp) ∧ x ∉ foot b' r' ∧ w0.heap.size ≤ x ∧ x < w3.heap.size := by
    intro x hx
    have hxl := (hr1.ex e3).own_lt x hx
    rcases g1.own x hx with hh | hh
    · refine ⟨hb3.2.2 x hh, fun e => hb3.1 (e ▸ hh), (hout x (by simp [hh])).2, fun e => hnM x e (by simp [hh]), h.low x (by simp [ownW, hh]), hxl⟩
    · refine ⟨fun e => by have := ltsc x e; omega, by omega, fun e => by have := hlt x (by rw [o1]; exact List.mem_append_right _ (List.mem_append_right _ e)); omega, fun e => by have := hn.lt x e; omega, by have := h.ex.size; omega, hxl⟩
  have hconf3 : Sl w3 64 4 sc ((List.range j).flatMap (cf4 cm)) := (h.conf.fr ((e1.fr []).trans (Fr.refl _ _)) (by simp)).fr (g1.fr) (fun x hx hh => hb3.2.2 x hh hx) |>.ex e3
  have hnodes3 := hr1.ex e3
  refine app64 (s := sc) (q := ⟨some ⟨c, 0, none⟩, 1, 1⟩) hconf3 (Sl.of_blk (n := 1) hc rfl) (by simp [cf4, cfA, isOne]) (by simp; omega) fun r2 w4 hr2 hr2n g2 => ?_
  have hr2o : r2.own = sc.own ∨ r2.own = [w3.heap.size] ∨ r2.own = [] := grow_nd g2
  have hr2x : ∀ x ∈ r2.own, x ∉ r1.own ∧ x ≠ b ∧ x ∉ (lm :: am :: rs.flatMap ftp) ∧ x ∉ foot b' r' ∧ w0.heap.size ≤ x := by
    intro x hx
    rcases g2.own x hx with hh | hh
    · exact ⟨fun e => (hr1x x e).1 hh, fun e => hb3.2.1 (e ▸ hh), (hout x (by simp [hh])).2, fun e => hnM x e (by simp [hh]), h.low x (by simp [ownW, hh])⟩
    · refine ⟨fun e => by have := (hr1x x e).2.2.2.2.2; omega, by omega, fun e => by have := hlt x (by rw [o1]; exact List.mem_append_right _ (List.mem_append_right _ e)); omega, fun e => by have := hn.lt x e; omega, by have := h.ex.size; omega⟩
  have f34 : Fr (b :: (sn.own ++ sc.own)) w3 w4 := g2.fr.mono fun x hx => by simp [hx]
  have hb4 : Blk w4 b (cellsW sn sc .nil lm am) 36 := by
    refine g2.fr.blk (e3.blk (g1.fr.blk (e1.blk h.blk) hb3.1)) hb3.2.1
  refine vstore1_mk hb4 (by simp [cellsW]) fun w5 p5 => vstore1_mk p5.blk (by simp [cellsW]) fun w6 p6 => ?_
  have f46 : Fr (b :: (sn.own ++ sc.own)) w4 w6 := (p5.fr (by simp)).trans (p6.fr (by simp))
  have k46 : Keeps w4 w6 := (p5.keeps hb4 (by decide)).trans (p6.keeps p5.blk (by decide))
  have fall := (f13.trans f34).trans f46
  have kall := (k13.trans (g2.keeps (by decide))).trans k46
  have same6 : ∀ {s : SV} {ty k : Nat} {vs : List Value}, Sl w4 ty k s vs → b ∉ s.own → Sl w6 ty k s vs := fun {s ty k vs} hs hbs => by
    refine Sl.blk hs fun a cs ha hbb => p6.other (fun hh => ?_) (p5.other (fun hh => ?_) hbb)
    · exact hbs (hh ▸ SV.mem_own.2 ⟨a, ha, rfl⟩)
    · exact hbs (hh ▸ SV.mem_own.2 ⟨a, ha, rfl⟩)
  have hcr : (List.range (j + 1)).flatMap (cf4 cm) = (List.range j).flatMap (cf4 cm) ++ cf4 cm j := by rw [List.range_succ, List.flatMap_append]; simp
  refine hK w6 r1 r2 ⟨p6.blk, ?_, ?_, Sl.keeps h.cms kall (.inl rfl), h.lead.fr fall (hM lm (by simp)), h.agr.fr fall (hM am (by simp)), fun i p hp => ?_, by simp [h.len], ?_, fun x hx => ?_, ?_⟩
  · rw [List.map_append]
    refine same6 (hnodes3.fr g2.fr fun x hx => (hr1x x hx).1) fun hh => (hr1x b hh).2.1 rfl
  · rw [hcr]
    exact same6 (by simpa using hr2) fun hh => (hr2x b hh).2.1 rfl
  · rcases Nat.lt_or_ge i rs.length with hlt' | hge
    · rw [List.getElem?_append_left hlt'] at hp
      refine (h.node i p hp).step kall fall fun x hx => hM x (List.mem_cons_of_mem _ (List.mem_cons_of_mem _ (List.mem_flatMap.2 ⟨p, List.mem_of_getElem? hp, hx⟩)))
    · rw [List.getElem?_append_right hge] at hp
      have hi0 : i - rs.length = 0 := by have := (List.getElem?_eq_some_iff.1 hp).1; simpa using this
      rw [hi0] at hp
      simp at hp
      have hij : i = j := by have := h.len; omega
      subst hp; subst hij
      exact hn.step kall fall hnM
  · -- nothing is anybody else's
    have hrest : (lm :: am :: rs.flatMap ftp).Nodup := by rw [List.nil_append, List.nodup_append] at hnd; exact hnd.2.1
    have hone : ∀ {r : SV}, r.own.Nodup := fun {r} => by unfold SV.own; split <;> simp
    have e0 : ownW b r1 r2 .nil lm am (rs ++ [(b', r')]) = b :: (r1.own ++ (r2.own ++ ((lm :: am :: rs.flatMap ftp) ++ foot b' r'))) := by simp [ownW, SV.own, SV.nil, ftp]
    rw [e0]
    have n1 : ((lm :: am :: rs.flatMap ftp) ++ foot b' r').Nodup := by
      rw [List.nodup_append]
      refine ⟨hrest, hn.nd, fun x hx y hy hxy => ?_⟩
      subst hxy
      exact hfo x hy (by rw [o1]; exact List.mem_append_right _ (List.mem_append_right _ hx))
    have n2 : (r2.own ++ ((lm :: am :: rs.flatMap ftp) ++ foot b' r')).Nodup := by
      rw [List.nodup_append]
      refine ⟨hone, n1, fun x hx y hy hxy => ?_⟩
      subst hxy
      obtain ⟨_, _, q3, q4, _⟩ := hr2x x hx
      rcases List.mem_append.1 hy with hy | hy
      · exact q3 hy
      · exact q4 hy
    have n3 : (r1.own ++ (r2.own ++ ((lm :: am :: rs.flatMap ftp) ++ foot b' r'))).Nodup := by
      rw [List.nodup_append]
      refine ⟨hone, n2, fun x hx y hy hxy => ?_⟩
      subst hxy
      obtain ⟨_, _, q3, q4, _⟩ := hr1x x hx
      rcases List.mem_append.1 hy with hy | hy
      · exact (hr2x x hy).1 hx
      · rcases List.mem_append.1 hy with hy | hy
        · exact q3 hy
        · exact q4 hy
    rw [List.nodup_cons]
    refine ⟨fun hh => ?_, n3⟩
    rcases List.mem_append.1 hh with hh | hh
    · exact (hr1x b hh).2.1 rfl
    · rcases List.mem_append.1 hh with hh | hh
      · exact (hr2x b hh).2.1 rfl
      · rcases List.mem_append.1 hh with hh | hh
        · exact (hout b (by simp)).2 hh
        · exact hfo b hh (by simp [ownW])
  · have e0 : ownW b r1 r2 .nil lm am (rs ++ [(b', r')]) = b :: (r1.own ++ (r2.own ++ ((lm :: am :: rs.flatMap ftp) ++ foot b' r'))) := by simp [ownW, SV.own, SV.nil, ftp]
    rw [e0] at hx
    rcases List.mem_cons.1 hx with rfl | hx
    · exact h.low x (by simp [ownW])
    · rcases List.mem_append.1 hx with hx | hx
      · exact (hr1x x hx).2.2.2.2.1
      · rcases List.mem_append.1 hx with hx | hx
        · exact (hr2x x hx).2.2.2.2
        · rcases List.mem_append.1 hx with hx | hx
          · exact h.low x (by rw [o1]; exact List.mem_append_right _ (List.mem_append_right _ hx))
          · exact hfl x hx
  · exact h.ex.fr' fall fun x hx => h.low x (by rw [o1]; simp only [List.nil_append]; exact List.mem_append_left _ hx)

theorem begin8 {w : World} {S : Nat} (h1 : 1 ≤ S) (h7 : S ≤ 7) (PL : Nat → Nat → Prop) (PA : Nat → Ent → Prop) :
    Calls Tryz.prog 8 #[.int .i64 (S : Int)] w fun e w' => ∃ b, e = .returned (.pointer (some ⟨b, 0, none⟩)) ∧ WOk w w' b (Sf.begin0 S) S PL PA := by
  refine ret (R := fun v w' => ∃ b, v = .pointer (some ⟨b, 0, none⟩) ∧ WOk w w' b (Sf.begin0 S) S PL PA) (c8 S w ?_) (fun v w' ⟨b, h1, h2⟩ => ⟨b, by rw [h1], h2⟩)
  unfold F8
  refine vnew_mk fun w1 e1 s1 b1 => vnew_mk fun w2 e2 s2 b2 => vnew_mk fun w3 e3 s3 b3 => ?_
  simp only [add_mk, Nat.zero_add]
  have hb3 : Blk w3 w2.heap.size (cellsW .nil .nil .nil w.heap.size w1.heap.size) 36 := b3
  have e13 := (e1.trans e2).trans e3
  have hm1 : MapU w3 w.heap.size [] := ⟨#[], 0, (e2.trans e3).ext _ _ b1, by simp, by simp, by simp⟩
  have hm2 : MapU w3 w1.heap.size [] := ⟨#[], 0, e3.ext _ _ b2, by simp, by simp, by simp⟩
  refine ⟨fun vs w' => ∃ (j : Nat) (s : SV), vs = [.slice s.p s.n s.c, iv j] ∧ j ≤ S ∧ Ex w3 w' ∧ Ints w' s (Sf.firstM j) ∧ ∀ x ∈ s.own, w3.heap.size ≤ x, fun vs _ => match vs with | [_, .int _ j] => ((S : Int) - j).toNat | _ => 0, ⟨0, .nil, rfl, by omega, Ex.refl _, Sl.zero _ _ _, by simp [SV.own, SV.nil]⟩, ?_⟩
  rintro s9 s9n s9c i10 w4 ⟨j, s, hv, hj, e4, hs, ho⟩
  simp only [iv, List.cons.injEq, Value.int.injEq, Value.slice.injEq, and_true, true_and] at hv
  obtain ⟨⟨rfl, rfl, rfl⟩, rfl⟩ := hv
  have hsn : s.n = j := by have := hs.n; simp [Sf.firstM] at this; exact this
  refine vif_mk (fun h2 => ?_) fun h2 => ?_
  · have hjS : j < S := by simp at h2; omega
    refine ⟨rfl, vnew_mk fun w5 e5 s5 b5 => ?_⟩
    rw [wi (by omega) (by omega)] at b5 ⊢
    have hb5 : Blk w5 w4.heap.size #[iv (j + 1)] 3 := by
      have : ((j : Int) + 1) = ((j + 1 : Nat) : Int) := by omega
      rw [this] at b5; exact b5
    refine app3 (q := ⟨some ⟨w4.heap.size, 0, none⟩, 1, 1⟩) (Sl.ex hs e5) (Sl.of_blk (n := 1) hb5 rfl) (by simp [iv, isOne]) (by simp; omega) fun r w6 hr hrn gg => ?_
    obtain ⟨e6, ho6⟩ := gg.ex (e4.trans e5) ho
    refine ⟨⟨j + 1, r, by simp [iv], hjS, e6, ?_, ho6⟩, by simp only; omega⟩
    show Sl w6 3 1 r ((Sf.firstM (j + 1)).map iv)
    have : Sf.firstM (j + 1) = Sf.firstM j ++ [j + 1] := by unfold Sf.firstM; rw [List.range'_concat]; simp [Nat.add_comm]
    rw [this]; simpa using hr
  · have hjS : j = S := by simp at h2; omega
    subst hjS
    have hB0 : WB w w4 w2.heap.size j 0 [] .nil .nil s w.heap.size w1.heap.size := by
      refine ⟨e4.blk hb3, Sl.zero _ _ _, Sl.zero _ _ _, hs, hm1.fr (e4.fr []) (by simp), hm2.fr (e4.fr []) (by simp), fun i p hp => by simp at hp, rfl, ?_, fun x hx => ?_, e13.trans e4⟩
      · simp [ownW, SV.own, SV.nil]; omega
      · simp [ownW, SV.own, SV.nil] at hx
        rcases hx with rfl | rfl | rfl <;> omega
    refine ⟨fun vs w' => ∃ (k : Nat) (rs : List (Nat × Raw)) (sn sc : SV), vs = [iv k] ∧ k ≤ j ∧ WB w w' w2.heap.size j k rs sn sc s w.heap.size w1.heap.size, fun vs _ => match vs with | [.int _ k] => ((j : Int) - k).toNat | _ => 0, ⟨0, [], .nil, .nil, rfl, by omega, hB0⟩, ?_⟩
    rintro i18 w5 ⟨k, rs, sn, sc, hv, hk, hW⟩
    simp only [iv, List.cons.injEq, Value.int.injEq, and_true, true_and] at hv
    subst hv
    refine vif_mk (fun h3 => ?_) fun h3 => ?_
    · have hkj : k < j := by simp at h3; omega
      refine vnew_mk fun w6 e6 s6 b6 => ?_
      have hb6 : Blk w6 w5.heap.size #[.int .i64 0, .slice Option.none 0 0, .int .i64 0, .int .i64 0] 64 := b6
      rw [wi (n := (k : Int) + 1) (by omega) (by omega), show ((k : Int) + 1) = ((k + 1 : Nat) : Int) by omega]
      refine vstoreN_mk hb6 rfl (by simp) (by simp [isOne]) fun w7 p7 => ?_
      have hb7 : Blk w7 w5.heap.size (cf4 s k).toArray 64 := p7.blk
      have e57 : Ex w5 w7 := e6.put p7 (Nat.le_refl _)
      have hW7 := hW.exd e57
      refine vcells_all hb7 4 rfl ((show _ from new22 (id := k + 1) (elect := 4) (beat := 2) (term := 0) (vote := 0) (cm := Sf.firstM j) (im := ⟨0, 0, []⟩) (l := []) hW7.cms (m := .nil) (Sl.zero _ _ _) (d := .nil) (data := []) (Sl.zero _ _ _) (by simp) (q := .nil) (Ents.zero _) ⟨by omega, by omega⟩ (Sf.good_first h1 h7) ⟨by omega, by omega⟩ ⟨by omega, by omega⟩ rfl rfl (by simp) (by omega) (by decide) (by omega) (by simp) (.inl rfl)).mono ?_)
      rintro _ w8 ⟨b', r', rfl, hn8, e8, hf8⟩
      have hn8 : NodeR w8 b' (Sf.node0 j k) r' := hn8
      refine ⟨_, _, rfl, vdraw_mk fun w9 e9 _ => ?_⟩
      have e79 := e8.trans e9
      have hW9 := hW7.exd e79
      have hn9 := hn8.ex e9
      have hb9 := e79.blk hb7
      have hfo : ∀ x ∈ foot b' r', x ∉ ownW w2.heap.size sn sc .nil w.heap.size w1.heap.size rs := fun x hx hh => by
        have := hf8 x hx; have := hW7.lt x hh; omega
      have hfl : ∀ x ∈ foot b' r', w.heap.size ≤ x := fun x hx => Nat.le_trans hW7.ex.size (hf8 x hx)
      have hcne : w5.heap.size ≠ w2.heap.size := by have := hW.blk.lt; omega
      have hcb : ∀ x ∈ sn.own, x ≠ w5.heap.size := fun x hx => by have := hW.lt x (by simp [ownW, hx]); omega
      have hbsn : w2.heap.size ∉ sn.own := fun hh => by
        have := hW.nd
        unfold ownW at this
        rw [List.nodup_cons] at this
        exact this.1 (by simp [hh])
      have hsnN : sn.n = k := by have hh := hW.nodes.len; rw [List.length_map, hW.len] at hh; omega
      -- what is looked at again: the rows, and what is new
      let J : World → Prop := fun w' => Blk w' w2.heap.size (cellsW sn sc .nil w.heap.size w1.heap.size) 36 ∧ Blk w' w5.heap.size (cf4 s k).toArray 64
      have jex : ∀ {a c : World}, J a → Ex a c → J c := fun ⟨q1, q2⟩ e => ⟨e.blk q1, e.blk q2⟩
      have fin : ∀ {w' : World} {sn' sc' : SV}, WB w w' w2.heap.size j (k + 1) (rs ++ [(b', r')]) sn' sc' s w.heap.size w1.heap.size →
          (∃ (k_1 : Nat) (rs : List (Nat × Raw)) (sn sc : SV), [Value.int .i64 ((k + 1 : Nat) : Int)] = [iv k_1] ∧ k_1 ≤ j ∧ WB w w' w2.heap.size j k_1 rs sn sc s w.heap.size w1.heap.size) ∧ ((j : Int) - ((k + 1 : Nat) : Int)).toNat < ((j : Int) - (k : Int)).toNat := fun {w' sn' sc'} hh => ⟨⟨k + 1, _, sn', sc', rfl, hkj, hh⟩, by omega⟩
      have boxc : ∀ {a c : World} {d : Nat}, c.heap[d]? = some (.cells ((cf4 s k).toArray.toList ++ []).toArray 64) → Blk c d (cf4 s k).toArray 64 := fun {a c d} hh => by
        have : ((cf4 s k).toArray.toList ++ []).toArray = (cf4 s k).toArray := by simp
        rw [this] at hh; exact hh
      have growJ : ∀ {a c : World} {z : Array Value} {r : SV} {new : List Value}, Grow a c 44 1 z sn r new → J a → J c := fun {a c z r new} gg ⟨q1, q2⟩ =>
        ⟨gg.fr.blk q1 hbsn, gg.fr.blk q2 fun hh => hcb _ hh rfl⟩
      refine ⟨J, ⟨hW9.blk, hb9⟩, sn.p, sn.n, sn.c, hW9.blk.at_ 0 rfl, sc.p, sc.n, sc.c, fun w' hh => hh.1.at_ 1 rfl, (cf4 s k).toArray, rfl, fun w' hh i v hi => ?_, ⟨rfl, vnew_mk fun w10 e10 s10 b10 => ⟨jex ⟨hW9.blk, hb9⟩ e10, ?_, ?_⟩⟩, ?_⟩
      · rw [add_mk, hh.2.cell]; simpa using hi
      · have hb10 : Blk w10 w9.heap.size #[.pointer (some ⟨b', 0, none⟩)] 44 := b10
        have hJ10 := jex ⟨hW9.blk, hb9⟩ e10
        refine app44 (q := ⟨some ⟨w9.heap.size, 0, none⟩, 1, 1⟩) (hW9.nodes.ex e10) (Sl.of_blk (n := 1) hb10 rfl) (by simp [isOne]) (by simp; omega) fun r1 w11 hr1 hr1n g1 => ?_
        have hJ11 := growJ g1 hJ10
        refine ⟨hJ11, rfl, rfl, vnew_mk fun w12 e12 s12 b12 => ⟨jex hJ11 e12, ?_⟩⟩
        exact beg_end hW9 h7 hkj hn9 hfo hfl e10 (by simpa using hr1) g1 e12 (boxc (a := w12) b12) fun w' sn' sc' hh => fin hh
      · have hb10 : Blk w10 w9.heap.size #[.pointer (some ⟨b', 0, none⟩)] 44 := b10
        have hJ10 := jex ⟨hW9.blk, hb9⟩ e10
        refine ⟨rfl, rfl, vnew_mk fun w11 e11 s11 b11 => ⟨jex hJ10 e11, ?_⟩⟩
        have hJ11 := jex hJ10 e11
        refine app44 (q := ⟨some ⟨w9.heap.size, 0, none⟩, 1, 1⟩) (hW9.nodes.ex (e10.trans e11)) (Sl.of_blk (n := 1) (e11.blk hb10) rfl) (by simp [isOne]) (by simp; omega) fun r1 w12 hr1 hr1n g1 => ⟨growJ g1 hJ11, ?_⟩
        have hcb2 : Blk w12 w10.heap.size (cf4 s k).toArray 64 := g1.fr.blk (boxc (a := w11) b11) fun hh => by
          have := hW9.lt _ (by simp [ownW, hh] : w10.heap.size ∈ ownW w2.heap.size sn sc .nil w.heap.size w1.heap.size rs); have := e10.size; omega
        exact beg_end hW9 h7 hkj hn9 hfo hfl (e10.trans e11) (by simpa using hr1) g1 (Ex.refl _) hcb2 fun w' sn' sc' hh => fin hh
      · refine ⟨rfl, rfl, vnew_mk fun w10 e10 s10 b10 => ⟨jex ⟨hW9.blk, hb9⟩ e10, rfl, vnew_mk fun w11 e11 s11 b11 => ⟨jex (jex ⟨hW9.blk, hb9⟩ e10) e11, ?_⟩⟩⟩
        have hb11 : Blk w11 w10.heap.size #[.pointer (some ⟨b', 0, none⟩)] 44 := b11
        have hJ11 := jex (jex ⟨hW9.blk, hb9⟩ e10) e11
        refine app44 (q := ⟨some ⟨w10.heap.size, 0, none⟩, 1, 1⟩) (hW9.nodes.ex (e10.trans e11)) (Sl.of_blk (n := 1) hb11 rfl) (by simp [isOne]) (by simp; omega) fun r1 w12 hr1 hr1n g1 => ⟨growJ g1 hJ11, ?_⟩
        have hcb2 : Blk w12 w9.heap.size (cf4 s k).toArray 64 := g1.fr.blk (e11.blk (boxc (a := w10) b10)) fun hh => by
          have := hW9.lt _ (by simp [ownW, hh] : w9.heap.size ∈ ownW w2.heap.size sn sc .nil w.heap.size w1.heap.size rs); omega
        exact beg_end hW9 h7 hkj hn9 hfo hfl (e10.trans e11) (by simpa using hr1) g1 (Ex.refl _) hcb2 fun w' sn' sc' hh => fin hh
    · have hkj : k = j := by simp at h3; omega
      subst hkj
      refine ⟨_, rfl, rs, sn, sc, .nil, s, [], w.heap.size, w1.heap.size, [], [], ⟨hW.blk, hW.nodes, hW.conf, hW.cms, Msgs.zero _, hW.lead, hW.agr, by simp, fun i p hp => ?_, ⟨hW.len, by simp [Sf.begin0]⟩, hW.nd⟩, hW.low, hW.ex, by simp, by simp⟩
      have hi := (List.getElem?_eq_some_iff.1 hp).1
      rw [hW.len] at hi
      exact ⟨Sf.node0 k i, by simp [Sf.begin0, hi], hW.node i p hp⟩

end
end Rx
end Go.Proofs.YtkoipeddfbeliaaGreat

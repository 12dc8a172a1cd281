import Derived.Test.YtkoipeddfbeliaaGreatSa10
/-
  Safety, in plain Lean: the nodes and the net, step by step.
-/
namespace Go.Proofs.YtkoipeddfbeliaaGreat
namespace Sf
open Md

/-- nodes, and messages on their way -/
structure Wl where
  ns : List Md.Node
  net : List Msg

/-- members as bits -/
def bitsN (d : Nat) : List Nat := (List.range' 1 7).filter fun k => d / 2 ^ k % 2 == 1

/-- a step, but for what is sent -/
def Wl.act (w : Wl) (kind : Int) (i draw : Nat) : Wl :=
  match w.ns[i]? with
  | none => w
  | some n =>
    let a := draw % w.net.length
    if kind = 0 then { w with ns := w.ns.set i (n.tick draw) }
    else if 0 < kind ∧ kind ≤ 3 ∧ w.net ≠ [] then
      match w.net[a]? with
      | none => w
      | some m =>
        let net := w.net.take a ++ w.net.drop (a + 1)
        match w.ns[m.to - 1]? with
        | none => { w with net := net }
        | some n' => ⟨w.ns.set (m.to - 1) (n'.step m), net⟩
    else if kind = 4 ∧ w.net ≠ [] then { w with net := w.net.take a ++ w.net.drop (a + 1) }
    else if kind = 5 ∧ w.net ≠ [] then { w with net := w.net ++ (w.net[a]?).toList }
    else if kind = 6 then { w with ns := w.ns.set i (n.propose [UInt8.ofNat draw, UInt8.ofNat (draw / 256)]).1 }
    else if kind = 7 then { w with ns := w.ns.set i (n.change (bitsN draw)) }
    else if kind = 8 then { w with ns := w.ns.set i (n.compact n.commit) }
    else if kind = 9 then { w with ns := w.ns.set i n.anew }
    else w
/-- what is sent is on its way; a net that is full loses what came first -/
def Wl.flush (w : Wl) : Wl :=
  let net := w.net ++ w.ns.flatMap (·.out)
  ⟨w.ns.map fun n => { n with out := [] }, net.drop (net.length - 200)⟩
def Wl.step (w : Wl) (kind : Int) (i draw : Nat) : Wl := (w.act kind i draw).flush

structure Inv (g : G) (w : Wl) : Prop where
  gi : GInv g
  ns : ∀ i n, w.ns[i]? = some n → NodeInv g (i + 1) n
  net : ∀ m ∈ w.net, MsgInv g m

/-- what stays -/
structure Mono (g g' : G) : Prop where
  c0 : g'.C0 = g.C0
  lead : ∀ T y, g.lead T = some y → g'.lead T = some y
  tl : ∀ T, g.tl T <+: g'.tl T
  ev : ∀ u c p, g.ev u c p → g'.ev u c p
theorem Mono.refl (g : G) : Mono g g := ⟨rfl, fun _ _ h => h, fun _ => List.prefix_refl _, fun _ _ _ h => h⟩
theorem Mono.trans {a b c : G} (h : Mono a b) (k : Mono b c) : Mono a c := ⟨k.c0.trans h.c0, fun T y hh => k.lead T y (h.lead T y hh), fun T => (h.tl T).trans (k.tl T), fun u c p hh => k.ev u c p (h.ev u c p hh)⟩
theorem Ext.mono {x : Nat} {g g' : G} (e : Ext x g g') : Mono g g' := ⟨e.c0, e.lead, e.tl, e.ev⟩

section
variable {g : G} {w : Wl}

/-- more room, for one step -/
theorem Inv.more (h : Inv g w) : Inv (g.more 1) w where
  gi := more_inv h.gi 1
  ns := fun i n hn => more_node (h.ns i n hn) 1
  net := fun m hm => more_msg (h.net m hm) 1
/-- what one node does -/
theorem Inv.op (h : Inv g w) {i : Nat} {n n' : Md.Node} (hn : w.ns[i]? = some n) (ho : Op (i + 1) g n') {net : List Msg} (hnet : ∀ m ∈ net, m ∈ w.net) : ∃ g', Inv g' ⟨w.ns.set i n', net⟩ ∧ Mono g g' ∧ g'.B = g.B := by
  obtain ⟨g', gi', e, hn'⟩ := ho
  refine ⟨g', ⟨gi', fun j m hj => ?_, fun m hm => (h.net m (hnet m hm)).ext e⟩, e.mono, e.B⟩
  simp only [List.getElem?_set] at hj
  have hlt := (List.getElem?_eq_some_iff.1 hn).1
  by_cases hij : i = j
  · subst hij
    simp only [if_true, hlt] at hj
    rw [← Option.some.inj hj]; exact hn'
  · simp only [hij, if_false] at hj
    exact NodeInv.ext h.gi e (by omega) (h.ns j m hj)
theorem Inv.flush (h : Inv g w) : Inv g w.flush where
  gi := h.gi
  ns := fun i n hn => by
    simp only [Wl.flush, List.getElem?_map] at hn
    cases hx : w.ns[i]? with
    | none => rw [hx] at hn; cases hn
    | some n0 =>
      rw [hx] at hn
      rw [← Option.some.inj hn]
      exact { h.ns i n0 hx with out := fun m hm => by cases hm }
  net := fun m hm => by
    simp only [Wl.flush] at hm
    have hm := List.mem_of_mem_drop hm
    rcases List.mem_append.1 hm with hm | hm
    · exact h.net m hm
    · obtain ⟨n, hn, hmn⟩ := List.mem_flatMap.1 hm
      obtain ⟨i, hi⟩ := List.mem_iff_getElem?.1 hn
      exact ((h.ns i n hi).out m hmn).1

theorem mem_cut {net : List Msg} {a : Nat} : ∀ m ∈ net.take a ++ net.drop (a + 1), m ∈ net := fun m hm => by
  rcases List.mem_append.1 hm with hm | hm
  · exact List.mem_of_mem_take hm
  · exact List.mem_of_mem_drop hm

/-- a step of all keeps it -/
theorem Inv.act' (h0 : Inv g w) (kind : Int) (i draw : Nat) : ∃ g', Inv g' (w.act kind i draw) ∧ Mono g g' ∧ g'.B = g.B + 1 := by
  have h := h0.more
  have hm0 : Mono g (g.more 1) := ⟨rfl, fun _ _ h => h, fun _ => List.prefix_refl _, fun _ _ _ h => h⟩
  have stay : ∀ {w' : Wl}, w'.ns = w.ns → (∀ m ∈ w'.net, m ∈ w.net) → ∃ g', Inv g' w' ∧ Mono g g' ∧ g'.B = g.B + 1 := fun {w'} h1 h2 =>
    ⟨g.more 1, ⟨h.gi, fun j n hj => h.ns j n (by rw [← h1]; exact hj), fun m hm => h.net m (h2 m hm)⟩, hm0, rfl⟩
  unfold Wl.act
  cases hn : w.ns[i]? with
  | none => exact stay rfl fun m hm => hm
  | some n =>
    have hni := h.ns i n hn
    have hni0 := h0.ns i n hn
    have hb : ∀ T, ((g.more 1).tl T).length + 1 ≤ (g.more 1).B := fun T => by have := h0.gi.bnd T; show (g.tl T).length + 1 ≤ g.B + 1; omega
    have slack : ∀ {j : Nat} {n : Md.Node}, w.ns[j]? = some n → n.term + 1 ≤ (g.more 1).B ∧ n.since + 1 ≤ (g.more 1).B := fun {j n} hj => by
      have h1 := (h0.ns j n hj).tb; have h2 := (h0.ns j n hj).sb
      show _ ≤ g.B + 1 ∧ _ ≤ g.B + 1; omega
    have one : ∀ {n' : Md.Node}, Op (i + 1) (g.more 1) n' → ∃ g', Inv g' { w with ns := w.ns.set i n' } ∧ Mono g g' ∧ g'.B = g.B + 1 := fun ho => by
      obtain ⟨g', h1, h2, h3⟩ := h.op hn ho (net := w.net) fun m hm => hm
      exact ⟨g', h1, hm0.trans h2, h3⟩
    simp only
    split
    · exact one (tick_inv h.gi hni (slack hn).1 (slack hn).2 hb draw)
    · split
      · cases hm : w.net[draw % w.net.length]? with
        | none => exact stay rfl fun m hm => hm
        | some m =>
          simp only
          have hmn := List.mem_of_getElem? hm
          cases hn' : w.ns[m.to - 1]? with
          | none => exact stay rfl mem_cut
          | some n' =>
            simp only
            have hmi := h0.net m hmn
            obtain ⟨g', h1, h2, h3⟩ := h.op hn' (step_inv h.gi (h.ns _ n' hn') (h.net m hmn) (slack hn').1 hmi.tb hb) (net := w.net.take (draw % w.net.length) ++ w.net.drop (draw % w.net.length + 1)) mem_cut
            exact ⟨g', h1, hm0.trans h2, h3⟩
      · split
        · exact stay rfl mem_cut
        · split
          · refine stay rfl fun m hm => ?_
            rcases List.mem_append.1 hm with hm | hm
            · exact hm
            · cases hx : w.net[draw % w.net.length]? with
              | none => rw [hx] at hm; cases hm
              | some m' => rw [hx] at hm; simp at hm; rw [hm]; exact List.mem_of_getElem? hx
          · split
            · exact one (propose_inv h.gi hni hb _)
            · split
              · exact one (change_inv h.gi hni hb _)
              · split
                · exact one (compact_inv h.gi hni _)
                · split
                  · exact one (anew_inv h.gi hni)
                  · exact stay rfl fun m hm => hm
theorem Inv.step (h : Inv g w) (kind : Int) (i draw : Nat) : ∃ g', Inv g' (w.step kind i draw) ∧ Mono g g' ∧ g'.B = g.B + 1 := by
  obtain ⟨g', h1, h2⟩ := h.act' kind i draw
  exact ⟨g', h1.flush, h2⟩

end
end Sf
end Go.Proofs.YtkoipeddfbeliaaGreat

/-
  Safety, in plain Lean: the beginning; what the statements ask; the bounds that the functions ask.
-/
namespace Go.Proofs.YtkoipeddfbeliaaGreat
namespace Sf
open Md

/-- so many members -/
def firstM (N : Nat) : List Nat := List.range' 1 N
def node0 (N i : Nat) : Md.Node := Rx.newN (i + 1) (firstM N) 4 2 0 0 ⟨0, 0, []⟩ []
def begin0 (N : Nat) : Wl := ⟨(List.range N).map (node0 N), []⟩
def g0 (N : Nat) : G := ⟨firstM N, 0, fun _ => [], fun _ => none, fun _ => [], fun _ => [], fun _ _ _ => False, fun _ _ => none, fun _ _ _ => False, fun _ _ _ => False⟩

theorem good_first {N : Nat} (h1 : 1 ≤ N) (h2 : N ≤ 7) : goodM (firstM N) := by
  refine ⟨fun hh => ?_, fun x hx => ?_, ?_⟩
  · have := congrArg List.length hh; simp [firstM] at this; omega
  · simp [firstM, List.mem_range'] at hx; omega
  · exact List.pairwise_lt_range' (s := 1) (n := N)

theorem inv0 {N : Nat} (h1 : 1 ≤ N) (h2 : N ≤ 7) : Inv (g0 N) (begin0 N) where
  gi := by
    refine ⟨good_first h1 h2, rfl, ?_, ?_, ?_, ?_, ?_, ?_, ?_, ?_, ?_, ?_, ?_, ?_, ?_, ?_, ?_, ?_, ?_, ?_, ?_, ?_, ?_⟩ <;> intros <;> simp_all [g0, Gd]
  ns := fun i n hn => by
    simp only [begin0, List.getElem?_map] at hn
    cases hr : (List.range N)[i]? with
    | none => rw [hr] at hn; cases hn
    | some j =>
      rw [hr] at hn
      obtain ⟨hlt, hj⟩ := List.getElem?_eq_some_iff.1 hr
      simp at hj hlt
      subst hj
      have hn : node0 N i = n := Option.some.inj hn
      subst hn
      refine { id := rfl, x1 := ⟨by omega, by omega⟩, log := ⟨Nat.le_refl _, rfl, rfl, fun k e hk => ?_⟩, base := Nat.le_refl _, img := ⟨rfl, rfl, rfl⟩, gd := fun k e hk => ?_, tle := fun e he => ?_, tb := Nat.le_refl _, sb := Nat.le_refl _, cm := Nat.le_refl _, cmo := .inl rfl, ci := fun _ _ hh => hh.elim, vt1 := fun _ _ hh => hh.elim, vt2 := fun hh => absurd rfl hh, vt3 := Nat.zero_le _, clx := fun _ _ hh => ?_, ldx := fun _ hh => ?_, rl := Nat.zero_le _, r3 := fun hh => ?_, nt := fun _ => rfl, r2 := fun hh => ?_, pl := fun hh => ?_, np := fun _ => rfl, out := fun m hm => ?_, cfg := ⟨rfl, rfl, rfl⟩ }
      · simp [g0] at hk
      · simp [g0] at hk
      · simp [g0] at he
      · cases hh
      · cases hh
      · cases hh
      · cases hh
      · rcases hh with hh | hh <;> cases hh
      · cases hm
  net := fun m hm => by cases hm

/-! ### What the statements ask -/
/-- who leads in a term -/
def PL (g : G) (T i : Nat) : Prop := g.lead T = some (i + 1)
/-- what is committed at an index -/
def PA (g : G) (k : Nat) (e : Ent) : Prop := ∃ u c p, g.ev u c p ∧ 1 ≤ k ∧ k ≤ c ∧ (g.tl u)[k - 1]? = some e

theorem PL.one {g : G} {T i j : Nat} (h : PL g T i) (k : PL g T j) : i = j := by
  have h : g.lead T = some (i + 1) := h
  have k : g.lead T = some (j + 1) := k
  rw [h] at k; simpa using k
theorem PL.mono {g g' : G} (m : Mono g g') {T i : Nat} (h : PL g T i) : PL g' T i := m.lead T _ h
theorem PA.mono {g g' : G} (m : Mono g g') {k : Nat} {e : Ent} (h : PA g k e) : PA g' k e := by
  obtain ⟨u, c, p, h1, h2, h3, h4⟩ := h
  exact ⟨u, c, p, m.ev u c p h1, h2, h3, by rw [pre_get (m.tl u) (List.getElem?_eq_some_iff.1 h4).1]; exact h4⟩
theorem get_of_take {A B : List Ent} {c i : Nat} (h : A.take c = B.take c) (hi : i < c) : A[i]? = B[i]? := by
  have := congrArg (·[i]?) h
  simpa [List.getElem?_take, hi] using this
theorem ev_agree {g : G} (gi : GInv g) {u c p u' c' p' k : Nat} (h : g.ev u c p) (h' : g.ev u' c' p') (hc : k ≤ c) (hc' : k ≤ c') : (g.tl u).take k = (g.tl u').take k := by
  rcases Nat.le_total u u' with hle | hle
  · exact (ev_lead gi (gi.evl h') h hle hc).2.symm
  · exact (ev_lead gi (gi.evl h) h' hle hc').2
theorem PA.one {g : G} (gi : GInv g) {k : Nat} {e e' : Ent} (h : PA g k e) (h' : PA g k e') : e = e' := by
  obtain ⟨u, c, p, h1, h2, h3, h4⟩ := h
  obtain ⟨u', c', p', k1, k2, k3, k4⟩ := h'
  have := get_of_take (ev_agree gi h1 k1 h3 k3) (i := k - 1) (by omega)
  rw [h4, k4] at this
  exact Option.some.inj this

section
variable {g : G} {w : Wl} {i : Nat} {n : Md.Node}

theorem Inv.leads (h : Inv g w) (hn : w.ns[i]? = some n) (hr : n.role = 3) : PL g n.term i := ((h.ns i n hn).r3 hr).1
theorem NodeInv.ent {x : Nat} (h : NodeInv g x n) {e : Ent} (he : e ∈ n.log.l) : (g.full x)[e.index - 1]? = some e ∧ 1 ≤ e.index := by
  obtain ⟨j, hj⟩ := List.mem_iff_getElem?.1 he
  rw [h.log.l, List.getElem?_drop] at hj
  have := h.log.idx _ _ hj
  exact ⟨by rw [show e.index - 1 = n.log.base + j by omega]; exact hj, by omega⟩
theorem NodeInv.agreed {x : Nat} (h : NodeInv g x n) {e : Ent} (he : e ∈ n.log.l) (hc : e.index ≤ n.commit) : PA g e.index e := by
  obtain ⟨h1, h2⟩ := h.ent he
  rcases h.cmo with h0 | ⟨u, c, p, g1, g2, g3, g4⟩
  · omega
  · refine ⟨u, c, p, g1, h2, by omega, ?_⟩
    rw [← get_of_take g4 (i := e.index - 1) (by omega)]; exact h1
theorem Inv.agreed (h : Inv g w) (hn : w.ns[i]? = some n) {e : Ent} (he : e ∈ n.log.l) (hc : e.index ≤ n.commit) : PA g e.index e := (h.ns i n hn).agreed he hc

/-- one index and one term: all ahead is the same -/
theorem Inv.matches (h : Inv g w) {j : Nat} {n' : Md.Node} (hn : w.ns[i]? = some n) (hn' : w.ns[j]? = some n') {e e' f f' : Ent} (he : e ∈ n.log.l) (he' : e' ∈ n'.log.l) (hi : e.index = e'.index) (ht : e.term = e'.term)
    (hf : f ∈ n.log.l) (hf' : f' ∈ n'.log.l) (hfi : f.index = f'.index) (hle : f.index ≤ e.index) : f = f' := by
  have a := h.ns i n hn
  have b := h.ns j n' hn'
  obtain ⟨a1, a2⟩ := a.ent he
  obtain ⟨b1, b2⟩ := b.ent he'
  obtain ⟨c1, c2⟩ := a.ent hf
  obtain ⟨d1, d2⟩ := b.ent hf'
  have k1 := (a.gd.same h.gi a1).2.1
  have k2 := (b.gd.same h.gi b1).2.1
  rw [ht, show e.index - 1 + 1 = e'.index by omega] at k1
  rw [show e'.index - 1 + 1 = e'.index by omega] at k2
  have := get_of_take (k1.trans k2.symm) (i := f.index - 1) (by omega)
  rw [c1, hfi, d1] at this
  exact Option.some.inj this

/-- how far all is committed, and in which term at most -/
def PK (g : G) (most inn : Nat) : Prop := most = 0 ∨ ∃ u c p, g.ev u c p ∧ u ≤ inn ∧ most ≤ c
theorem PK.mono {g g' : G} (m : Mono g g') {a b : Nat} (h : PK g a b) : PK g' a b := h.imp (fun hh => hh) fun ⟨u, c, p, h1, h2⟩ => ⟨u, c, p, m.ev u c p h1, h2⟩
theorem Inv.pk (h : Inv g w) (hn : w.ns[i]? = some n) {inn : Nat} : PK g n.commit (max inn n.term) := by
  rcases (h.ns i n hn).cmo with h0 | ⟨u, c, p, g1, g2, g3, _⟩
  · exact .inl h0
  · exact .inr ⟨u, c, p, g1, by omega, g3⟩
/-- a leader of a later term has it -/
theorem Inv.keeps (h : Inv g w) (hn : w.ns[i]? = some n) (hr : n.role = 3) {before term : Nat} (hk : PK g before term) (ht : term < n.term) : before ≤ n.log.last.1 ∧ ∀ e ∈ n.log.l, e.index ≤ before → ∀ z, PA g e.index z → e = z := by
  have a := h.ns i n hn
  obtain ⟨r1, r2, _⟩ := a.r3 hr
  rcases hk with h0 | ⟨u, c, p, g1, g2, g3⟩
  · subst h0
    refine ⟨Nat.zero_le _, fun e he hle => ?_⟩
    have := (a.ent he).2; omega
  · have hl : g.lead n.term ≠ none := by rw [r1]; simp
    obtain ⟨k1, k2⟩ := ev_lead h.gi hl g1 (by omega) g3
    refine ⟨by rw [a.log.last, r2]; exact k1, fun e he hle z hz => ?_⟩
    obtain ⟨e1, e2⟩ := a.ent he
    rw [r2, get_of_take k2 (i := e.index - 1) (by omega)] at e1
    exact PA.one h.gi ⟨u, c, p, g1, e2, by omega, e1⟩ hz

/-! ### Bounds -/
theorem NodeInv.fit {x : Nat} (gi : GInv g) (hB : g.B ≤ 1000) (h : NodeInv g x n) : Rx.Fit n := by
  have hfl := h.flen gi
  have hbl := h.log.base
  have hmem : ∀ e ∈ n.log.l, e ∈ g.tl e.term := fun e he => by
    obtain ⟨h1, _⟩ := h.ent he
    exact List.mem_of_getElem? (h.gd.same gi h1).1
  refine ⟨⟨fun k e hk => ?_, ?_, by omega, fun e he => gi.dat _ e (hmem e he)⟩, fun e he hc => gi.cfd _ e (hmem e he) hc, ?_, fun b hb => ?_, fun t ht => ?_⟩
  · rw [h.log.l, List.getElem?_drop] at hk
    exact h.log.idx _ _ hk
  · rw [h.log.l]; simp; omega
  · rw [h.img.2.2]; exact good_conf gi (h.gd.pre (List.take_prefix _ _))
  · have hr : n.role = 1 ∨ n.role = 2 := by
      have := h.rl
      have : ¬ (n.role = 0 ∨ n.role = 3) := fun hh => by rw [h.np hh] at hb; cases hb
      omega
    obtain ⟨b', h1, h2, h3, _⟩ := h.pl hr
    rw [hb] at h1
    rw [Option.some.inj h1]
    exact ⟨h3.nd, h3.mem, h3.len⟩
  · have hr : n.role = 3 := Decidable.byContradiction fun hh => by rw [h.nt hh] at ht; cases ht
    obtain ⟨_, _, _, _, t', h4, h5⟩ := h.r3 hr
    rw [ht] at h4
    rw [Option.some.inj h4]
    intro p hp
    obtain ⟨q1, q2, _⟩ := h5 p hp
    exact ⟨q1, by omega⟩
theorem NodeInv.roles {x : Nat} (h : NodeInv g x n) : Rx.RoleOk n where
  poll := fun hr => by obtain ⟨b, h1, _⟩ := h.pl hr; rw [h1]; rfl
  track := fun hr => by obtain ⟨_, _, _, _, t, h1, _⟩ := h.r3 hr; rw [h1]; rfl
theorem MsgInv.ok (gi : GInv g) (hB : g.B ≤ 1000) {m : Msg} (h : MsgInv g m) : Rx.MsgOk m ∧ m.members.length ≤ 7 := by
  have hents : ∀ e ∈ m.ents, e ∈ g.tl m.term := fun e he => by
    by_cases hk : m.kind = 4
    · have := (h.app hk).2.2.1
      rw [this] at he
      exact List.mem_of_mem_drop (List.mem_of_mem_take he)
    · rw [h.noents hk] at he; cases he
  refine ⟨⟨by have := h.ib; omega, ?_, fun e he => ?_, fun e he hc => gi.cfd _ e (hents e he) hc⟩, ?_⟩
  · by_cases hk : m.kind = 4
    · have := (h.app hk).2.1
      have := gi.bnd m.term
      omega
    · rw [h.noents hk]; simp
  · obtain ⟨k, hk⟩ := List.mem_iff_getElem?.1 (hents e he)
    have := gi.idx _ _ _ hk
    have := (List.getElem?_eq_some_iff.1 hk).1
    have := gi.bnd m.term
    omega
  · by_cases hk : m.kind = 6
    · rw [(h.inst hk).2.2.2.1]
      exact Rx.goodM_len (good_conf gi ((gi.tgd _).pre (List.take_prefix _ _)))
    · rw [h.nomem hk]; simp

end
end Sf
end Go.Proofs.YtkoipeddfbeliaaGreat

/-
  The nodes and the net in memory.
-/
namespace Go.Proofs.YtkoipeddfbeliaaGreat
namespace Rx
open Go.RowKit Md
set_option maxRecDepth 100000

/-! ### Maps from numbers -/
/-- a map's entries in the order in which they came -/
def MapU (w : World) (b : Nat) (l : List (Nat × Value)) : Prop :=
  ∃ es clock, w.heap[b]? = some (.map es clock) ∧ es.toList.map (fun e => (e.key, e.val)) = l.map (fun p => (uv p.1, p.2)) ∧ (es.toList.map (·.born)).Nodup ∧ ∀ e ∈ es.toList, e.born < clock

theorem MapU.lt {w : World} {b : Nat} {l : List (Nat × Value)} (h : MapU w b l) : b < w.heap.size := by
  obtain ⟨es, clock, h1, _⟩ := h; exact (Array.getElem?_eq_some_iff.1 h1).1
theorem MapU.same {w w' : World} {b : Nat} {l : List (Nat × Value)} (h : MapU w b l) (e : w'.heap[b]? = w.heap[b]?) : MapU w' b l := by
  obtain ⟨es, clock, h1, h2⟩ := h; exact ⟨es, clock, e.trans h1, h2⟩
theorem MapU.fr {w w' : World} {b : Nat} {l : List (Nat × Value)} (h : MapU w b l) {M : List Nat} (f : Fr M w w') (hb : b ∉ M) : MapU w' b l := h.same (f.rest b h.lt hb)

theorem findNow_firstU (x : Nat) : ∀ (l : List (Nat × Value)) (es : List MapEntry) (k : Nat), es.map (fun e => (e.key, e.val)) = l.map (fun p => (uv p.1, p.2)) →
    Instr.findNow (.int .u64) (uv x) es k = some ((first l x).map fun p => (k + p.1, p.2))
  | [], es, k, h => by
    have : es = [] := by simpa using h
    subst this; rfl
  | p :: l, [], k, h => by simp at h
  | p :: l, e :: es, k, h => by
    simp only [List.map_cons, List.cons.injEq, Prod.mk.injEq] at h
    obtain ⟨⟨h1, h2⟩, h3⟩ := h
    have ih := findNow_firstU x l es (k + 1) h3
    unfold Instr.findNow
    rw [h1]
    have hs : Instr.sameNow (.int .u64) (uv x) (uv p.1) = some ((x : Int) == (p.1 : Int)) := by simp [Instr.sameNow, uv]
    rw [hs]
    by_cases hx : p.1 = x
    · have : ((x : Int) == (p.1 : Int)) = true := by simp [hx]
      rw [this]
      simp [first, List.findIdx?_cons, hx, h2]
    · have : ((x : Int) == (p.1 : Int)) = false := by simp; omega
      rw [this]
      simp only
      rw [ih]
      simp only [first, List.findIdx?_cons, beq_iff_eq, hx, if_false]
      cases l.findIdx? (fun q => q.1 == x) with
      | none => rfl
      | some i =>
        simp only [Option.map_some, List.getElem?_cons_succ]
        cases l[i]? with
        | none => rfl
        | some q => simp only [Option.map_some]; congr 3; omega

theorem MapU.find {w : World} {b : Nat} {l : List (Nat × Value)} (h : MapU w b l) (x : Nat) {Q : Nat → Array MapEntry → Nat → Prop}
    (hQ : ∀ es clock, w.heap[b]? = some (.map es clock) → es.toList.map (fun e => (e.key, e.val)) = l.map (fun p => (uv p.1, p.2)) → (es.toList.map (·.born)).Nodup → (∀ e ∈ es.toList, e.born < clock) →
      Instr.findNow (.int .u64) (uv x) es.toList 0 = some (first l x) → Q b es clock) : vmap w (some b) Q := by
  obtain ⟨es, clock, h1, h2, h3, h4⟩ := h
  have h5 := findNow_firstU x l es.toList 0 h2
  have h6 : (first l x).map (fun p => (0 + p.1, p.2)) = first l x := by cases first l x <;> simp
  rw [h6] at h5
  exact ⟨b, es, clock, rfl, h1, hQ es clock h1 h2 h3 h4 h5⟩

theorem mapPut_u {w' : World} {b : Nat} {l : List (Nat × Value)} {es : Array MapEntry} {clock x : Nat} {v : Value} (h2 : es.toList.map (fun e => (e.key, e.val)) = l.map (fun p => (uv p.1, p.2)))
    (h3 : (es.toList.map (·.born)).Nodup) (h4 : ∀ e ∈ es.toList, e.born < clock) (hw : w'.heap[b]? = some (mapPut es clock (first l x) (uv x) v)) : MapU w' b (putL l x v) := by
  unfold putL
  cases hf : first l x with
  | none =>
    rw [hf] at hw
    refine ⟨_, _, hw, by simp [h2], ?_, ?_⟩
    · simp only [Array.toList_push, List.map_append, List.map_cons, List.map_nil]
      rw [List.nodup_append]
      refine ⟨h3, by simp, fun a ha c hc => ?_⟩
      simp at hc; subst hc
      obtain ⟨e, he, rfl⟩ := List.mem_map.1 ha
      have := h4 e he
      omega
    · intro e he
      simp only [Array.toList_push, List.mem_append, List.mem_singleton] at he
      rcases he with he | rfl
      · have := h4 e he; omega
      · exact Nat.lt_succ_self _
  | some p =>
    obtain ⟨i, u⟩ := p
    rw [hf] at hw
    have hb : ∀ e : MapEntry, ({ e with key := uv x, val := v } : MapEntry).born = e.born := fun _ => rfl
    have hl : (es.modify i fun e => { e with key := uv x, val := v }).toList = es.toList.modify i fun e => { e with key := uv x, val := v } := by simp
    refine ⟨_, _, hw, ?_, ?_, ?_⟩
    · rw [hl]
      apply List.ext_getElem?
      intro j
      rw [List.getElem?_map, List.getElem?_map, List.getElem?_modify, List.getElem?_set]
      have hj : (es.toList[j]?).map (fun e => (e.key, e.val)) = (l[j]?).map (fun p => (uv p.1, p.2)) := by rw [← List.getElem?_map, ← List.getElem?_map, h2]
      by_cases hij : i = j
      · subst hij
        obtain ⟨g1, _⟩ := first_some hf
        have hlt := (List.getElem?_eq_some_iff.1 g1).1
        rw [g1] at hj
        simp only [if_pos, hlt]
        cases he : es.toList[i]? with
        | none => rw [he] at hj; simp at hj
        | some e => simp
      · simp only [hij, if_false]
        cases he : es.toList[j]? with
        | none => rw [he] at hj; simpa using hj
        | some e => rw [he] at hj; simpa using hj
    · rw [hl]
      have : (es.toList.modify i fun e => { e with key := uv x, val := v }).map (·.born) = es.toList.map (·.born) := by
        apply List.ext_getElem?
        intro j
        rw [List.getElem?_map, List.getElem?_map, List.getElem?_modify]
        cases es.toList[j]? with
        | none => rfl
        | some e => by_cases hij : i = j <;> simp [hij]
      rw [this]; exact h3
    · rw [hl]
      intro e he
      obtain ⟨j, hj⟩ := List.mem_iff_getElem?.1 he
      rw [List.getElem?_modify] at hj
      cases hx : es.toList[j]? with
      | none => rw [hx] at hj; simp at hj
      | some e' =>
        rw [hx] at hj
        have := h4 e' (List.mem_of_getElem? hx)
        by_cases hij : i = j
        · simp [hij] at hj; rw [← hj]; exact this
        · simp [hij] at hj; rw [← hj]; exact this


/-! ### The nodes, the net, the maps -/
def ftp (p : Nat × Raw) : List Nat := foot p.1 p.2
def ownW (b : Nat) (sn sc st : SV) (lm am : Nat) (rs : List (Nat × Raw)) : List Nat := b :: (sn.own ++ (sc.own ++ (st.own ++ (lm :: am :: rs.flatMap ftp))))
def cellsW (sn sc st : SV) (lm am : Nat) : Array Value := #[.slice sn.p sn.n sn.c, .slice sc.p sc.n sc.c, .slice st.p st.n st.c, .map (some lm), .map (some am)]

structure WR (w : World) (b : Nat) (wl : Sf.Wl) (N : Nat) (rs : List (Nat × Raw)) (sn sc st cm : SV) (ops : List (Msg × MD)) (lm am : Nat) (L : List (Nat × Nat)) (A : List (Nat × Ent × SV)) : Prop where
  blk : Blk w b (cellsW sn sc st lm am) 36
  nodes : Sl w 44 1 sn (rs.map fun p => .pointer (some ⟨p.1, 0, none⟩))
  conf : Sl w 64 4 sc ((List.range N).flatMap fun i => (cfA (i + 1) cm 4 2).toList)
  cms : Ints w cm (Sf.firstM N)
  net : Msgs w st wl.net ops
  lead : MapU w lm (L.map fun p => (p.1, iv p.2))
  agr : MapU w am (A.map fun p => (p.1, .agg (ec p.2).toArray))
  ab : ∀ p ∈ A, Bytes w p.2.2 p.2.1.data
  node : ∀ (i : Nat) (p : Nat × Raw), rs[i]? = some p → ∃ n, wl.ns[i]? = some n ∧ NodeR w p.1 n p.2
  len : rs.length = N ∧ wl.ns.length = N
  nd : (ownW b sn sc st lm am rs).Nodup

section
variable {w w' : World} {b N lm am : Nat} {wl : Sf.Wl} {rs : List (Nat × Raw)} {sn sc st cm : SV} {ops : List (Msg × MD)} {L : List (Nat × Nat)} {A : List (Nat × Ent × SV)}

theorem WR.ex (h : WR w b wl N rs sn sc st cm ops lm am L A) (e : Ex w w') : WR w' b wl N rs sn sc st cm ops lm am L A where
  blk := e.blk h.blk
  nodes := h.nodes.ex e
  conf := h.conf.ex e
  cms := Sl.ex h.cms e
  net := h.net.step e.keeps (e.fr []) (by simp)
  lead := h.lead.fr (e.fr []) (by simp)
  agr := h.agr.fr (e.fr []) (by simp)
  ab := fun p hp => Sl.ex (h.ab p hp) e
  node := fun i p hp => by
    obtain ⟨n, h1, h2⟩ := h.node i p hp
    exact ⟨n, h1, h2.ex e⟩
  len := h.len
  nd := h.nd

theorem WR.lt (h : WR w b wl N rs sn sc st cm ops lm am L A) : ∀ x ∈ ownW b sn sc st lm am rs, x < w.heap.size := by
  intro x hx
  simp only [ownW, List.mem_cons, List.mem_append] at hx
  rcases hx with rfl | hx | hx | hx | rfl | rfl | hx
  · exact h.blk.lt
  · exact h.nodes.own_lt x hx
  · exact h.conf.own_lt x hx
  · exact h.net.sl.own_lt x hx
  · exact h.lead.lt
  · exact h.agr.lt
  · obtain ⟨p, hp, hxp⟩ := List.mem_flatMap.1 hx
    obtain ⟨i, hi⟩ := List.mem_iff_getElem?.1 hp
    obtain ⟨n, _, h2⟩ := h.node i p hi
    exact h2.lt x hxp

theorem own_split (b : Nat) (sn sc st : SV) (lm am : Nat) (rs : List (Nat × Raw)) {i : Nat} {p : Nat × Raw} (hi : rs[i]? = some p) :
    ∃ H T, ownW b sn sc st lm am rs = H ++ (ftp p ++ T) ∧ (∀ q, ownW b sn sc st lm am (rs.set i q) = H ++ (ftp q ++ T)) ∧ (∀ x ∈ b :: (sn.own ++ (sc.own ++ (st.own ++ [lm, am]))), x ∈ H) ∧ ∀ j q, j ≠ i → rs[j]? = some q → ∀ x ∈ ftp q, x ∈ H ∨ x ∈ T := by
  have hlt := (List.getElem?_eq_some_iff.1 hi).1
  have hp : rs[i] = p := by rw [List.getElem?_eq_getElem hlt] at hi; exact Option.some.inj hi
  have hrs : rs = rs.take i ++ p :: rs.drop (i + 1) := by rw [← hp, List.getElem_cons_drop, List.take_append_drop]
  refine ⟨b :: (sn.own ++ (sc.own ++ (st.own ++ (lm :: am :: (rs.take i).flatMap ftp)))), (rs.drop (i + 1)).flatMap ftp, ?_, fun q => ?_, fun x hx => ?_, fun j q hj hq x hx => ?_⟩
  · conv => lhs; rw [hrs]
    simp [ownW]
  · have : rs.set i q = rs.take i ++ q :: rs.drop (i + 1) := by rw [List.set_eq_take_append_cons_drop, if_pos hlt]
    rw [this]; simp [ownW]
  · simp only [List.mem_cons, List.mem_append, List.not_mem_nil, or_false] at hx ⊢
    rcases hx with h | h | h | h | h | h
    · exact .inl h
    · exact .inr (.inl h)
    · exact .inr (.inr (.inl h))
    · exact .inr (.inr (.inr (.inl h)))
    · exact .inr (.inr (.inr (.inr (.inl h))))
    · exact .inr (.inr (.inr (.inr (.inr (.inl h)))))
  · rcases Nat.lt_or_gt_of_ne hj with hlt' | hgt
    · left
      have : q ∈ rs.take i := by
        have : (rs.take i)[j]? = some q := by rw [List.getElem?_take_of_lt hlt']; exact hq
        exact List.mem_of_getElem? this
      simp only [List.mem_cons, List.mem_append]
      exact .inr (.inr (.inr (.inr (.inr (.inr (List.mem_flatMap.2 ⟨q, this, hx⟩))))))
    · right
      have : q ∈ rs.drop (i + 1) := by
        have : (rs.drop (i + 1))[j - (i + 1)]? = some q := by rw [List.getElem?_drop, show i + 1 + (j - (i + 1)) = j by omega]; exact hq
        exact List.mem_of_getElem? this
      exact List.mem_flatMap.2 ⟨q, this, hx⟩

/-- a node does something -/
theorem WR.nodeStep (h : WR w b wl N rs sn sc st cm ops lm am L A) {i : Nat} {p : Nat × Raw} (hi : rs[i]? = some p) {n' : Md.Node} {r' : Raw} (hn : NodeR w' p.1 n' r') (s : Step (foot p.1 p.2) (foot p.1 r') w w') :
    WR w' b { wl with ns := wl.ns.set i n' } N (rs.set i (p.1, r')) sn sc st cm ops lm am L A ∧ Step (ownW b sn sc st lm am rs) (ownW b sn sc st lm am (rs.set i (p.1, r'))) w w' := by
  obtain ⟨H, T, o1, o2, o3, o4⟩ := own_split b sn sc st lm am rs hi
  have hnd := h.nd
  have hlt := h.lt
  rw [o1] at hnd
  have hout := nodup_out hnd
  have hH : ∀ x ∈ H, x ∉ foot p.1 p.2 := fun x hx hh => (hout x hh).1 hx
  have hT : ∀ x ∈ T, x ∉ foot p.1 p.2 := fun x hx hh => (hout x hh).2 hx
  have hil := (List.getElem?_eq_some_iff.1 hi).1
  refine ⟨⟨s.fr.blk h.blk (hH _ (o3 b (by simp))), ?_, h.conf.fr s.fr fun x hx => hH x (o3 x (by simp [hx])), Sl.keeps h.cms s.keeps (.inl rfl), h.net.step s.keeps s.fr fun x hx => hH x (o3 x (by simp [hx])), h.lead.fr s.fr (hH _ (o3 lm (by simp))), h.agr.fr s.fr (hH _ (o3 am (by simp))),
    fun q hq => Sl.keeps (h.ab q hq) s.keeps (.inr rfl), fun j q hj => ?_, ⟨by simp [h.len.1], by simp [h.len.2]⟩, ?_⟩, ⟨s.fr.mono fun x hx => ?_, s.keeps, fun x hx => ?_⟩⟩
  · have : (rs.set i (p.1, r')).map (fun p => Value.pointer (some ⟨p.1, 0, none⟩)) = rs.map fun p => Value.pointer (some ⟨p.1, 0, none⟩) := by
      apply List.ext_getElem?
      intro k
      rw [List.getElem?_map, List.getElem?_map, List.getElem?_set]
      by_cases hik : i = k
      · subst hik; rw [if_pos rfl, if_pos hil, hi]; rfl
      · simp [hik]
    rw [this]
    exact h.nodes.fr s.fr fun x hx => hH x (o3 x (by simp [hx]))
  · rw [List.getElem?_set] at hj
    by_cases hij : i = j
    · subst hij
      simp only [if_true, hil] at hj
      have hq := Option.some.inj hj
      subst hq
      refine ⟨n', ?_, hn⟩
      have : i < wl.ns.length := by rw [h.len.2, ← h.len.1]; exact hil
      simp [this]
    · simp only [hij, if_false] at hj
      obtain ⟨n, h1, h2⟩ := h.node j q hj
      refine ⟨n, by rw [List.getElem?_set_ne hij]; exact h1, h2.step s.keeps s.fr fun x hx => ?_⟩
      exact (o4 j q (Ne.symm hij) hj x hx).elim (hH x) (hT x)
  · rw [o2]
    refine nodup_swap (X' := ftp (p.1, r')) hnd hn.nd fun x hx => ?_
    rcases s.own x hx with hh | hh
    · exact hout x hh
    · constructor
      · intro hc; have := hlt x (by rw [o1]; exact List.mem_append_left _ hc); omega
      · intro hc; have := hlt x (by rw [o1]; exact List.mem_append_right _ (List.mem_append_right _ hc)); omega
  · rw [o1]; exact List.mem_append_right _ (List.mem_append_left _ hx)
  · rw [o2] at hx
    rw [o1]
    rcases List.mem_append.1 hx with hx | hx
    · exact .inl (List.mem_append_left _ hx)
    · rcases List.mem_append.1 hx with hx | hx
      · rcases s.own x hx with hh | hh
        · exact .inl (List.mem_append_right _ (List.mem_append_left _ hh))
        · exact .inr hh
      · exact .inl (List.mem_append_right _ (List.mem_append_right _ hx))

/-- the net is another one -/
theorem WR.netStep (h : WR w b wl N rs sn sc st cm ops lm am L A) {st' : SV} {net' : List Msg} {ops' : List (Msg × MD)} (hm : Msgs w' st' net' ops') (k : Keeps w w') (f : Fr (b :: st.own) w w') (hb : Blk w' b (cellsW sn sc st' lm am) 36)
    (ho : ∀ x ∈ st'.own, x ∈ st.own ∨ w.heap.size ≤ x) : WR w' b { wl with net := net' } N rs sn sc st' cm ops' lm am L A ∧ Step (ownW b sn sc st lm am rs) (ownW b sn sc st' lm am rs) w w' := by
  have hnd := h.nd
  have hlt := h.lt
  have o1 : ownW b sn sc st lm am rs = (b :: (sn.own ++ sc.own)) ++ (st.own ++ (lm :: am :: rs.flatMap ftp)) := by simp [ownW]
  have o2 : ownW b sn sc st' lm am rs = (b :: (sn.own ++ sc.own)) ++ (st'.own ++ (lm :: am :: rs.flatMap ftp)) := by simp [ownW]
  rw [o1] at hnd
  have hout := nodup_out hnd
  have hbn : b ∉ sn.own ++ (sc.own ++ (lm :: am :: rs.flatMap ftp)) := by
    have := h.nd
    unfold ownW at this
    rw [List.nodup_cons] at this
    intro hh
    refine this.1 ?_
    simp only [List.mem_append] at hh ⊢
    rcases hh with hh | hh | hh
    · exact .inl hh
    · exact .inr (.inl hh)
    · exact .inr (.inr (.inr hh))
  have hother : ∀ x ∈ sn.own ++ (sc.own ++ (lm :: am :: rs.flatMap ftp)), x ∉ b :: st.own := fun x hx hh => by
    rcases List.mem_cons.1 hh with rfl | hh
    · exact hbn hx
    · obtain ⟨q1, q2⟩ := hout x hh
      simp only [List.mem_append] at hx
      rcases hx with hx | hx | hx
      · exact q1 (by simp [hx])
      · exact q1 (by simp [hx])
      · exact q2 hx
  have hfoot : ∀ (i : Nat) (p : Nat × Raw), rs[i]? = some p → ∀ x ∈ ftp p, x ∉ b :: st.own := fun i p hp x hx => hother x (by
    simp only [List.mem_append, List.mem_cons]
    exact .inr (.inr (.inr (.inr (List.mem_flatMap.2 ⟨p, List.mem_of_getElem? hp, hx⟩)))))
  refine ⟨⟨hb, h.nodes.fr f fun x hx => hother x (by simp [hx]), h.conf.fr f fun x hx => hother x (by simp [hx]), Sl.keeps h.cms k (.inl rfl), hm, h.lead.fr f (hother _ (by simp)), h.agr.fr f (hother _ (by simp)), fun q hq => Sl.keeps (h.ab q hq) k (.inr rfl), fun i p hp => ?_, h.len, ?_⟩, ⟨f.mono fun x hx => ?_, k, fun x hx => ?_⟩⟩
  · obtain ⟨n, h1, h2⟩ := h.node i p hp
    exact ⟨n, h1, h2.step k f (hfoot i p hp)⟩
  · rw [o2]
    refine nodup_swap (X := st.own) hnd (by unfold SV.own; split <;> simp) fun x hx => ?_
    rcases ho x hx with hh | hh
    · exact hout x hh
    · constructor
      · intro hc; have := hlt x (by rw [o1]; exact List.mem_append_left _ hc); omega
      · intro hc; have := hlt x (by rw [o1]; exact List.mem_append_right _ (List.mem_append_right _ hc)); omega
  · rcases List.mem_cons.1 hx with rfl | hx
    · simp [ownW]
    · simp [ownW, hx]
  · rw [o2] at hx
    rw [o1]
    rcases List.mem_append.1 hx with hx | hx
    · exact .inl (List.mem_append_left _ hx)
    · rcases List.mem_append.1 hx with hx | hx
      · rcases ho x hx with hh | hh
        · exact .inl (List.mem_append_right _ (List.mem_append_left _ hh))
        · exact .inr hh
      · exact .inl (List.mem_append_right _ (List.mem_append_right _ hx))

/-- the nodes and the net, all of it new since a world -/
def WOk (w0 w : World) (b : Nat) (wl : Sf.Wl) (N : Nat) (PL : Nat → Nat → Prop) (PA : Nat → Ent → Prop) : Prop :=
  ∃ rs sn sc st cm ops lm am L A, WR w b wl N rs sn sc st cm ops lm am L A ∧ (∀ x ∈ ownW b sn sc st lm am rs, w0.heap.size ≤ x) ∧ Ex w0 w ∧ (∀ p ∈ L, PL p.1 p.2) ∧ ∀ p ∈ A, PA p.1 p.2.1
theorem WOk.mono {w0 : World} {PL PL' : Nat → Nat → Prop} {PA PA' : Nat → Ent → Prop} (h : WOk w0 w b wl N PL PA) (h1 : ∀ T i, PL T i → PL' T i) (h2 : ∀ k e, PA k e → PA' k e) : WOk w0 w b wl N PL' PA' := by
  obtain ⟨rs, sn, sc, st, cm, ops, lm, am, L, A, q1, q2, q3, q4, q5⟩ := h
  exact ⟨rs, sn, sc, st, cm, ops, lm, am, L, A, q1, q2, q3, fun p hp => h1 _ _ (q4 p hp), fun p hp => h2 _ _ (q5 p hp)⟩

end
end Rx
end Go.Proofs.YtkoipeddfbeliaaGreat

/-
  How much a node sends.
-/
namespace Go.Proofs.YtkoipeddfbeliaaGreat
namespace Rx
open Go.RowKit Md
set_option maxRecDepth 100000

section
variable {n : Md.Node}

theorem o_all (f : Fit n) : n.all.out.length ≤ n.out.length + 7 := f.allOut
theorem o_follow (n : Md.Node) (t l : Nat) : (n.follow t l).out = n.out := by unfold Node.follow; simp only; split <;> rfl
theorem o_ask (f : Fit n) (k t : Nat) : (n.ask k t).out.length ≤ n.out.length + 7 := by
  unfold Node.ask
  simp only
  rw [Sf.fold_send]
  have := f.others
  simp; omega
theorem o_agree (f : Fit n) : n.agree.out.length ≤ n.out.length + 7 := by
  unfold Node.agree
  simp only
  split
  · omega
  · have := o_all (n := { n with commit := Node.agreed n.members fun x => if x = n.id then n.log.last.1 else (n.track.getD []).mat x }) ⟨f.log, f.cf, f.im, f.poll, f.track⟩
    split
    · exact this
    · rw [o_follow]; exact this
theorem o_leads (f : Fit n) : n.leads.out.length ≤ n.out.length + 14 := by
  unfold Node.leads
  simp only
  cases ha : n.log.add n.term false [0, 0, 0] with
  | none => simp only; rw [o_follow]; simp
  | some g =>
    simp only
    have hl := f.lastle
    have f1 : Fit { n with since := 0, role := 3, leader := n.id, poll := none, track := some (Track.follow [] ({ n with since := 0, role := 3, leader := n.id, poll := none } : Md.Node).others n.log.last.1), log := g } :=
      ⟨f.log.add ha, f.cf.add ha (by simp), f.im, fun b hb => by simp at hb, fun t ht => by
        simp at ht; rw [← ht]; exact TrkOk.follow (t := []) (fun p hp => by simp at hp) _ (by omega)⟩
    have h1 := o_all f1
    have h2 := o_agree f1.all
    simp only at h1 h2 ⊢
    omega
theorem o_stands (f : Fit n) : n.stands.out.length ≤ n.out.length + 14 := by
  unfold Node.stands
  have f1 : Fit ({ n with since := 0, role := 2, term := n.term + 1, vote := n.id } : Md.Node).poll1 := Fit.poll1 ⟨f.log, f.cf, f.im, f.poll, f.track⟩
  simp only
  split
  · exact o_leads f1
  · exact Nat.le_trans (o_ask f1 _ _) (by show n.out.length + 7 ≤ _; omega)
theorem o_asks (f : Fit n) : n.asks.out.length ≤ n.out.length + 14 := by
  unfold Node.asks
  have f1 : Fit ({ n with since := 0, role := 1, leader := 0, track := none } : Md.Node).poll1 := Fit.poll1 ⟨f.log, f.cf, f.im, f.poll, fun t ht => by simp at ht⟩
  simp only
  split
  · exact o_stands f1
  · exact Nat.le_trans (o_ask f1 _ _) (by show n.out.length + 7 ≤ _; omega)
theorem o_tick (f : Fit n) (d : Nat) : (n.tick d).out.length ≤ n.out.length + 14 := by
  unfold Node.tick
  have f1 : Fit { n with since := n.since + 1 } := ⟨f.log, f.cf, f.im, f.poll, f.track⟩
  simp only
  split
  · split
    · exact Nat.le_trans (o_all f1) (by show n.out.length + 7 ≤ _; omega)
    · simp
  · split
    · exact o_asks f1
    · simp
theorem o_send (n : Md.Node) (m : Msg) : (n.send m).out.length = n.out.length + 1 := by simp [Node.send]
theorem o_to (n : Md.Node) (x : Nat) : (n.to x).out.length = n.out.length + 1 := by rw [to_eq]; simp
theorem fit_vote (f : Fit n) (x : Nat) (y : Bool) : Fit { n with poll := n.poll.map (·.vote x y) } :=
  ⟨f.log, f.cf, f.im, fun b hb => by
    cases hp : n.poll with
    | none => rw [hp] at hb; simp at hb
    | some b' => rw [hp] at hb; simp at hb; rw [← hb]; exact (f.poll b' hp).vote _ _, f.track⟩
theorem o_tellPre (f : Fit n) (m : Msg) : (n.tellPre m).out.length ≤ n.out.length + 14 := by
  unfold Node.tellPre
  split
  · rw [o_follow]; omega
  · split
    · omega
    · have f1 := fit_vote f m.frm m.yes
      simp only
      split
      · exact o_stands f1
      · split
        · rw [o_follow]; simp
        · simp
theorem o_tellVote (f : Fit n) (m : Msg) : (n.tellVote m).out.length ≤ n.out.length + 14 := by
  unfold Node.tellVote
  split
  · omega
  · have f1 := fit_vote f m.frm m.yes
    simp only
    split
    · exact o_leads f1
    · split
      · rw [o_follow]; simp
      · simp
theorem o_askVote (n : Md.Node) (m : Msg) : (n.askVote m).out.length ≤ n.out.length + 14 := by
  unfold Node.askVote
  simp only
  rw [o_send]
  split <;> simp
theorem o_append (n : Md.Node) (m : Msg) : (n.append m).out.length ≤ n.out.length + 14 := by
  unfold Node.append Node.tell
  rw [follow_same]
  simp only
  split
  · rw [o_send]; simp
  · cases n.log.put m.index m.logTerm m.ents with
    | none => simp only; rw [o_send]; simp
    | some gc => simp only; rw [o_send]; simp
theorem o_install (n : Md.Node) (m : Msg) : (n.install m).out.length ≤ n.out.length + 14 := by
  unfold Node.install Node.tell
  rw [follow_same]
  simp only
  split <;> rw [o_send] <;> simp
theorem fit_track (f : Fit n) {t : Track} (h : TrkOk t) : Fit { n with track := some t } := ⟨f.log, f.cf, f.im, f.poll, fun t' ht' => by simp at ht'; rw [← ht']; exact h⟩
theorem o_told (f : Fit n) (m : Msg) : (n.told m).out.length ≤ n.out.length + 14 := by
  unfold Node.told
  have hk : TrkOk (n.track.getD []) := by
    cases ht : n.track with
    | none => intro p hp; simp at hp
    | some t => exact f.track t ht
  have hl := f.lastle
  simp only
  split
  · omega
  · split
    · split
      · rw [o_to]; simp
      · simp
    · split
      · omega
      · cases hy : (n.track.getD []).yes m.frm m.index with
        | none => simp
        | some t' =>
          simp only
          have f1 := fit_track f (hk.yes (by omega) hy)
          split
          · have h1 := o_to { n with track := some t' } m.frm
            rw [to_eq] at h1 ⊢
            have h2 := o_agree (f1.withOut (n.out ++ [toMsg { n with track := some t' } m.frm]))
            simp at h2 ⊢; omega
          · have := o_agree f1
            simp only at this; omega
theorem o_act (f : Fit n) (m : Msg) : (n.act m).out.length ≤ n.out.length + 14 := by
  unfold Node.act
  split
  · exact o_askVote n m
  · split
    · exact o_tellVote f m
    · split
      · omega
      · split
        · exact o_append n m
        · split
          · exact o_install n m
          · exact o_told f m
theorem o_step (f : Fit n) (m : Msg) : (n.step m).out.length ≤ n.out.length + 14 := by
  unfold Node.step
  split
  · omega
  · split
    · unfold Node.askPre; simp only; rw [o_send]; omega
    · split
      · exact o_tellPre f m
      · split
        · have := o_act (f.follow m.term 0) m
          rw [o_follow] at this; exact this
        · split
          · split
            · unfold Node.tell; rw [o_send]; omega
            · omega
          · exact o_act f m
theorem o_add (f : Fit n) {cf : Bool} {data : List UInt8} (hc : cf = true → ∃ ms, goodM ms ∧ data = encM ms) : (n.add cf data).1.out.length ≤ n.out.length + 14 := by
  unfold Node.add
  cases ha : n.log.add n.term cf data with
  | none => simp
  | some g =>
    simp only
    have f1 : Fit { n with log := g } := ⟨f.log.add ha, f.cf.add ha hc, f.im, f.poll, f.track⟩
    have hl : g.last.1 ≤ 9000000000000001024 := f1.lastle
    have hk : TrkOk (n.track.getD []) := by
      cases ht : n.track with
      | none => intro p hp; simp at hp
      | some t => exact f.track t ht
    have f2 := fit_track f1 (hk.follow ({ n with log := g } : Md.Node).others (last := g.last.1) (by omega))
    have h1 := o_all f2
    have h2 := o_agree f2.all
    simp only at h1 h2 ⊢
    omega
theorem o_propose (f : Fit n) (data : List UInt8) : (n.propose data).1.out.length ≤ n.out.length + 14 := by
  unfold Node.propose
  split
  · simp
  · exact o_add f (by simp)
theorem o_change (f : Fit n) (l : List Nat) : (n.change l).out.length ≤ n.out.length + 14 := by
  unfold Node.change
  split
  · omega
  · split
    · omega
    · rename_i hs
      split
      · omega
      · exact o_add f fun _ => ⟨l, (Sf.confStep_spec (by simpa using hs)).2.1, rfl⟩
theorem o_compact (n : Md.Node) (i : Nat) : (n.compact i).out = n.out := by unfold Node.compact; split <;> rfl

end
end Rx
end Go.Proofs.YtkoipeddfbeliaaGreat

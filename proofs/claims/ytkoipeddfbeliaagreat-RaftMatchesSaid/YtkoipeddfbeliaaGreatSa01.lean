
/-
  A raft node in plain Lean: what the functions compute.
-/
namespace Go.Proofs.YtkoipeddfbeliaaGreat
namespace Md

structure Ent where
  index : Nat
  term : Nat
  conf : Bool
  data : List UInt8
deriving DecidableEq

structure Msg where
  kind : Nat
  frm : Nat
  to : Nat
  term : Nat
  index : Nat
  logTerm : Nat
  commit : Nat
  yes : Bool
  ents : List Ent
  members : List Nat
deriving DecidableEq

structure Log where
  base : Nat
  bterm : Nat
  l : List Ent

def Log.new (i t : Nat) : Log := ⟨i, t, []⟩
def Log.last (g : Log) : Nat × Nat := match g.l.getLast? with
  | none => (g.base, g.bterm)
  | some x => (x.index, x.term)
def Log.term (g : Log) (i : Nat) : Option Nat :=
  if i < g.base then none else if g.last.1 < i then none else if i = g.base then some g.bterm else some ((g.l[i - g.base - 1]?).elim 0 (·.term))
def Log.termD (g : Log) (i : Nat) : Nat := (g.term i).getD 0
def Log.from_ (g : Log) (i most : Nat) : List Ent :=
  if i ≤ g.base then [] else if g.last.1 < i - 1 then [] else (g.l.drop (i - g.base - 1)).take most
def Log.add (g : Log) (t : Nat) (conf : Bool) (data : List UInt8) : Option Log :=
  if t < g.last.2 then none else if 1024 ≤ g.l.length then none else if 900 < data.length then none else some { g with l := g.l ++ [⟨g.last.1 + 1, t, conf, data⟩] }

/-- may entries follow an index of a term? -/
def okFollow : Nat → Nat → List Ent → Bool
  | _, _, [] => true
  | i, t, x :: xs => x.index == i + 1 && t ≤ x.term && okFollow x.index x.term xs
def okLong (l : List Ent) : Bool := l.all fun x => decide (x.data.length ≤ 900)
def Log.known (g : Log) : List Ent → Nat
  | [] => 0
  | x :: xs => if g.term x.index = some x.term then g.known xs + 1 else 0
/-- the log, and where it changed (0: nowhere) -/
def Log.put (g : Log) (i t : Nat) (l : List Ent) : Option (Log × Nat) :=
  if okFollow i t l && okLong l && g.term i == some t then
    match l.drop (g.known l) with
    | [] => some (g, 0)
    | x :: xs => if 1024 < (x.index - g.base - 1) + (x :: xs).length then none else some ({ g with l := g.l.take (x.index - g.base - 1) ++ (x :: xs) }, x.index)
  else none
def Log.cut (g : Log) (i : Nat) : Log := match g.term i with
  | none => g
  | some t => ⟨i, t, g.l.drop (i - g.base)⟩

/-- members, from bytes -/
def dec (b : List UInt8) : List Nat := b.tail.map (·.toNat)
/-- who counts, up to an index; and where that is said -/
def confOf (g : Log) (base : List Nat) (last : Nat) : List Nat × Nat :=
  match (g.l.take (last - g.base)).reverse.find? (·.conf) with
  | some x => (dec x.data, x.index)
  | none => (base, 0)

def goodM (l : List Nat) : Prop := l ≠ [] ∧ (∀ x ∈ l, 1 ≤ x ∧ x ≤ 7) ∧ l.Pairwise (· < ·)
instance (l : List Nat) : Decidable (goodM l) := by unfold goodM; infer_instance

structure Ballot where
  members : List Nat
  votes : List (Nat × Bool)
def Ballot.vote (b : Ballot) (x : Nat) (yes : Bool) : Ballot :=
  if goodM b.members ∧ x ∈ b.members ∧ x ∉ b.votes.map (·.1) then { b with votes := b.votes ++ [(x, yes)] } else b
def Ballot.yes (b : Ballot) : Nat := (b.votes.filter (·.2)).length
def Ballot.no (b : Ballot) : Nat := (b.votes.filter (!·.2)).length
/-- 0: open, 1: won, 2: lost -/
def Ballot.state (b : Ballot) : Nat :=
  if goodM b.members then
    if b.members.length / 2 + 1 ≤ b.yes then 1 else if b.members.length - b.no < b.members.length / 2 + 1 then 2 else 0
  else 2

abbrev Track := List (Nat × Nat × Nat)
def Track.get (t : Track) (x : Nat) : Option (Nat × Nat) := (t.find? (·.1 == x)).map (·.2)
def Track.has (t : Track) (x : Nat) : Bool := (t.get x).isSome
def Track.mat (t : Track) (x : Nat) : Nat := ((t.get x).map (·.1)).getD 0
def Track.next (t : Track) (x : Nat) : Nat := ((t.get x).map (·.2)).getD 0
def Track.set (t : Track) (x : Nat) (m : Nat × Nat) : Track := t.map fun p => if p.1 = x then (x, m) else p
def Track.follow (t : Track) (nodes : List Nat) (last : Nat) : Track :=
  nodes.foldl (fun (t : Track) n => if t.has n then t else t ++ [(n, 0, last + 1)]) (t.filter fun p => decide (p.1 ∈ nodes))
def Track.yes (t : Track) (x i : Nat) : Option Track :=
  if t.has x ∧ t.mat x < i then some (t.set x (i, max (t.next x) (i + 1))) else none
def Track.no (t : Track) (x i : Nat) : Track :=
  if t.has x then
    let n := max (min (t.next x) (i + 1)) (t.mat x + 1)
    if t.next x ≤ n then t else t.set x (t.mat x, n)
  else t

structure Img where
  index : Nat
  term : Nat
  members : List Nat

structure Node where
  id : Nat
  cm : List Nat
  elect : Nat
  beat : Nat
  term : Nat
  vote : Nat
  role : Nat
  leader : Nat
  since : Nat
  log : Log
  img : Img
  commit : Nat
  poll : Option Ballot
  track : Option Track
  out : List Msg

def far : Nat := 4611686018427387904

namespace Node
def members (n : Node) : List Nat := (confOf n.log n.img.members n.log.last.1).1
def others (n : Node) : List Nat := n.members.filter (· != n.id)
def send (n : Node) (m : Msg) : Node := { n with out := n.out ++ [{ m with frm := n.id }] }
def follow (n : Node) (term leader : Nat) : Node :=
  let n := if n.term < term then { n with term := term, vote := 0 } else n
  { n with role := 0, leader := leader, poll := none, track := none }
def ask (n : Node) (kind term : Nat) : Node :=
  let l := n.log.last
  n.others.foldl (fun n x => n.send ⟨kind, 0, x, term, l.1, l.2, 0, false, [], []⟩) n
def poll1 (n : Node) : Node := { n with poll := some ((Ballot.mk n.members []).vote n.id true) }
def pollState (n : Node) : Nat := match n.poll with | some b => b.state | none => 2
def to (n : Node) (x : Nat) : Node :=
  let next := (n.track.getD []).next x
  if next ≤ n.log.base then n.send ⟨6, 0, x, n.term, n.log.base, n.log.bterm, 0, false, [], n.img.members⟩
  else n.send ⟨4, 0, x, n.term, next - 1, n.log.termD (next - 1), n.commit, false, n.log.from_ next 8, []⟩
def all (n : Node) : Node := n.others.foldl (fun n x => n.to x) { n with since := 0 }
/-- sorted upwards -/
def ins (x : Nat) : List Nat → List Nat
  | [] => [x]
  | y :: ys => if x ≤ y then x :: y :: ys else y :: ins x ys
def sortN (l : List Nat) : List Nat := l.foldr ins []
/-- the greatest number that a majority has -/
def agreed (l : List Nat) (at_ : Nat → Nat) : Nat :=
  if goodM l then (sortN (l.map at_))[l.length - (l.length / 2 + 1)]?.getD 0 else 0
def agree (n : Node) : Node :=
  let i := agreed n.members fun x => if x = n.id then n.log.last.1 else (n.track.getD []).mat x
  if i ≤ n.commit ∨ n.log.term i ≠ some n.term then n
  else
    let n := { n with commit := i }.all
    if n.id ∈ (confOf n.log n.img.members n.commit).1 then n else n.follow n.term 0
def leads (n : Node) : Node :=
  let last := n.log.last.1
  let n := { n with since := 0, role := 3, leader := n.id, poll := none }
  let n := { n with track := some (Track.follow [] n.others last) }
  match n.log.add n.term false [0, 0, 0] with
  | none => n.follow n.term 0
  | some g => { n with log := g }.all.agree
def stands (n : Node) : Node :=
  let n := { n with since := 0, role := 2, term := n.term + 1, vote := n.id }
  let n := n.poll1
  if n.pollState = 1 then n.leads else n.ask 2 n.term
def asks (n : Node) : Node :=
  let n := { n with since := 0, role := 1, leader := 0, track := none }
  let n := n.poll1
  if n.pollState = 1 then n.stands else n.ask 0 (n.term + 1)
def tick (n : Node) (draw : Nat) : Node :=
  let n := { n with since := n.since + 1 }
  if n.role = 3 then if n.beat ≤ n.since then n.all else n
  else if n.term < far ∧ n.elect + draw % n.elect ≤ n.since ∧ n.id ∈ n.members then n.asks else n
def younger (n : Node) (m : Msg) : Bool := decide (n.log.last.2 < m.logTerm) || (m.logTerm == n.log.last.2 && decide (n.log.last.1 ≤ m.index))
def askPre (n : Node) (m : Msg) : Node :=
  let yes := decide (n.term < m.term) && n.younger m && decide (n.role ≠ 3) && (decide (n.leader = 0) || decide (n.elect ≤ n.since))
  n.send ⟨1, 0, m.frm, if yes then m.term else n.term, 0, 0, 0, yes, [], []⟩
def tellPre (n : Node) (m : Msg) : Node :=
  if m.yes = false ∧ n.term < m.term then n.follow m.term 0
  else if n.role ≠ 1 ∨ (m.yes = true ∧ m.term ≠ n.term + 1) then n
  else
    let n := { n with poll := n.poll.map (·.vote m.frm m.yes) }
    if n.pollState = 1 then n.stands else if n.pollState = 2 then n.follow n.term 0 else n
def askVote (n : Node) (m : Msg) : Node :=
  let yes := (decide (n.vote = 0) || decide (n.vote = m.frm)) && decide (n.role ≠ 3) && n.younger m
  let n := if yes then { n with vote := m.frm, since := 0 } else n
  n.send ⟨3, 0, m.frm, n.term, 0, 0, 0, yes, [], []⟩
def tellVote (n : Node) (m : Msg) : Node :=
  if n.role ≠ 2 then n
  else
    let n := { n with poll := n.poll.map (·.vote m.frm m.yes) }
    if n.pollState = 1 then n.leads else if n.pollState = 2 then n.follow n.term 0 else n
def tell (n : Node) (kind : Nat) (m : Msg) (yes : Bool) (i : Nat) : Node := n.send ⟨kind, 0, m.frm, n.term, i, 0, 0, yes, [], []⟩
def append (n : Node) (m : Msg) : Node :=
  let n := { n.follow n.term m.frm with since := 0 }
  if m.index < n.commit then n.tell 5 m true n.commit
  else match n.log.put m.index m.logTerm m.ents with
    | none => n.tell 5 m false (min n.log.last.1 (m.index - 1))
    | some (g, _) =>
      let last := m.index + m.ents.length
      let n := { n with log := g, commit := max n.commit (min m.commit last) }
      n.tell 5 m true last
def install (n : Node) (m : Msg) : Node :=
  let n := { n.follow n.term m.frm with since := 0 }
  if m.index ≤ n.commit then n.tell 7 m true n.commit
  else
    let g := if n.log.term m.index = some m.logTerm then n.log.cut m.index else Log.new m.index m.logTerm
    let n := { n with log := g, img := ⟨m.index, m.logTerm, m.members⟩, commit := m.index }
    n.tell 7 m true m.index
def told (n : Node) (m : Msg) : Node :=
  let last := n.log.last.1
  if n.role ≠ 3 then n
  else if m.yes = false then
    let t := (n.track.getD []).no m.frm m.index
    let n := { n with track := some t }
    if t.has m.frm then n.to m.frm else n
  else if last < m.index then n
  else match (n.track.getD []).yes m.frm m.index with
    | none => n
    | some t =>
      let n := { n with track := some t }
      let n := if t.next m.frm ≤ last then n.to m.frm else n
      n.agree
def right (n : Node) (m : Msg) : Bool :=
  if m.to ≠ n.id ∨ m.frm = n.id ∨ m.frm < 1 ∨ 7 < m.frm ∨ 8 ≤ m.kind ∨ far < m.term then false
  else if m.kind ≠ 4 ∧ m.kind ≠ 6 then true
  else m.ents.all (fun x => decide (x.term ≤ m.term)) && decide (m.logTerm ≤ m.term) && (decide (m.kind = 4) || (decide (m.index ≤ far) && decide (goodM m.members)))
def act (n : Node) (m : Msg) : Node :=
  if m.kind = 2 then n.askVote m
  else if m.kind = 3 then n.tellVote m
  else if (m.kind = 4 ∨ m.kind = 6) ∧ n.role = 3 then n
  else if m.kind = 4 then n.append m
  else if m.kind = 6 then n.install m
  else n.told m
def step (n : Node) (m : Msg) : Node :=
  if n.right m = false then n
  else if m.kind = 0 then n.askPre m
  else if m.kind = 1 then n.tellPre m
  else if n.term < m.term then (n.follow m.term 0).act m
  else if m.term < n.term then if m.kind = 4 ∨ m.kind = 6 then n.tell 5 m false 0 else n
  else n.act m
/-- an entry is added; the index, or 0 -/
def add (n : Node) (conf : Bool) (data : List UInt8) : Node × Nat :=
  match n.log.add n.term conf data with
  | none => (n, 0)
  | some g =>
    let n := { n with log := g }
    (({ n with track := some ((n.track.getD []).follow n.others n.log.last.1) }.all).agree, n.log.last.1)
def propose (n : Node) (data : List UInt8) : Node × Nat := if n.role ≠ 3 then (n, 0) else n.add false data
def confStep (a b : List Nat) : Bool :=
  decide (goodM a) && decide (goodM b) && ((List.range 8).filter fun x => decide (x ∈ a) != decide (x ∈ b)).length == 1
def encM (l : List Nat) : List UInt8 := UInt8.ofNat l.length :: l.map UInt8.ofNat
def change (n : Node) (l : List Nat) : Node :=
  if n.role ≠ 3 then n
  else if confStep n.members l = false then n
  else if n.commit < (confOf n.log n.img.members n.log.last.1).2 ∨ n.log.termD n.commit ≠ n.term then n
  else (n.add true (encM l)).1
def compact (n : Node) (i : Nat) : Node :=
  if n.commit < i ∨ i ≤ n.log.base then n
  else { n with img := ⟨i, n.log.termD i, (confOf n.log n.img.members i).1⟩, log := n.log.cut i }
/-- made anew of what it saved -/
def anew (n : Node) : Node :=
  { n with role := 0, leader := 0, since := 0, commit := n.img.index, poll := none, track := none, out := [], log := ⟨n.img.index, n.img.term, n.log.l⟩ }
end Node

end Md
end Go.Proofs.YtkoipeddfbeliaaGreat

/-
  Safety, in plain Lean: logs, members, majorities.
-/
namespace Go.Proofs.YtkoipeddfbeliaaGreat
namespace Sf
open Md

/-- the members by a log -/
def confL (C0 : List Nat) (A : List Ent) : List Nat := match A.reverse.find? (·.conf) with
  | some x => dec x.data
  | none => C0
def lastT (A : List Ent) : Nat := match A.getLast? with
  | some x => x.term
  | none => 0
def Maj (C V : List Nat) : Prop := V.Nodup ∧ (∀ x ∈ V, x ∈ C) ∧ C.length < 2 * V.length
/-- one step apart at most -/
def Near (C D : List Nat) : Prop := C = D ∨ Node.confStep C D = true ∨ Node.confStep D C = true

theorem len_le : ∀ {l m : List Nat}, l.Nodup → (∀ x ∈ l, x ∈ m) → l.length ≤ m.length
  | [], m, _, _ => by simp
  | x :: l, m, h, hs => by
    have h1 := List.nodup_cons.1 h
    have h2 := len_le (m := m.erase x) h1.2 fun y hy => (List.mem_erase_of_ne fun (e : y = x) => h1.1 (e ▸ hy)).2 (hs y (by simp [hy]))
    have hx := hs x (by simp)
    rw [List.length_erase_of_mem hx] at h2
    have := List.length_pos_of_mem hx
    simp; omega
theorem goodM_nodup {l : List Nat} (h : goodM l) : l.Nodup := h.2.2.imp fun hh => Nat.ne_of_lt hh

theorem confStep_spec {C D : List Nat} (h : Node.confStep C D = true) : goodM C ∧ goodM D ∧ ∃ y, (∀ x, x ≠ y → (x ∈ C ↔ x ∈ D)) ∧ (y ∈ C ↔ y ∉ D) := by
  unfold Node.confStep at h
  simp only [Bool.and_eq_true, decide_eq_true_eq, beq_iff_eq] at h
  obtain ⟨⟨h1, h2⟩, h3⟩ := h
  obtain ⟨y, hy⟩ := List.length_eq_one_iff.1 h3
  have hp : ∀ x, x ∈ List.range 8 → ((decide (x ∈ C) != decide (x ∈ D)) = true ↔ x = y) := fun x hx => by
    have : x ∈ (List.range 8).filter (fun x => decide (x ∈ C) != decide (x ∈ D)) ↔ x ∈ [y] := by rw [hy]
    simpa [hx] using this
  have hym : y ∈ List.range 8 := by
    have : y ∈ (List.range 8).filter (fun x => decide (x ∈ C) != decide (x ∈ D)) := by rw [hy]; simp
    exact (List.mem_filter.1 this).1
  refine ⟨h1, h2, y, fun x hx => ?_, ?_⟩
  · by_cases hr : x ∈ List.range 8
    · have h4 := hp x hr
      have : ¬ ((decide (x ∈ C) != decide (x ∈ D)) = true) := fun hh => hx (h4.1 hh)
      by_cases a : x ∈ C <;> by_cases b : x ∈ D <;> simp_all
    · have : 8 ≤ x := by simpa using hr
      constructor
      · intro hc; have := (h1.2.1 x hc).2; omega
      · intro hc; have := (h2.2.1 x hc).2; omega
  · have := (hp y hym).2 rfl
    by_cases a : y ∈ C <;> by_cases b : y ∈ D <;> simp_all

theorem step_meet {C D V Q : List Nat} (h : Node.confStep C D = true) (hV : Maj C V) (hQ : Maj D Q) : ∃ x, x ∈ V ∧ x ∈ Q := by
  obtain ⟨h1, h2, y, hy, hy2⟩ := confStep_spec h
  refine Classical.byContradiction fun hno => ?_
  have hnd : (V ++ Q).Nodup := by
    rw [List.nodup_append]
    exact ⟨hV.1, hQ.1, fun a ha b hb hab => hno ⟨a, ha, hab ▸ hb⟩⟩
  by_cases hyC : y ∈ C
  · have hyD : y ∉ D := hy2.1 hyC
    have hsub : ∀ x ∈ V ++ Q, x ∈ C := fun x hx => by
      rcases List.mem_append.1 hx with hx | hx
      · exact hV.2.1 x hx
      · have hd := hQ.2.1 x hx
        exact (hy x fun e => hyD (e ▸ hd)).2 hd
    have h3 := len_le hnd hsub
    have h4 : C.length ≤ (y :: D).length := len_le (goodM_nodup h1) fun x hx => by
      by_cases e : x = y
      · simp [e]
      · exact List.mem_cons_of_mem _ ((hy x e).1 hx)
    have := hV.2.2; have := hQ.2.2
    simp at h3 h4; omega
  · have hyD : y ∈ D := Classical.byContradiction fun hh => hyC (hy2.2 hh)
    have hsub : ∀ x ∈ V ++ Q, x ∈ D := fun x hx => by
      rcases List.mem_append.1 hx with hx | hx
      · have hd := hV.2.1 x hx
        exact (hy x fun e => hyC (e ▸ hd)).1 hd
      · exact hQ.2.1 x hx
    have h3 := len_le hnd hsub
    have h4 : D.length ≤ (y :: C).length := len_le (goodM_nodup h2) fun x hx => by
      by_cases e : x = y
      · simp [e]
      · exact List.mem_cons_of_mem _ ((hy x e).2 hx)
    have := hV.2.2; have := hQ.2.2
    simp at h3 h4; omega
theorem near_meet {C D V Q : List Nat} (h : Near C D) (hV : Maj C V) (hQ : Maj D Q) : ∃ x, x ∈ V ∧ x ∈ Q := by
  rcases h with rfl | h | h
  · refine Classical.byContradiction fun hno => ?_
    have hnd : (V ++ Q).Nodup := by
      rw [List.nodup_append]
      exact ⟨hV.1, hQ.1, fun a ha b hb hab => hno ⟨a, ha, hab ▸ hb⟩⟩
    have h3 := len_le hnd fun x hx => (List.mem_append.1 hx).elim (hV.2.1 x) (hQ.2.1 x)
    have := hV.2.2; have := hQ.2.2
    simp at h3; omega
  · exact step_meet h hV hQ
  · obtain ⟨x, h1, h2⟩ := step_meet h hQ hV; exact ⟨x, h2, h1⟩

/-! ### The members by a log -/
theorem confL_plain {C0 : List Nat} {P Q : List Ent} (h : ∀ e ∈ Q, e.conf = false) : confL C0 (P ++ Q) = confL C0 P := by
  unfold confL
  rw [List.reverse_append, List.find?_append]
  have : Q.reverse.find? (·.conf) = none := by
    rw [List.find?_eq_none]; intro e he; rw [h e (List.mem_reverse.1 he)]; simp
  rw [this]; rfl
theorem confL_at {C0 : List Nat} {P Q : List Ent} {e : Ent} (h : ∀ e ∈ Q, e.conf = false) (he : e.conf = true) : confL C0 (P ++ e :: Q) = dec e.data := by
  rw [show P ++ e :: Q = (P ++ [e]) ++ Q by simp, confL_plain h]
  unfold confL
  rw [List.reverse_append]
  simp [he]
/-- where a row has its first entry with members -/
theorem first_conf : ∀ A : List Ent, (∀ e ∈ A, e.conf = false) ∨ ∃ A1 e A2, A = A1 ++ e :: A2 ∧ (∀ x ∈ A1, x.conf = false) ∧ e.conf = true
  | [] => .inl (by simp)
  | x :: A => by
    cases hx : x.conf with
    | true => exact .inr ⟨[], x, A, rfl, by simp, hx⟩
    | false =>
      rcases first_conf A with h | ⟨A1, e, A2, h1, h2, h3⟩
      · left; intro e he
        rcases List.mem_cons.1 he with rfl | he
        · exact hx
        · exact h e he
      · refine .inr ⟨x :: A1, e, A2, by rw [h1]; rfl, fun y hy => ?_, h3⟩
        rcases List.mem_cons.1 hy with rfl | hy
        · exact hx
        · exact h2 y hy

/-- what two rows have in common -/
theorem common : ∀ A B : List Ent, ∃ P A' B', A = P ++ A' ∧ B = P ++ B' ∧ ∀ C, C <+: A → C <+: B → C <+: P
  | [], B => ⟨[], [], B, rfl, rfl, fun C h _ => h⟩
  | x :: A, [] => ⟨[], x :: A, [], rfl, rfl, fun C _ h => h⟩
  | x :: A, y :: B => by
    by_cases h : x = y
    · subst h
      obtain ⟨P, A', B', h1, h2, h3⟩ := common A B
      refine ⟨x :: P, A', B', by rw [h1]; rfl, by rw [h2]; rfl, fun C hA hB => ?_⟩
      cases C with
      | nil => exact List.nil_prefix
      | cons c C =>
        rw [List.cons_prefix_cons] at hA hB ⊢
        exact ⟨hA.1, h3 C hA.2 hB.2⟩
    · refine ⟨[], x :: A, y :: B, rfl, rfl, fun C hA hB => ?_⟩
      cases C with
      | nil => exact List.nil_prefix
      | cons c C =>
        rw [List.cons_prefix_cons] at hA hB
        exact absurd (hA.1.symm.trans hB.1) h

/-- what allowed an entry with members -/
structure CertAt (A : List Ent) (j : Nat) (e : Ent) (c : Nat) : Prop where
  pos : 0 < c
  le : c ≤ j
  plain : ∀ k x, c ≤ k → k < j → A[k]? = some x → x.conf = false
  term : ∃ x, A[c - 1]? = some x ∧ x.term = e.term

structure Pair (C0 : List Nat) (A B : List Ent) : Prop where
  cert : ∀ j e, A[j]? = some e → e.conf = true → ∃ c, CertAt A j e c ∧ A.take c <+: B
  step : ∀ j e, A[j]? = some e → e.conf = true → Node.confStep (confL C0 (A.take j)) (dec e.data) = true
  mono : ∀ (i j : Nat) (x y : Ent), i ≤ j → A[i]? = some x → A[j]? = some y → x.term ≤ y.term

theorem pre_len {A B : List Ent} {k : Nat} (h : A.take k <+: B) (hk : k ≤ A.length) {P : List Ent} (hmax : ∀ C, C <+: A → C <+: B → C <+: P) : k ≤ P.length := by
  have := (hmax _ (List.take_prefix _ _) h).length_le
  simp at this; omega

theorem near_one {C0 : List Nat} {A B P A' B' : List Ent} (pa : Pair C0 A B) (hA : A = P ++ A') (hB : B = P ++ B') (hmax : ∀ C, C <+: A → C <+: B → C <+: P) (hb : ∀ e ∈ B', e.conf = false) : confL C0 B = confL C0 A ∨ Node.confStep (confL C0 B) (confL C0 A) = true := by
  have hcB : confL C0 B = confL C0 P := by rw [hB, confL_plain hb]
  rcases first_conf A' with h | ⟨A1, e, A2, h1, h2, h3⟩
  · left; rw [hcB, hA, confL_plain h]
  · right
    have hAe : A = (P ++ A1) ++ e :: A2 := by rw [hA, h1]; simp
    rcases first_conf A2 with h | ⟨A3, e', A4, g1, g2, g3⟩
    · have hj : A[(P ++ A1).length]? = some e := by rw [hAe, List.getElem?_append_right (Nat.le_refl _)]; simp
      have := pa.step _ e hj h3
      rw [hAe] at this ⊢
      rw [List.take_left' rfl, confL_plain h2] at this
      rw [hcB, confL_at h h3]
      exact this
    · exfalso
      have hAe2 : A = ((P ++ A1) ++ e :: A3) ++ e' :: A4 := by rw [hAe, g1]; simp
      have hj : A[((P ++ A1) ++ e :: A3).length]? = some e' := by rw [hAe2, List.getElem?_append_right (Nat.le_refl _)]; simp
      have hje : A[(P ++ A1).length]? = some e := by rw [hAe, List.getElem?_append_right (Nat.le_refl _)]; simp
      obtain ⟨c, hc, hp⟩ := pa.cert _ e' hj g3
      have hlt : (P ++ A1).length < c := Nat.lt_of_not_le fun hle => by
        have := hc.plain _ _ hle (by simp) hje
        rw [h3] at this; cases this
      have hlen := (List.getElem?_eq_some_iff.1 hj).1
      have := pre_len hp (by have := hc.le; omega) hmax
      simp at hlt; omega

theorem near_conf {C0 : List Nat} {A B : List Ent} (pa : Pair C0 A B) (pb : Pair C0 B A) (lm : ∀ (j k : Nat) (x y : Ent), A[j]? = some x → B[k]? = some y → x.term = y.term → A.take (j + 1) <+: B ∨ B.take (k + 1) <+: A) : Near (confL C0 A) (confL C0 B) := by
  obtain ⟨P, A', B', hA, hB, hmax⟩ := common A B
  have hmax' : ∀ C, C <+: B → C <+: A → C <+: P := fun C h1 h2 => hmax C h2 h1
  rcases first_conf A' with ha | ⟨A1, e, A2, h1, h2, h3⟩
  · rcases near_one pb hB hA hmax' ha with h | h
    · exact .inl h
    · exact .inr (.inl h)
  · rcases first_conf B' with hb | ⟨B1, f, B2, g1, g2, g3⟩
    · rcases near_one pa hA hB hmax hb with h | h
      · exact .inl h.symm
      · exact .inr (.inr h)
    · exfalso
      have hje : A[(P ++ A1).length]? = some e := by rw [hA, h1, ← List.append_assoc, List.getElem?_append_right (Nat.le_refl _)]; simp
      have hjf : B[(P ++ B1).length]? = some f := by rw [hB, g1, ← List.append_assoc, List.getElem?_append_right (Nat.le_refl _)]; simp
      have hla := (List.getElem?_eq_some_iff.1 hje).1
      have hlb := (List.getElem?_eq_some_iff.1 hjf).1
      obtain ⟨ca, hca, pca⟩ := pa.cert _ e hje h3
      obtain ⟨cb, hcb, pcb⟩ := pb.cert _ f hjf g3
      have la := pre_len pca (by have := hca.le; omega) hmax
      have lb := pre_len pcb (by have := hcb.le; omega) hmax'
      have same : ∀ i, i < P.length → A[i]? = B[i]? := fun i hi => by rw [hA, hB, List.getElem?_append_left hi, List.getElem?_append_left hi]
      have hpa := hca.pos
      have hpb := hcb.pos
      rcases Nat.lt_trichotomy e.term f.term with hlt | heq | hgt
      · obtain ⟨x, hx, hxt⟩ := hcb.term
        rw [← same _ (by omega)] at hx
        have := pa.mono _ _ _ _ (by simp; omega) hx hje
        omega
      · rcases lm _ _ _ _ hje hjf heq with h | h
        · have := pre_len h (by omega) hmax; simp at this; omega
        · have := pre_len h (by omega) hmax'; simp at this; omega
      · obtain ⟨x, hx, hxt⟩ := hca.term
        rw [same _ (by omega)] at hx
        have := pb.mono _ _ _ _ (by simp; omega) hx hjf
        omega

end Sf
end Go.Proofs.YtkoipeddfbeliaaGreat

/-
  Safety, in plain Lean: what has been, and what holds of it; a leader has what was committed.
-/
namespace Go.Proofs.YtkoipeddfbeliaaGreat
namespace Sf
open Md

/-- what has been: by terms who led, its log at first, its log; votes; logs that stood for votes; what was known to be in a log; what was committed, by how long a log -/
structure G where
  C0 : List Nat
  B : Nat
  full : Nat → List Ent
  lead : Nat → Option Nat
  el : Nat → List Ent
  tl : Nat → List Ent
  vt : Nat → Nat → Nat → Prop
  cl : Nat → Nat → Option (List Ent)
  ack : Nat → Nat → Nat → Prop
  ev : Nat → Nat → Nat → Prop

/-- each row that ends in an entry of a term is the beginning of that term's log -/
def Gd (tl : Nat → List Ent) (A : List Ent) : Prop := ∀ (i : Nat) (e : Ent), A[i]? = some e → A.take (i + 1) <+: tl e.term

structure GInv (g : G) : Prop where
  c0 : goodM g.C0
  lead0 : g.lead 0 = none
  idx : ∀ (T i : Nat) (e : Ent), (g.tl T)[i]? = some e → e.index = i + 1
  bnd : ∀ T, (g.tl T).length ≤ g.B
  dat : ∀ T, ∀ e ∈ g.tl T, e.data.length ≤ 900
  cfd : ∀ T, ∀ e ∈ g.tl T, e.conf = true → ∃ ms, goodM ms ∧ e.data = Node.encM ms
  elp : ∀ T, g.el T <+: g.tl T
  elt : ∀ T, ∀ e ∈ g.el T, e.term < T
  tlt : ∀ (T i : Nat) (e : Ent), (g.tl T)[i]? = some e → (g.el T).length ≤ i → e.term = T
  none_ : ∀ T, g.lead T = none → g.tl T = []
  tgd : ∀ T, Gd g.tl (g.tl T)
  cert : ∀ (T j : Nat) (e : Ent), (g.tl T)[j]? = some e → (g.el T).length ≤ j → e.conf = true → Node.confStep (confL g.C0 ((g.tl T).take j)) (dec e.data) = true ∧
    ∃ c p, g.ev T c p ∧ c ≤ j ∧ (∀ (k : Nat) (x : Ent), c ≤ k → k < j → (g.tl T)[k]? = some x → x.conf = false) ∧ ∀ c' p', g.ev T c' p' → j < p' → c < c'
  evb : ∀ u c p, g.ev u c p → (g.el u).length < c ∧ c ≤ p ∧ p ≤ (g.tl u).length
  evq : ∀ u c p, g.ev u c p → ∃ Q, Maj (confL g.C0 ((g.tl u).take p)) Q ∧ ∀ x ∈ Q, g.ack x u c
  elq : ∀ T x, g.lead T = some x → ∃ V, Maj (confL g.C0 (g.el T)) V ∧ ∀ y ∈ V, g.vt T y x
  ldc : ∀ T x, g.lead T = some x → g.cl T x = some (g.el T)
  clg : ∀ T x A, g.cl T x = some A → Gd g.tl A ∧ ∀ e ∈ A, e.term < T
  vtf : ∀ T y x x', g.vt T y x → g.vt T y x' → x = x'
  vtc : ∀ T y x, g.vt T y x → ∃ A, g.cl T x = some A
  ackb : ∀ x u c, g.ack x u c → g.lead u ≠ none ∧ c ≤ (g.tl u).length
  ackd : ∀ x u c c', g.ack x u c → c' ≤ c → g.ack x u c'
  cv : ∀ T y x A u c, g.vt T y x → g.cl T x = some A → g.ack y u c → u < T → (g.el u).length < c → (∀ T', u < T' → T' ≤ T → g.lead T' ≠ none → (T' = T → g.lead T ≠ some x) → (g.tl u).take c <+: g.el T') → u < lastT A ∨ (lastT A = u ∧ c ≤ A.length)
  lc : ∀ T u c p, g.lead T ≠ none → g.ev u c p → u < T → (g.tl u).take c <+: g.el T

theorem pre_comp {A B C : List Ent} (h1 : A <+: C) (h2 : B <+: C) : A <+: B ∨ B <+: A := by
  rcases Nat.le_total A.length B.length with h | h
  · exact .inl (List.prefix_of_prefix_length_le h1 h2 h)
  · exact .inr (List.prefix_of_prefix_length_le h2 h1 h)
theorem pre_get {A B : List Ent} (h : A <+: B) {i : Nat} (hi : i < A.length) : B[i]? = A[i]? := by
  obtain ⟨C, rfl⟩ := h; rw [List.getElem?_append_left hi]
theorem take_pre {A B : List Ent} (h : A <+: B) {i : Nat} (hi : i ≤ A.length) : B.take i = A.take i := by
  obtain ⟨C, rfl⟩ := h; rw [List.take_append_of_le_length hi]
theorem take_mono {A : List Ent} {i j : Nat} (h : i ≤ j) : A.take i <+: A.take j := List.prefix_of_prefix_length_le (List.take_prefix _ _) (List.take_prefix _ _) (by simp; omega)
theorem take_iff {A B : List Ent} {i : Nat} (h : A <+: B) (hi : i ≤ A.length) : B.take i <+: A := by rw [take_pre h hi]; exact List.take_prefix _ _

theorem Gd.pre {tl : Nat → List Ent} {A C : List Ent} (h : Gd tl A) (hc : C <+: A) : Gd tl C := fun i e hi => by
  have hl := (List.getElem?_eq_some_iff.1 hi).1
  rw [← take_pre hc (by omega)]
  exact h i e (by rw [pre_get hc hl]; exact hi)
theorem Gd.last {tl : Nat → List Ent} {A : List Ent} (h : Gd tl A) (hne : A ≠ []) : A <+: tl (lastT A) ∧ ∃ e, A[A.length - 1]? = some e ∧ e.term = lastT A := by
  cases hl : A.getLast? with
  | none => rw [List.getLast?_eq_none_iff] at hl; exact absurd hl hne
  | some e =>
    have ht : lastT A = e.term := by unfold lastT; rw [hl]
    rw [List.getLast?_eq_getElem?] at hl
    have := h _ e hl
    have hp := (List.getElem?_eq_some_iff.1 hl).1
    rw [List.take_of_length_le (by omega)] at this
    exact ⟨by rw [ht]; exact this, e, hl, ht.symm⟩

section
variable {g : G}

theorem GInv.tle (gi : GInv g) {T : Nat} {e : Ent} (h : e ∈ g.tl T) : e.term ≤ T := by
  obtain ⟨i, hi⟩ := List.mem_iff_getElem?.1 h
  rcases Nat.lt_or_ge i (g.el T).length with hl | hl
  · rw [pre_get (gi.elp T) hl] at hi
    have := gi.elt T e (List.mem_of_getElem? hi); omega
  · have := gi.tlt T i e hi hl; omega
theorem GInv.eln (gi : GInv g) {T i : Nat} {e : Ent} (h : (g.tl T)[i]? = some e) (he : e.term = T) : (g.el T).length ≤ i := Nat.le_of_not_lt fun hl => by
  rw [pre_get (gi.elp T) hl] at h
  have := gi.elt T e (List.mem_of_getElem? h); omega
theorem GInv.led (gi : GInv g) {T i : Nat} {e : Ent} (h : (g.tl T)[i]? = some e) : g.lead T ≠ none := fun hn => by
  rw [gi.none_ T hn] at h; simp at h
theorem GInv.evl (gi : GInv g) {u c p : Nat} (h : g.ev u c p) : g.lead u ≠ none := fun hn => by
  have := gi.evb u c p h
  rw [gi.none_ u hn] at this; simp at this; omega

theorem Gd.mono (gi : GInv g) {A : List Ent} (h : Gd g.tl A) (i j : Nat) (x y : Ent) (hij : i ≤ j) (hx : A[i]? = some x) (hy : A[j]? = some y) : x.term ≤ y.term := by
  have h1 := h j y hy
  have hl := (List.getElem?_eq_some_iff.1 hy).1
  refine gi.tle (T := y.term) (List.mem_of_getElem? (i := i) ?_)
  rw [pre_get h1 (by simp; omega), List.getElem?_take_of_lt (by omega)]
  exact hx
theorem Gd.idx (gi : GInv g) {A : List Ent} (h : Gd g.tl A) (i : Nat) (x : Ent) (hx : A[i]? = some x) : x.index = i + 1 := by
  have h1 := h i x hx
  have hl := (List.getElem?_eq_some_iff.1 hx).1
  refine gi.idx x.term i x ?_
  rw [pre_get h1 (by simp; omega), List.getElem?_take_of_lt (by omega)]
  exact hx
theorem Gd.same (gi : GInv g) {A : List Ent} (h : Gd g.tl A) {i : Nat} {x : Ent} (hx : A[i]? = some x) : (g.tl x.term)[i]? = some x ∧ A.take (i + 1) = (g.tl x.term).take (i + 1) ∧ (g.el x.term).length ≤ i := by
  have h1 := h i x hx
  have hl := (List.getElem?_eq_some_iff.1 hx).1
  have h2 : (g.tl x.term)[i]? = some x := by
    rw [pre_get h1 (by simp; omega), List.getElem?_take_of_lt (by omega)]; exact hx
  refine ⟨h2, ?_, gi.eln h2 rfl⟩
  have := take_pre h1 (i := i + 1) (by simp; omega)
  rw [this, List.take_take]; simp

theorem cert_of (gi : GInv g) {A : List Ent} (ha : Gd g.tl A) {j : Nat} {e : Ent} (hj : A[j]? = some e) (he : e.conf = true) :
    Node.confStep (confL g.C0 (A.take j)) (dec e.data) = true ∧ ∃ c p, g.ev e.term c p ∧ CertAt A j e c ∧ A.take c = (g.tl e.term).take c ∧ ∀ c' p', g.ev e.term c' p' → j < p' → c < c' := by
  obtain ⟨h1, h2, h3⟩ := ha.same gi hj
  have hlen := (List.getElem?_eq_some_iff.1 hj).1
  have htk : ∀ i, i ≤ j + 1 → A.take i = (g.tl e.term).take i := fun i hi => by
    have := congrArg (List.take i) h2
    rw [List.take_take, List.take_take] at this
    simpa [show min i (j + 1) = i by omega] using this
  have hget : ∀ i, i ≤ j → A[i]? = (g.tl e.term)[i]? := fun i hi => by
    have := congrArg (·[i]?) h2
    simpa [List.getElem?_take, show i < j + 1 by omega] using this
  obtain ⟨k1, c, p, k2, k3, k4, k5⟩ := gi.cert e.term j e h1 h3 he
  have hb := gi.evb _ _ _ k2
  refine ⟨by rw [htk j (by omega)]; exact k1, c, p, k2, ⟨by omega, k3, fun k x hk hkj hx => k4 k x hk hkj (by rw [← hget k (by omega)]; exact hx), ?_⟩, htk c (by omega), k5⟩
  have hc : c - 1 < (g.tl e.term).length := by omega
  refine ⟨(g.tl e.term)[c - 1], ?_, gi.tlt e.term (c - 1) _ (List.getElem?_eq_getElem hc) (by omega)⟩
  rw [hget (c - 1) (by omega)]; exact List.getElem?_eq_getElem hc

theorem pair_lm {A B : List Ent} (ha : Gd g.tl A) (hb : Gd g.tl B) (j k : Nat) (x y : Ent) (hx : A[j]? = some x) (hy : B[k]? = some y) (ht : x.term = y.term) : A.take (j + 1) <+: B ∨ B.take (k + 1) <+: A := by
  have h1 := ha j x hx
  have h2 := hb k y hy
  rw [ht] at h1
  rcases pre_comp h1 h2 with h | h
  · exact .inl (h.trans (List.take_prefix _ _))
  · exact .inr (h.trans (List.take_prefix _ _))

theorem lc_core (gi : GInv g) {u c p T x : Nat} {L : List Ent} {Qs Vs : List Nat} (hel : (g.el u).length < c) (hcp : c ≤ p) (hp : p ≤ (g.tl u).length) (hu : g.lead u ≠ none)
    (hQ : Maj (confL g.C0 ((g.tl u).take p)) Qs) (hack : ∀ y ∈ Qs, g.ack y u c) (huT : u < T) (hcl : g.cl T x = some L) (hV : Maj (confL g.C0 L) Vs) (hvt : ∀ y ∈ Vs, g.vt T y x)
    (h1 : ∀ T', u < T' → T' ≤ T → g.lead T' ≠ none → (T' = T → g.lead T ≠ some x) → (g.tl u).take c <+: g.el T')
    (h2 : ∀ v c' p', g.ev v c' p' → v < T → c' < c → (g.tl v).take c' <+: L)
    (h4 : ∀ c' j p', j < p → g.ev u c' p' → (∀ c'' p'', g.ev u c'' p'' → j < p'' → c' < c'') → c' < c) : (g.tl u).take c <+: L := by
  obtain ⟨hLg, hLt⟩ := gi.clg T x L hcl
  generalize hPd : (g.tl u).take p = P at hQ
  have hPt : P <+: g.tl u := by rw [← hPd]; exact List.take_prefix _ _
  have hPl : P.length = p := by rw [← hPd]; simp; omega
  have hcP : (g.tl u).take c <+: P := by rw [← hPd]; exact take_mono hcp
  by_cases hsub : P <+: L
  · exact hcP.trans hsub
  have hPg : Gd g.tl P := (gi.tgd u).pre hPt
  rcases Nat.lt_or_ge u (lastT L) with hlt | hge
  · -- the log ends in a younger term
    have hne : L ≠ [] := fun hh => by rw [hh] at hlt; simp [lastT] at hlt
    obtain ⟨hLs, e, he, het⟩ := hLg.last hne
    have hsT : lastT L < T := by rw [← het]; exact hLt e (List.mem_of_getElem? he)
    have hle := (List.getElem?_eq_some_iff.1 he).1
    have hes : (g.tl (lastT L))[L.length - 1]? = some e := by rw [pre_get hLs hle]; exact he
    have hen := gi.eln hes het
    have := h1 (lastT L) hlt (by omega) (gi.led hes) fun hh => by omega
    exact this.trans (List.prefix_of_prefix_length_le (gi.elp _) hLs (by omega))
  · have pa : Pair g.C0 P L := ⟨fun j e hj he => by
        obtain ⟨_, c', p', k1, k2, k3, k4⟩ := cert_of gi hPg hj he
        have hjl := (List.getElem?_eq_some_iff.1 hj).1
        have hv : e.term ≤ u := gi.tle (T := u) (hPt.subset (List.mem_of_getElem? hj))
        refine ⟨c', k2, ?_⟩
        rw [k3]
        refine h2 e.term c' p' k1 (by omega) ?_
        rcases Nat.lt_or_ge e.term u with hlt | hge'
        · have hju : j < (g.el u).length := Nat.lt_of_not_le fun hle => by
            have := gi.tlt u j e (by rw [pre_get hPt hjl]; exact hj) hle; omega
          have := k2.le; omega
        · have hvu : e.term = u := by omega
          rw [hvu] at k1 k4
          exact h4 c' j p' (by omega) k1 k4, fun j e hj he => (cert_of gi hPg hj he).1, hPg.mono gi⟩
    have pb : Pair g.C0 L P := ⟨fun j e hj he => by
        obtain ⟨_, c', p', k1, k2, k3, _⟩ := cert_of gi hLg hj he
        have hjl := (List.getElem?_eq_some_iff.1 hj).1
        have hv : e.term ≤ u := by
          have hne : L ≠ [] := fun hh => by rw [hh] at hj; simp at hj
          obtain ⟨_, f, hf, hft⟩ := hLg.last hne
          have := hLg.mono gi j (L.length - 1) e f (by omega) hj hf
          omega
        refine ⟨c', k2, ?_⟩
        rcases Nat.lt_or_ge e.term u with hlt | hge'
        · rw [k3]
          refine (gi.lc u e.term c' p' hu k1 hlt).trans ?_
          exact List.prefix_of_prefix_length_le (gi.elp u) hPt (by omega)
        · have hvu : e.term = u := by omega
          have hLj := hLg j e hj
          rw [hvu] at hLj
          rcases pre_comp hPt hLj with h | h
          · exact absurd (h.trans (List.take_prefix _ _)) hsub
          · exact (take_mono (by have := k2.le; omega)).trans h, fun j e hj he => (cert_of gi hLg hj he).1, hLg.mono gi⟩
    have hnear := near_conf pa pb (pair_lm hPg hLg)
    obtain ⟨y, hyQ, hyV⟩ := near_meet hnear hQ hV
    rcases gi.cv T y x L u c (hvt y hyV) hcl (hack y hyQ) huT hel h1 with h | ⟨h, hlen⟩
    · omega
    · have hne : L ≠ [] := fun hh => by rw [hh] at hlen; simp at hlen; omega
      have hLs := (hLg.last hne).1
      rw [h] at hLs
      exact List.prefix_of_prefix_length_le (List.take_prefix _ _) hLs (by simp; omega)

/-- who wins a vote has all that was committed in terms before -/
theorem lc_elect (gi : GInv g) {T x : Nat} {L : List Ent} {Vs : List Nat} (hcl : g.cl T x = some L) (hV : Maj (confL g.C0 L) Vs) (hvt : ∀ y ∈ Vs, g.vt T y x) :
    ∀ c u p, g.ev u c p → u < T → (g.tl u).take c <+: L := by
  intro c
  induction c using Nat.strongRecOn with
  | ind c ih =>
    intro u p hev huT
    obtain ⟨b1, b2, b3⟩ := gi.evb u c p hev
    obtain ⟨Qs, hQ, hack⟩ := gi.evq u c p hev
    exact lc_core gi b1 b2 b3 (gi.evl hev) hQ hack huT hcl hV hvt (fun T' h1 _ h3 _ => gi.lc T' u c p h3 hev h1) (fun v c' p' h1 h2 h3 => ih c' h3 v p' h1 h2)
      (fun c' j p' hj _ h => h c p hev hj)

/-- what is committed all leaders of later terms have -/
theorem lc_event (gi : GInv g) {u c p : Nat} {Qs : List Nat} (hel : (g.el u).length < c) (hcp : c ≤ p) (hp : p ≤ (g.tl u).length) (hu : g.lead u ≠ none)
    (hQ : Maj (confL g.C0 ((g.tl u).take p)) Qs) (hack : ∀ y ∈ Qs, g.ack y u c) (hnew : ∀ c' p', g.ev u c' p' → c' < c) : ∀ T, g.lead T ≠ none → u < T → (g.tl u).take c <+: g.el T := by
  intro T
  induction T using Nat.strongRecOn with
  | ind T ih =>
    intro hl huT
    cases hx : g.lead T with
    | none => exact absurd hx hl
    | some x =>
      obtain ⟨Vs, hV, hvt⟩ := gi.elq T x hx
      exact lc_core gi hel hcp hp hu hQ hack huT (gi.ldc T x hx) hV hvt (fun T' h1 h2 h3 h5 => ih T' (Nat.lt_of_le_of_ne h2 fun hh => h5 hh hx) h3 h1) (fun v c' p' h1 h2 _ => gi.lc T v c' p' hl h1 h2) (fun c' j p' _ h _ => hnew c' p' h)

/-- one leads in a term -/
theorem elect_one (gi : GInv g) {T x y : Nat} {L : List Ent} {Vs : List Nat} (hcl : g.cl T x = some L) (hV : Maj (confL g.C0 L) Vs) (hvt : ∀ z ∈ Vs, g.vt T z x) (hy : g.lead T = some y) : x = y := by
  obtain ⟨Ws, hW, hwt⟩ := gi.elq T y hy
  have hlc := lc_elect gi hcl hV hvt
  obtain ⟨hLg, hLt⟩ := gi.clg T x L hcl
  obtain ⟨hEg, hEt⟩ := gi.clg T y _ (gi.ldc T y hy)
  have mk : ∀ A B, Gd g.tl A → (∀ e ∈ A, e.term < T) → (∀ c u p, g.ev u c p → u < T → (g.tl u).take c <+: B) → Pair g.C0 A B := fun A B hA hAt hB =>
    ⟨fun j e hj he => by
      obtain ⟨_, c', p', k1, k2, k3, _⟩ := cert_of gi hA hj he
      exact ⟨c', k2, by rw [k3]; exact hB c' e.term p' k1 (hAt e (List.mem_of_getElem? hj))⟩, fun j e hj he => (cert_of gi hA hj he).1, hA.mono gi⟩
  have pa := mk L (g.el T) hLg hLt fun c u p h1 h2 => gi.lc T u c p (by rw [hy]; simp) h1 h2
  have pb := mk (g.el T) L hEg hEt hlc
  obtain ⟨z, h1, h2⟩ := near_meet (near_conf pa pb (pair_lm hLg hEg)) hV hW
  exact gi.vtf T z x y (hvt z h1) (hwt z h2)

end
end Sf
end Go.Proofs.YtkoipeddfbeliaaGreat

/-
  Safety, in plain Lean: a node's log, and the whole log of which it is the end.
-/
namespace Go.Proofs.YtkoipeddfbeliaaGreat
namespace Sf
open Md

/-- the term at an index -/
def termAt (A : List Ent) (i : Nat) : Nat := if i = 0 then 0 else match A[i - 1]? with
  | some e => e.term
  | none => 0

/-- a log is the end of a whole log -/
structure LogIs (g : Log) (A : List Ent) : Prop where
  base : g.base ≤ A.length
  l : g.l = A.drop g.base
  bterm : g.bterm = termAt A g.base
  idx : ∀ (i : Nat) (e : Ent), A[i]? = some e → e.index = i + 1

theorem termAt_last (A : List Ent) : termAt A A.length = lastT A := by
  unfold termAt lastT
  rw [List.getLast?_eq_getElem?]
  by_cases h : A.length = 0
  · have : A = [] := List.eq_nil_of_length_eq_zero h
    subst this; rfl
  · exact (if_neg h).trans rfl
theorem termAt_some {A : List Ent} {i : Nat} {e : Ent} (h : A[i]? = some e) : termAt A (i + 1) = e.term := by
  unfold termAt; rw [if_neg (by omega), show i + 1 - 1 = i by omega, h]
theorem termAt_pre {A B : List Ent} (h : A <+: B) {i : Nat} (hi : i ≤ A.length) : termAt B i = termAt A i := by
  unfold termAt
  split
  · rfl
  · rw [pre_get h (by omega)]

section
variable {g : Log} {A : List Ent}

theorem LogIs.last (h : LogIs g A) : g.last = (A.length, lastT A) := by
  unfold Log.last
  rw [h.l, List.getLast?_eq_getElem?]
  have hb := h.base
  by_cases hd : g.base = A.length
  · have : A.drop g.base = [] := by simp [hd]
    rw [this]
    simp only [List.length_nil, List.getElem?_nil]
    rw [h.bterm, hd, termAt_last]
  · rw [List.getElem?_drop]
    have hlt : A.length - 1 < A.length := by omega
    have : g.base + ((A.drop g.base).length - 1) = A.length - 1 := by simp; omega
    rw [this, List.getElem?_eq_getElem hlt]
    have hx := h.idx _ _ (List.getElem?_eq_getElem hlt)
    have : lastT A = (A[A.length - 1]).term := by
      unfold lastT; rw [List.getLast?_eq_getElem?, List.getElem?_eq_getElem hlt]
    simp only [Prod.mk.injEq]
    exact ⟨by omega, this.symm⟩

theorem LogIs.term (h : LogIs g A) (i : Nat) : g.term i = if i < g.base ∨ A.length < i then none else some (termAt A i) := by
  unfold Log.term
  rw [h.last]
  by_cases h1 : i < g.base
  · simp [h1]
  · by_cases h2 : A.length < i
    · simp [h1, h2]
    · simp only [h1, h2, if_false, or_self]
      by_cases h3 : i = g.base
      · simp only [h3, if_true, h.bterm]
      · simp only [h3, if_false]
        rw [h.l, List.getElem?_drop, show g.base + (i - g.base - 1) = i - 1 by omega]
        unfold termAt
        rw [if_neg (by omega)]
        cases A[i - 1]? <;> rfl
theorem LogIs.termD (h : LogIs g A) {i : Nat} (h1 : g.base ≤ i) (h2 : i ≤ A.length) : g.termD i = termAt A i := by
  unfold Log.termD
  rw [h.term, if_neg (by omega)]; rfl

theorem LogIs.from_ (h : LogIs g A) {i : Nat} (h1 : g.base < i) (h2 : i ≤ A.length + 1) (k : Nat) : g.from_ i k = (A.drop (i - 1)).take k := by
  unfold Log.from_
  rw [if_neg (by omega), h.last, if_neg (by omega), h.l, List.drop_drop, show g.base + (i - g.base - 1) = i - 1 by omega]

theorem LogIs.conf (h : LogIs g A) {C0 ms : List Nat} (hm : ms = confL C0 (A.take g.base)) {i : Nat} (h1 : g.base ≤ i) : (confOf g ms i).1 = confL C0 (A.take i) := by
  unfold confOf
  have : A.take i = A.take g.base ++ g.l.take (i - g.base) := by
    rw [h.l, ← List.take_add, show g.base + (i - g.base) = i by omega]
  rw [this]
  unfold confL
  rw [List.reverse_append, List.find?_append]
  cases hf : (g.l.take (i - g.base)).reverse.find? (·.conf) with
  | some x => simp
  | none => simp only [Option.none_or]; rw [hm]; rfl
theorem LogIs.members (h : LogIs g A) {C0 ms : List Nat} (hm : ms = confL C0 (A.take g.base)) : (confOf g ms g.last.1).1 = confL C0 A := by
  rw [h.conf hm (by rw [h.last]; exact h.base), h.last, List.take_of_length_le (Nat.le_refl _)]
/-- where the members are said -/
theorem LogIs.confAt (h : LogIs g A) {ms : List Nat} {c : Nat} (hc : g.base ≤ c) (hle : (confOf g ms g.last.1).2 ≤ c) : ∀ (k : Nat) (x : Ent), c ≤ k → A[k]? = some x → x.conf = false := by
  intro k x hk hx
  cases hxc : x.conf with
  | false => rfl
  | true =>
    exfalso
    have hb := h.base
    have hkl := (List.getElem?_eq_some_iff.1 hx).1
    have hall : g.l.take (g.last.1 - g.base) = g.l := by
      rw [h.last]; refine List.take_of_length_le ?_; rw [h.l]; simp
    unfold confOf at hle
    rw [hall] at hle
    have hxl : g.l[k - g.base]? = some x := by rw [h.l, List.getElem?_drop, show g.base + (k - g.base) = k by omega]; exact hx
    cases hf : g.l.reverse.find? (·.conf) with
    | none =>
      have := List.find?_eq_none.1 hf x (List.mem_reverse.2 (List.mem_of_getElem? hxl))
      simp [hxc] at this
    | some y =>
      rw [hf] at hle
      simp only at hle
      obtain ⟨hy, L1, L2, h1, h2⟩ := List.find?_eq_some_iff_append.1 hf
      have hrev : g.l = L2.reverse ++ y :: L1.reverse := by
        have := congrArg List.reverse h1
        simpa using this
      have hyi : g.l[L2.reverse.length]? = some y := by rw [hrev, List.getElem?_append_right (Nat.le_refl _)]; simp
      have hyA : A[g.base + L2.reverse.length]? = some y := by rw [← List.getElem?_drop, ← h.l]; exact hyi
      have hyx := h.idx _ _ hyA
      -- the found one is the last one with members
      have hle2 : k - g.base ≤ L2.reverse.length := Nat.le_of_not_lt fun hlt => by
        rw [hrev, List.getElem?_append_right (by omega)] at hxl
        have hpos : k - g.base - L2.reverse.length = (k - g.base - L2.reverse.length - 1) + 1 := by omega
        rw [hpos, List.getElem?_cons_succ] at hxl
        have := h2 x (List.mem_reverse.1 (List.mem_of_getElem? hxl))
        simp [hxc] at this
      omega

theorem LogIs.add (h : LogIs g A) {t : Nat} {cf : Bool} {data : List UInt8} {g' : Log} (ha : g.add t cf data = some g') : LogIs g' (A ++ [⟨A.length + 1, t, cf, data⟩]) ∧ g'.base = g.base ∧ g'.bterm = g.bterm ∧ data.length ≤ 900 := by
  unfold Log.add at ha
  rw [h.last] at ha
  split at ha
  · cases ha
  · split at ha
    · cases ha
    · split at ha
      · cases ha
      · cases ha
        have hb := h.base
        refine ⟨⟨by simp; omega, ?_, ?_, fun i e hi => ?_⟩, rfl, rfl, by omega⟩
        · simp only; rw [h.l, List.drop_append_of_le_length hb]
        · simp only; rw [h.bterm, termAt_pre (List.prefix_append _ _) hb]
        · rcases Nat.lt_or_ge i A.length with hlt | hge
          · rw [List.getElem?_append_left hlt] at hi; exact h.idx i e hi
          · rw [List.getElem?_append_right hge] at hi
            have hl := (List.getElem?_eq_some_iff.1 hi).1
            have : i - A.length = 0 := by simpa using hl
            rw [this] at hi
            simp at hi; rw [← hi]; simp only; omega
theorem LogIs.addSome (h : LogIs g A) (t : Nat) (cf : Bool) (data : List UInt8) (h1 : lastT A ≤ t) (h2 : g.l.length < 1024) (h3 : data.length ≤ 900) : ∃ g', g.add t cf data = some g' := by
  unfold Log.add
  rw [h.last, if_neg (by simp only; omega), if_neg (by omega), if_neg (by omega)]
  exact ⟨_, rfl⟩

theorem LogIs.cut (h : LogIs g A) {i : Nat} (h1 : g.base ≤ i) (h2 : i ≤ A.length) : LogIs (g.cut i) A ∧ (g.cut i).base = i ∧ (g.cut i).bterm = termAt A i := by
  unfold Log.cut
  rw [h.term, if_neg (by omega)]
  refine ⟨⟨h2, ?_, rfl, h.idx⟩, rfl, rfl⟩
  simp only; rw [h.l, List.drop_drop, show g.base + (i - g.base) = i by omega]
theorem LogIs.new {A : List Ent} {i t : Nat} (hi : i ≤ A.length) (ht : t = termAt A i) (idx : ∀ (i : Nat) (e : Ent), A[i]? = some e → e.index = i + 1) : LogIs (Log.new i t) (A.take i) where
  base := by simp [Log.new]; omega
  l := by simp [Log.new]
  bterm := by simp only [Log.new]; rw [ht]; exact (termAt_pre (List.take_prefix _ _) (by simp; omega))
  idx := fun k e hk => by
    rw [List.getElem?_take] at hk
    split at hk
    · exact idx k e hk
    · cases hk

/-! ### Entries that come -/
theorem known_spec (h : LogIs g A) : ∀ (E : List Ent) (i : Nat), g.base ≤ i → i ≤ A.length → (∀ (k : Nat) (e : Ent), E[k]? = some e → e.index = i + k + 1) →
    (∀ (k : Nat) (e : Ent), k < g.known E → E[k]? = some e → i + k < A.length ∧ termAt A (i + k + 1) = e.term) ∧ (∀ e, E[g.known E]? = some e → ¬ (i + g.known E < A.length ∧ termAt A (i + g.known E + 1) = e.term))
  | [], i, _, _, _ => ⟨fun k e hk => by simp [Log.known] at hk, fun e he => by simp at he⟩
  | x :: E, i, hb, hi, hidx => by
    have hx := hidx 0 x rfl
    have ht : g.term x.index = some x.term ↔ (i < A.length ∧ termAt A (i + 1) = x.term) := by
      rw [h.term, show x.index = i + 1 by omega]
      by_cases hl : A.length < i + 1
      · rw [if_pos (.inr hl)]; simp; omega
      · rw [if_neg (by omega)]
        simp only [Option.some.injEq]
        exact ⟨fun hh => ⟨by omega, hh⟩, fun hh => hh.2⟩
    by_cases hc : g.term x.index = some x.term
    · have hk : g.known (x :: E) = g.known E + 1 := by simp [Log.known, hc]
      obtain ⟨h1, h2⟩ := ht.1 hc
      obtain ⟨r1, r2⟩ := known_spec h E (i + 1) (by omega) (by omega) fun k e hk => by have := hidx (k + 1) e (by simpa using hk); omega
      rw [hk]
      refine ⟨fun k e hlt he => ?_, fun e he => ?_⟩
      · cases k with
        | zero => simp at he; subst he; exact ⟨h1, h2⟩
        | succ k =>
          have := r1 k e (by omega) (by simpa using he)
          rw [show i + (k + 1) = i + 1 + k by omega]; exact this
      · have := r2 e (by simpa using he)
        rw [show i + (g.known E + 1) = i + 1 + g.known E by omega]; exact this
    · have hk : g.known (x :: E) = 0 := by simp [Log.known, hc]
      rw [hk]
      refine ⟨fun k e hlt => by omega, fun e he => ?_⟩
      simp at he; subst he
      exact fun hh => hc (ht.2 (by simpa using hh))

end
end Sf
end Go.Proofs.YtkoipeddfbeliaaGreat

/-
  Safety, in plain Lean: entries of a leader's log are put into a log.
-/
namespace Go.Proofs.YtkoipeddfbeliaaGreat
namespace Sf
open Md

theorem put_cases {g g' : Log} {i t c : Nat} {l : List Ent} (h : g.put i t l = some (g', c)) : okFollow i t l = true ∧ g.term i = some t ∧
    ((l.drop (g.known l) = [] ∧ g' = g) ∨ ∃ x xs, l.drop (g.known l) = x :: xs ∧ g' = { g with l := g.l.take (x.index - g.base - 1) ++ (x :: xs) }) := by
  unfold Log.put at h
  split at h
  · rename_i hc
    simp only [Bool.and_eq_true, beq_iff_eq] at hc
    refine ⟨hc.1.1, hc.2, ?_⟩
    split at h
    · rename_i hd
      simp only [Option.some.injEq, Prod.mk.injEq] at h
      exact .inl ⟨hd, h.1.symm⟩
    · rename_i x xs hd
      split at h
      · cases h
      · simp only [Option.some.injEq, Prod.mk.injEq] at h
        exact .inr ⟨x, xs, hd, h.1.symm⟩
  · cases h
theorem follow_idx : ∀ {l : List Ent} {i t : Nat}, okFollow i t l = true → ∀ (k : Nat) (x : Ent), l[k]? = some x → x.index = i + k + 1
  | [], _, _, _, k, x, h => by simp at h
  | y :: l, i, t, h, k, x, hk => by
    simp only [okFollow, Bool.and_eq_true, beq_iff_eq] at h
    cases k with
    | zero => simp at hk; subst hk; omega
    | succ k =>
      have := follow_idx h.2 k x (by simpa using hk)
      omega

theorem LogIs.put {g g' : Log} {A TL E : List Ent} {i t c : Nat} (h : LogIs g A) (hp : g.put i t E = some (g', c)) (hE : E = (TL.drop i).take E.length) (hl : i + E.length ≤ TL.length) (ht : t = termAt TL i)
    (tidx : ∀ (i : Nat) (e : Ent), TL[i]? = some e → e.index = i + 1) (lm : ∀ k, k < A.length → k < TL.length → termAt A (k + 1) = termAt TL (k + 1) → A.take (k + 1) = TL.take (k + 1)) :
    ∃ A', LogIs g' A' ∧ g'.base = g.base ∧ g'.bterm = g.bterm ∧ TL.take (i + E.length) <+: A' ∧ (A' = A ∨ A' = TL.take (i + E.length)) ∧ ∀ k, k ≤ TL.length → TL.take k <+: A → TL.take k <+: A' := by
  obtain ⟨h1, h2, h3⟩ := put_cases hp
  have hti := h.term i
  rw [h2] at hti
  have hbi : g.base ≤ i ∧ i ≤ A.length := by
    split at hti
    · cases hti
    · omega
  rw [if_neg (by omega)] at hti
  have hta : termAt A i = termAt TL i := by rw [← ht]; exact (Option.some.inj hti).symm
  have hpre : A.take i = TL.take i := by
    cases i with
    | zero => simp
    | succ k => exact lm k (by omega) (by omega) hta
  have hidx := follow_idx h1
  obtain ⟨k1, k2⟩ := known_spec h E i hbi.1 hbi.2 hidx
  generalize hK : g.known E = K at *
  have hget : ∀ k, k < E.length → E[k]? = TL[i + k]? := fun k hk => by
    rw [hE, List.getElem?_take_of_lt hk, List.getElem?_drop]
  have hKE : K ≤ E.length := by
    rw [← hK]
    have : ∀ l : List Ent, g.known l ≤ l.length := fun l => by
      induction l with
      | nil => simp [Log.known]
      | cons x l ih => unfold Log.known; split <;> simp <;> omega
    exact this E
  have hcom : A.take (i + K) = TL.take (i + K) := by
    cases hk0 : K with
    | zero => exact hpre
    | succ k =>
      have hlt : k < E.length := by omega
      have hkk := k1 k E[k] (by omega) (List.getElem?_eq_getElem hlt)
      have hg := hget k hlt
      rw [List.getElem?_eq_getElem hlt] at hg
      exact lm (i + k) hkk.1 (by omega) (by rw [hkk.2, termAt_some hg.symm])
  have hiK : i + K ≤ A.length := by
    cases hk0 : K with
    | zero => exact hbi.2
    | succ k =>
      have hlt : k < E.length := by omega
      have := (k1 k E[k] (by omega) (List.getElem?_eq_getElem hlt)).1; omega
  rcases h3 with ⟨hd, rfl⟩ | ⟨x, xs, hd, rfl⟩
  · have hKe : K = E.length := by have := congrArg List.length hd; simp at this; omega
    rw [hKe] at hcom
    exact ⟨A, h, rfl, rfl, by rw [← hcom]; exact List.take_prefix _ _, .inl rfl, fun k _ hk => hk⟩
  · have hlt : K < E.length := by have := congrArg List.length hd; simp at this; omega
    have hx : E[K]? = some x := by
      have := congrArg (·[0]?) hd
      simpa [List.getElem?_drop] using this
    have hxi := hidx K x hx
    have hxT : TL[i + K]? = some x := by rw [← hget K hlt]; exact hx
    have hno := k2 x hx
    refine ⟨TL.take (i + E.length), ⟨by simp; omega, ?_, ?_, fun k e hk => ?_⟩, rfl, rfl, List.prefix_refl _, .inr rfl, fun k hkl hk => ?_⟩
    · simp only
      rw [← hd, show x.index - g.base - 1 = i + K - g.base by omega, h.l]
      have e1 : (A.drop g.base).take (i + K - g.base) = (TL.take (i + K)).drop g.base := by
        rw [← hcom, List.drop_take]
      have e2 : E.drop K = (TL.drop (i + K)).take (E.length - K) := by
        conv => lhs; rw [hE]
        rw [List.drop_take, List.drop_drop]
      rw [e1, e2]
      have e3 : TL.take (i + E.length) = TL.take (i + K) ++ (TL.drop (i + K)).take (E.length - K) := by
        rw [← List.take_add, show i + K + (E.length - K) = i + E.length by omega]
      rw [e3, List.drop_append_of_le_length (by simp; omega)]
    · simp only
      rw [h.bterm]
      have q1 := termAt_pre (List.take_prefix (i + K) A) (i := g.base) (by simp; omega)
      have q2 := termAt_pre (take_mono (A := TL) (i := i + K) (j := i + E.length) (by omega)) (i := g.base) (by simp; omega)
      rw [q1, q2, hcom]
    · rw [List.getElem?_take] at hk
      split at hk
      · exact tidx k e hk
      · cases hk
    · rcases Nat.lt_or_ge (i + K) k with hc | hc
      · exfalso
        refine hno ?_
        have hlen := hk.length_le
        simp only [List.length_take] at hlen
        have hAx : A[i + K]? = some x := by
          rw [pre_get hk (by simp; omega), List.getElem?_take_of_lt hc]; exact hxT
        exact ⟨by omega, termAt_some hAx⟩
      · exact take_mono (by omega)

end Sf
end Go.Proofs.YtkoipeddfbeliaaGreat

/-
  Safety, in plain Lean: what holds of a node and of a message; what a node may do to what has been.
-/
namespace Go.Proofs.YtkoipeddfbeliaaGreat
namespace Sf
open Md

/-- an index is committed, as far as a term knows -/
def CmOk (g : G) (T k : Nat) : Prop := k = 0 ∨ ∃ u c p, g.ev u c p ∧ u ≤ T ∧ k ≤ c

structure MsgInv (g : G) (m : Msg) : Prop where
  tb : m.term ≤ g.B + 1
  ib : m.index ≤ g.B
  to1 : 1 ≤ m.to
  frm1 : 1 ≤ m.frm ∧ m.frm ≤ 7
  ask : m.kind = 2 → ∃ A, g.cl m.term m.frm = some A ∧ m.index = A.length ∧ m.logTerm = lastT A
  vote : m.kind = 3 → m.yes = true → g.vt m.term m.frm m.to ∨ g.lead m.term = some m.to
  app : m.kind = 4 → g.lead m.term ≠ none ∧ m.index + m.ents.length ≤ (g.tl m.term).length ∧ m.ents = ((g.tl m.term).drop m.index).take m.ents.length ∧ m.logTerm = termAt (g.tl m.term) m.index ∧ CmOk g m.term m.commit
  noents : m.kind ≠ 4 → m.ents = []
  nomem : m.kind ≠ 6 → m.members = []
  inst : m.kind = 6 → g.lead m.term ≠ none ∧ m.index ≤ (g.tl m.term).length ∧ m.logTerm = termAt (g.tl m.term) m.index ∧ m.members = confL g.C0 ((g.tl m.term).take m.index) ∧ CmOk g m.term m.index
  told : (m.kind = 5 ∨ m.kind = 7) → m.yes = true → m.index = 0 ∨ g.ack m.frm m.term m.index

structure BalIs (b : Ballot) : Prop where
  nd : (b.votes.map (·.1)).Nodup
  mem : ∀ x ∈ b.votes.map (·.1), x ∈ b.members
  len : b.members.length ≤ 7

structure NodeInv (g : G) (x : Nat) (n : Node) : Prop where
  id : n.id = x
  x1 : 1 ≤ x ∧ x ≤ 7
  log : LogIs n.log (g.full x)
  base : n.log.base ≤ n.commit
  img : n.img.index = n.log.base ∧ n.img.term = n.log.bterm ∧ n.img.members = confL g.C0 ((g.full x).take n.log.base)
  gd : Gd g.tl (g.full x)
  tle : ∀ e ∈ g.full x, e.term ≤ n.term
  tb : n.term ≤ g.B
  sb : n.since ≤ g.B
  cm : n.commit ≤ (g.full x).length
  cmo : n.commit = 0 ∨ ∃ u c p, g.ev u c p ∧ u ≤ n.term ∧ n.commit ≤ c ∧ (g.full x).take n.commit = (g.tl u).take n.commit
  ci : ∀ u c, g.ack x u c → u ≤ n.term ∧ ((∀ T', u < T' → T' ≤ n.term → g.lead T' ≠ none → (g.tl u).take c <+: g.el T') → (g.tl u).take c <+: g.full x)
  vt1 : ∀ T y, g.vt T x y → T ≤ n.term ∧ (T = n.term → n.vote = y) ∧ y ≠ 0
  vt2 : n.vote ≠ 0 → g.vt n.term x n.vote ∨ g.lead n.term = some n.vote
  vt3 : n.vote ≤ 7
  clx : ∀ T A, g.cl T x = some A → T ≤ n.term
  ldx : ∀ T, g.lead T = some x → T ≤ n.term ∧ (T = n.term → n.role ≠ 2)
  rl : n.role ≤ 3
  r3 : n.role = 3 → g.lead n.term = some x ∧ g.full x = g.tl n.term ∧ (∀ c p, g.ev n.term c p → c ≤ n.commit) ∧ g.ack x n.term (g.full x).length ∧ ∃ t, n.track = some t ∧ ∀ p ∈ t, p.2.1 < p.2.2 ∧ p.2.2 ≤ (g.full x).length + 1 ∧ (p.2.1 = 0 ∨ g.ack p.1 n.term p.2.1)
  nt : n.role ≠ 3 → n.track = none
  r2 : n.role = 2 → g.cl n.term x = some (g.full x) ∧ 1 ≤ n.term
  pl : (n.role = 1 ∨ n.role = 2) → ∃ b, n.poll = some b ∧ b.members = confL g.C0 (g.full x) ∧ BalIs b ∧ (n.role = 2 → ∀ y, (y, true) ∈ b.votes → g.vt n.term y x)
  np : (n.role = 0 ∨ n.role = 3) → n.poll = none
  out : ∀ m ∈ n.out, MsgInv g m ∧ m.frm = x
  cfg : n.elect = 4 ∧ n.beat = 2 ∧ n.cm = g.C0

/-- what a node may do to what has been -/
structure Ext (x : Nat) (g g' : G) : Prop where
  c0 : g'.C0 = g.C0
  B : g'.B = g.B
  full : ∀ y, y ≠ x → g'.full y = g.full y
  lead : ∀ T y, g.lead T = some y → g'.lead T = some y
  leadx : ∀ T y, g'.lead T = some y → y ≠ x → g.lead T = some y
  el : ∀ T, g.lead T ≠ none → g'.el T = g.el T
  tl : ∀ T, g.tl T <+: g'.tl T
  tlx : ∀ T y, g.lead T = some y → y ≠ x → g'.tl T = g.tl T
  vt : ∀ T y z, g.vt T y z → g'.vt T y z
  vtx : ∀ T y z, g'.vt T y z → y ≠ x → g.vt T y z
  cl : ∀ T y A, g.cl T y = some A → g'.cl T y = some A
  clx : ∀ T y A, g'.cl T y = some A → y ≠ x → g.cl T y = some A
  ack : ∀ y u c, g.ack y u c → g'.ack y u c
  ackx : ∀ y u c, g'.ack y u c → y ≠ x → g.ack y u c
  ev : ∀ u c p, g.ev u c p → g'.ev u c p
  evx : ∀ u c p, g'.ev u c p → g.ev u c p ∨ g'.lead u = some x

theorem Ext.refl (x : Nat) (g : G) : Ext x g g :=
  ⟨rfl, rfl, fun _ _ => rfl, fun _ _ h => h, fun _ _ h _ => h, fun _ _ => rfl, fun _ => List.prefix_refl _, fun _ _ _ _ => rfl, fun _ _ _ h => h, fun _ _ _ h _ => h, fun _ _ _ h => h, fun _ _ _ h _ => h, fun _ _ _ h => h, fun _ _ _ h _ => h, fun _ _ _ h => h, fun _ _ _ h => .inl h⟩
theorem Ext.led {x : Nat} {g g' : G} (e : Ext x g g') {T : Nat} (h : g.lead T ≠ none) : g'.lead T ≠ none := by
  cases hl : g.lead T with
  | none => exact absurd hl h
  | some y => rw [e.lead T y hl]; simp
theorem Ext.trans {x : Nat} {a b c : G} (h : Ext x a b) (k : Ext x b c) : Ext x a c where
  c0 := k.c0.trans h.c0
  B := k.B.trans h.B
  full := fun y hy => (k.full y hy).trans (h.full y hy)
  lead := fun T y hl => k.lead T y (h.lead T y hl)
  leadx := fun T y hl hy => h.leadx T y (k.leadx T y hl hy) hy
  el := fun T hl => (k.el T (h.led hl)).trans (h.el T hl)
  tl := fun T => (h.tl T).trans (k.tl T)
  tlx := fun T y hl hy => (k.tlx T y (h.lead T y hl) hy).trans (h.tlx T y hl hy)
  vt := fun T y z hv => k.vt T y z (h.vt T y z hv)
  vtx := fun T y z hv hy => h.vtx T y z (k.vtx T y z hv hy) hy
  cl := fun T y A hv => k.cl T y A (h.cl T y A hv)
  clx := fun T y A hv hy => h.clx T y A (k.clx T y A hv hy) hy
  ack := fun T y A hv => k.ack T y A (h.ack T y A hv)
  ackx := fun T y A hv hy => h.ackx T y A (k.ackx T y A hv hy) hy
  ev := fun T y A hv => k.ev T y A (h.ev T y A hv)
  evx := fun T y A hv => (k.evx T y A hv).elim (fun hh => (h.evx T y A hh).elim .inl fun h2 => .inr (k.lead T x h2)) .inr

section
variable {g g' : G} {x : Nat}

theorem Ext.take (e : Ext x g g') {u c : Nat} (hc : c ≤ (g.tl u).length) : (g'.tl u).take c = (g.tl u).take c := take_pre (e.tl u) hc
theorem Ext.gd (e : Ext x g g') {A : List Ent} (h : Gd g.tl A) : Gd g'.tl A := fun i a hi => (h i a hi).trans (e.tl _)
theorem Ext.cmok (e : Ext x g g') {T k : Nat} (h : CmOk g T k) : CmOk g' T k := by
  rcases h with h | ⟨u, c, p, h1, h2⟩
  · exact .inl h
  · exact .inr ⟨u, c, p, e.ev u c p h1, h2⟩

theorem MsgInv.ext {m : Msg} (e : Ext x g g') (h : MsgInv g m) : MsgInv g' m where
  tb := Nat.le_trans h.tb (by have := e.B; omega)
  ib := by have := h.ib; have := e.B; omega
  to1 := h.to1
  frm1 := h.frm1
  ask := fun hk => by
    obtain ⟨A, h1, h2⟩ := h.ask hk
    exact ⟨A, e.cl _ _ _ h1, h2⟩
  vote := fun hk hy => (h.vote hk hy).elim (fun hh => .inl (e.vt _ _ _ hh)) fun hh => .inr (e.lead _ _ hh)
  app := fun hk => by
    obtain ⟨h1, h2, h3, h4, h5⟩ := h.app hk
    have hl := (e.tl m.term).length_le
    refine ⟨e.led h1, by omega, ?_, by rw [termAt_pre (e.tl m.term) (by omega)]; exact h4, e.cmok h5⟩
    obtain ⟨C, hC⟩ := e.tl m.term
    rw [← hC, List.drop_append_of_le_length (by omega), List.take_append_of_le_length (by simp; omega)]
    exact h3
  noents := h.noents
  nomem := h.nomem
  inst := fun hk => by
    obtain ⟨h1, h2, h3, h4, h5⟩ := h.inst hk
    have hl := (e.tl m.term).length_le
    exact ⟨e.led h1, by omega, by rw [termAt_pre (e.tl m.term) h2]; exact h3, by rw [e.take h2, e.c0]; exact h4, e.cmok h5⟩
  told := fun hk hy => (h.told hk hy).imp id (e.ack _ _ _)

theorem NodeInv.ext {y : Nat} {n : Node} (gi : GInv g) (e : Ext x g g') (hy : y ≠ x) (h : NodeInv g y n) : NodeInv g' y n := by
  have hf := e.full y hy
  refine ⟨h.id, h.x1, by rw [hf]; exact h.log, h.base, by rw [hf, e.c0]; exact h.img, by rw [hf]; exact e.gd h.gd, by rw [hf]; exact h.tle, Nat.le_trans h.tb (Nat.le_of_eq e.B.symm), Nat.le_trans h.sb (Nat.le_of_eq e.B.symm),
    by rw [hf]; exact h.cm, ?_, fun u c ha => ?_, fun T z hv => h.vt1 T z (e.vtx T y z hv hy), fun hv => (h.vt2 hv).elim (fun hh => .inl (e.vt _ _ _ hh)) fun hh => .inr (e.lead _ _ hh), h.vt3,
    fun T A hc => h.clx T A (e.clx T y A hc hy), fun T hl => h.ldx T (e.leadx T y hl hy), h.rl, fun hr => ?_, h.nt, fun hr => by rw [hf]; exact ⟨e.cl _ _ _ (h.r2 hr).1, (h.r2 hr).2⟩, fun hr => ?_, h.np, fun m hm => ⟨(h.out m hm).1.ext e, (h.out m hm).2⟩, by rw [e.c0]; exact h.cfg⟩
  · rcases h.cmo with h0 | ⟨u, c, p, h1, h2, h3, h4⟩
    · exact .inl h0
    · refine .inr ⟨u, c, p, e.ev _ _ _ h1, h2, h3, ?_⟩
      have := gi.evb u c p h1
      rw [hf, e.take (by omega)]; exact h4
  · have ha' := e.ackx y u c ha hy
    obtain ⟨h1, h2⟩ := h.ci u c ha'
    obtain ⟨hl, hc⟩ := gi.ackb y u c ha'
    refine ⟨h1, fun hh => ?_⟩
    rw [e.take hc, hf]
    refine h2 fun T' k1 k2 k3 => ?_
    have := hh T' k1 k2 (e.led k3)
    rw [e.take hc, e.el T' k3] at this
    exact this
  · obtain ⟨h1, h2, h3, h6, t, h4, h5⟩ := h.r3 hr
    refine ⟨e.lead _ _ h1, ?_, fun c p hev => ?_, by rw [hf]; exact e.ack _ _ _ h6, t, h4, fun p hp => ?_⟩
    · rw [hf, e.tlx _ y h1 hy]; exact h2
    · rcases e.evx _ _ _ hev with hh | hh
      · exact h3 c p hh
      · rw [e.lead _ _ h1] at hh; exact absurd (Option.some.inj hh) hy
    · rw [hf]
      obtain ⟨k1, k2, k3⟩ := h5 p hp
      exact ⟨k1, k2, k3.imp (fun hh => hh) (e.ack _ _ _)⟩
  · obtain ⟨b, h1, h2, h3, h4⟩ := h.pl hr
    refine ⟨b, h1, by rw [hf, e.c0]; exact h2, ⟨h3.nd, h3.mem, h3.len⟩, fun hr z hz => e.vt _ _ _ (h4 hr z hz)⟩

/-! ### What may be done -/

/-- more room -/
def G.more (g : G) (k : Nat) : G := { g with B := g.B + k }
theorem more_inv (gi : GInv g) (k : Nat) : GInv (g.more k) := { gi with bnd := fun T => Nat.le_trans (gi.bnd T) (Nat.le_add_right _ _) }
theorem more_msg {m : Msg} (h : MsgInv g m) (k : Nat) : MsgInv (g.more k) m := { h with
  tb := Nat.le_trans h.tb (by show g.B + 1 ≤ g.B + k + 1; omega)
  ib := Nat.le_trans h.ib (Nat.le_add_right _ _) }
theorem more_node {y : Nat} {n : Node} (h : NodeInv g y n) (k : Nat) : NodeInv (g.more k) y n := { h with
  tb := Nat.le_trans h.tb (Nat.le_add_right _ _)
  sb := Nat.le_trans h.sb (Nat.le_add_right _ _)
  out := fun m hm => ⟨more_msg (h.out m hm).1 k, (h.out m hm).2⟩ }

/-- what is in a log -/
theorem covers (gi : GInv g) {A : List Ent} (hA : Gd g.tl A) {u c : Nat} (h : (g.tl u).take c <+: A) (h1 : (g.el u).length < c) (h2 : c ≤ (g.tl u).length) : u < lastT A ∨ (lastT A = u ∧ c ≤ A.length) := by
  have hl := h.length_le
  simp only [List.length_take] at hl
  have hc : c - 1 < (g.tl u).length := by omega
  have hx := List.getElem?_eq_getElem hc
  have ht := gi.tlt u _ _ hx (by omega)
  have hAx : A[c - 1]? = some (g.tl u)[c - 1] := by
    rw [pre_get h (by simp; omega), List.getElem?_take_of_lt (by omega)]; exact hx
  have hne : A ≠ [] := fun hh => by rw [hh] at hAx; simp at hAx
  obtain ⟨_, e, he, het⟩ := hA.last hne
  have := hA.mono gi _ _ _ _ (by omega) hAx he
  omega

/-- a node stands for a vote, or votes -/
def G.stand (g : G) (T x : Nat) : G :=
  { g with cl := fun T' y => if T' = T ∧ y = x then some (g.full x) else g.cl T' y, vt := fun T' y z => g.vt T' y z ∨ (T' = T ∧ y = x ∧ z = x) }
theorem stand_ext {T : Nat} (hcl : g.cl T x = none) : Ext x g (g.stand T x) :=
  { Ext.refl x g with
    vt := fun _ _ _ h => .inl h
    vtx := fun _ y _ h hy => h.elim id fun hh => absurd hh.2.1 hy
    cl := fun T' y A h => by
      show (if T' = T ∧ y = x then _ else _) = _
      split
      · rename_i hh; rw [hh.1, hh.2, hcl] at h; cases h
      · exact h
    clx := fun T' y A h hy => by
      have h : (if T' = T ∧ y = x then some (g.full x) else g.cl T' y) = some A := h
      rwa [if_neg (fun hh => hy hh.2)] at h }
theorem stand_inv (gi : GInv g) {n : Node} (h : NodeInv g x n) {T : Nat} (hT : n.term < T) : GInv (g.stand T x) := by
  have hcl : g.cl T x = none := by
    cases hc : g.cl T x with
    | none => rfl
    | some A => have := h.clx T A hc; omega
  have hvt : ∀ z, ¬ g.vt T x z := fun z hz => by have := (h.vt1 T z hz).1; omega
  have hld : g.lead T ≠ some x := fun hh => by have := (h.ldx T hh).1; omega
  have hcl' : ∀ T' y A, (g.stand T x).cl T' y = some A → (g.cl T' y = some A ∧ ¬ (T' = T ∧ y = x)) ∨ (T' = T ∧ y = x ∧ A = g.full x) := fun T' y A hh => by
    have hh : (if T' = T ∧ y = x then some (g.full x) else g.cl T' y) = some A := hh
    split at hh
    · rename_i hc; exact .inr ⟨hc.1, hc.2, (Option.some.inj hh).symm⟩
    · rename_i hc; exact .inl ⟨hh, hc⟩
  have e := stand_ext (g := g) (x := x) hcl
  exact { gi with
    elq := fun T' y hl => by
      obtain ⟨V, h1, h2⟩ := gi.elq T' y hl
      exact ⟨V, h1, fun z hz => .inl (h2 z hz)⟩
    ldc := fun T' y hl => e.cl _ _ _ (gi.ldc T' y hl)
    clg := fun T' y A hh => by
      rcases hcl' T' y A hh with ⟨h1, _⟩ | ⟨rfl, rfl, rfl⟩
      · exact gi.clg T' y A h1
      · exact ⟨h.gd, fun a ha => Nat.lt_of_le_of_lt (h.tle a ha) hT⟩
    vtf := fun T' y z z' h1 h2 => by
      rcases h1 with h1 | ⟨rfl, rfl, rfl⟩ <;> rcases h2 with h2 | ⟨h2a, h2b, h2c⟩
      · exact gi.vtf T' y z z' h1 h2
      · subst h2a; subst h2b; exact absurd h1 (hvt z)
      · exact absurd h2 (hvt z')
      · exact h2c.symm
    vtc := fun T' y z h1 => by
      rcases h1 with h1 | ⟨rfl, rfl, rfl⟩
      · obtain ⟨A, hA⟩ := gi.vtc T' y z h1
        exact ⟨A, e.cl _ _ _ hA⟩
      · exact ⟨g.full z, by show (if _ ∧ _ then _ else _) = _; rw [if_pos ⟨rfl, rfl⟩]⟩
    cv := fun T' y z A u c h1 h2 h3 h4 h5 h6 => by
      rcases h1 with h1 | ⟨rfl, rfl, rfl⟩
      · refine gi.cv T' y z A u c h1 ?_ h3 h4 h5 h6
        rcases hcl' T' z A h2 with ⟨hh, _⟩ | ⟨rfl, rfl, rfl⟩
        · exact hh
        · obtain ⟨A', hA'⟩ := gi.vtc _ _ _ h1
          rw [hcl] at hA'; cases hA'
      · rcases hcl' T' z A h2 with ⟨_, hh⟩ | ⟨_, _, rfl⟩
        · exact absurd ⟨rfl, rfl⟩ hh
        · obtain ⟨k1, k2⟩ := h.ci u c h3
          obtain ⟨_, k3⟩ := gi.ackb z u c h3
          exact covers gi h.gd (k2 fun T1 a1 a2 a3 => h6 T1 a1 (by omega) a3 fun hh => by omega) h5 k3 }

end
end Sf
end Go.Proofs.YtkoipeddfbeliaaGreat

/-
  Safety, in plain Lean: votes, elections, entries, what is committed.
-/
namespace Go.Proofs.YtkoipeddfbeliaaGreat
namespace Sf
open Md

section
variable {g : G} {x : Nat}

/-- a vote -/
def G.grant (g : G) (T x z : Nat) : G := { g with vt := fun T' y z' => g.vt T' y z' ∨ (T' = T ∧ y = x ∧ z' = z) }
theorem grant_ext (T z : Nat) : Ext x g (g.grant T x z) :=
  { Ext.refl x g with
    vt := fun _ _ _ h => .inl h
    vtx := fun _ _ _ h hy => h.elim (fun hh => hh) fun hh => absurd hh.2.1 hy }
theorem grant_inv (gi : GInv g) {n : Node} (h : NodeInv g x n) (hv : n.vote = 0) {z : Nat} {A : List Ent} (hcl : g.cl n.term z = some A) (hno : g.lead n.term ≠ some z)
    (hy : lastT (g.full x) < lastT A ∨ (lastT A = lastT (g.full x) ∧ (g.full x).length ≤ A.length)) : GInv (g.grant n.term x z) := by
  have hvt : ∀ z, ¬ g.vt n.term x z := fun z hz => by
    obtain ⟨_, h2, h3⟩ := h.vt1 n.term z hz
    exact h3 ((h2 rfl).symm.trans hv)
  exact { gi with
    elq := fun T' y hl => by
      obtain ⟨V, h1, h2⟩ := gi.elq T' y hl
      exact ⟨V, h1, fun z hz => .inl (h2 z hz)⟩
    vtf := fun T' y z1 z2 h1 h2 => by
      rcases h1 with h1 | ⟨rfl, rfl, rfl⟩ <;> rcases h2 with h2 | ⟨h2a, h2b, h2c⟩
      · exact gi.vtf T' y z1 z2 h1 h2
      · subst h2a; subst h2b; exact absurd h1 (hvt z1)
      · exact absurd h2 (hvt z2)
      · exact h2c.symm
    vtc := fun T' y z1 h1 => by
      rcases h1 with h1 | ⟨rfl, rfl, rfl⟩
      · exact gi.vtc T' y z1 h1
      · exact ⟨A, hcl⟩
    cv := fun T' y z1 A1 u c h1 h2 h3 h4 h5 h6 => by
      rcases h1 with h1 | ⟨rfl, rfl, rfl⟩
      · exact gi.cv T' y z1 A1 u c h1 h2 h3 h4 h5 h6
      · have hA : A1 = A := by
          have h2 : g.cl n.term z1 = some A1 := h2
          rw [hcl] at h2; exact (Option.some.inj h2).symm
        subst hA
        obtain ⟨k1, k2⟩ := h.ci u c h3
        obtain ⟨_, k3⟩ := gi.ackb y u c h3
        have := covers gi h.gd (k2 fun T1 a1 a2 a3 => h6 T1 a1 a2 a3 fun _ => hno) h5 k3
        omega }

/-- a node leads -/
def G.elect (g : G) (T x : Nat) (L : List Ent) : G :=
  { g with lead := fun T' => if T' = T then some x else g.lead T', el := fun T' => if T' = T then L else g.el T', tl := fun T' => if T' = T then L else g.tl T' }
theorem elect_ext (gi : GInv g) {T : Nat} {L : List Ent} (hl : g.lead T = none) : Ext x g (g.elect T x L) :=
  { Ext.refl x g with
    lead := fun T' y h => by
      show (if T' = T then _ else _) = _
      rw [if_neg (fun hh => by rw [hh, hl] at h; cases h)]; exact h
    leadx := fun T' y h hy => by
      have h : (if T' = T then some x else g.lead T') = some y := h
      split at h
      · exact absurd (Option.some.inj h).symm hy
      · exact h
    el := fun T' h => by
      show (if T' = T then _ else _) = _
      rw [if_neg (fun hh => by rw [hh, hl] at h; exact h rfl)]
    tl := fun T' => by
      show _ <+: (if T' = T then _ else _)
      split
      · rename_i hh; rw [hh, gi.none_ T hl]; exact List.nil_prefix
      · exact List.prefix_refl _
    tlx := fun T' y h _ => by
      show (if T' = T then _ else _) = _
      rw [if_neg (fun hh => by rw [hh, hl] at h; cases h)]
    evx := fun _ _ _ h => .inl h }
theorem elect_inv (gi : GInv g) {T : Nat} {L : List Ent} {Vs : List Nat} (hT : T ≠ 0) (hl : g.lead T = none) (hcl : g.cl T x = some L) (hV : Maj (confL g.C0 L) Vs) (hvt : ∀ y ∈ Vs, g.vt T y x) : GInv (g.elect T x L) := by
  have e := elect_ext (x := x) (L := L) gi hl
  obtain ⟨hLg, hLt⟩ := gi.clg T x L hcl
  have hmem : ∀ a ∈ L, a ∈ g.tl a.term := fun a ha => by
    obtain ⟨i, hi⟩ := List.mem_iff_getElem?.1 ha
    exact List.mem_of_getElem? (hLg.same gi hi).1
  have hne : ∀ u, g.lead u ≠ none → u ≠ T := fun u hu hh => hu (hh ▸ hl)
  have htl : ∀ u, u ≠ T → (g.elect T x L).tl u = g.tl u := fun u hu => by show (if u = T then _ else _) = _; rw [if_neg hu]
  have hel : ∀ u, u ≠ T → (g.elect T x L).el u = g.el u := fun u hu => by show (if u = T then _ else _) = _; rw [if_neg hu]
  have hld : ∀ u, u ≠ T → (g.elect T x L).lead u = g.lead u := fun u hu => by show (if u = T then _ else _) = _; rw [if_neg hu]
  have htT : (g.elect T x L).tl T = L := by show (if T = T then _ else _) = _; rw [if_pos rfl]
  have heT : (g.elect T x L).el T = L := by show (if T = T then _ else _) = _; rw [if_pos rfl]
  have hlT : (g.elect T x L).lead T = some x := by show (if T = T then _ else _) = _; rw [if_pos rfl]
  refine ⟨gi.c0, ?_, fun T' i a hi => ?_, fun T' => ?_, fun T' a ha => ?_, fun T' a ha => ?_, fun T' => ?_, fun T' a ha => ?_, fun T' i a hi hle => ?_, fun T' hn => ?_, fun T' => ?_, fun T' j a hj hle hc => ?_, fun u c p hev => ?_, fun u c p hev => ?_, fun T' y hy => ?_, fun T' y hy => ?_,
    fun T' y A hA => ?_, gi.vtf, gi.vtc, fun y u c ha => ?_, gi.ackd, fun T' y z A u c h1 h2 h3 h4 h5 h6 => ?_, fun T' u c p h1 h2 h3 => ?_⟩
  · rw [hld 0 (Ne.symm hT)]; exact gi.lead0
  · by_cases h : T' = T
    · subst h; rw [htT] at hi; exact hLg.idx gi i a hi
    · rw [htl T' h] at hi; exact gi.idx T' i a hi
  · by_cases h : T' = T
    · subst h; rw [htT]
      by_cases hL0 : L = []
      · rw [hL0]; simp
      · exact Nat.le_trans (hLg.last hL0).1.length_le (gi.bnd _)
    · rw [htl T' h]; exact gi.bnd T'
  · by_cases h : T' = T
    · subst h; rw [htT] at ha; exact gi.dat _ a (hmem a ha)
    · rw [htl T' h] at ha; exact gi.dat T' a ha
  · by_cases h : T' = T
    · subst h; rw [htT] at ha; exact gi.cfd _ a (hmem a ha)
    · rw [htl T' h] at ha; exact gi.cfd T' a ha
  · by_cases h : T' = T
    · subst h; rw [htT, heT]; exact List.prefix_refl _
    · rw [htl T' h, hel T' h]; exact gi.elp T'
  · by_cases h : T' = T
    · subst h; rw [heT] at ha; exact hLt a ha
    · rw [hel T' h] at ha; exact gi.elt T' a ha
  · by_cases h : T' = T
    · subst h; rw [htT] at hi; rw [heT] at hle
      have := (List.getElem?_eq_some_iff.1 hi).1; omega
    · rw [htl T' h] at hi; rw [hel T' h] at hle; exact gi.tlt T' i a hi hle
  · by_cases h : T' = T
    · subst h; rw [hlT] at hn; cases hn
    · rw [hld T' h] at hn; rw [htl T' h]; exact gi.none_ T' hn
  · by_cases h : T' = T
    · subst h; rw [htT]; exact e.gd hLg
    · rw [htl T' h]; exact e.gd (gi.tgd T')
  · by_cases h : T' = T
    · subst h; rw [htT] at hj; rw [heT] at hle
      have := (List.getElem?_eq_some_iff.1 hj).1; omega
    · rw [htl T' h] at hj ⊢; rw [hel T' h] at hle; exact gi.cert T' j a hj hle hc
  · have hu := hne u (gi.evl hev)
    rw [htl u hu, hel u hu]; exact gi.evb u c p hev
  · have hu := hne u (gi.evl hev)
    rw [htl u hu]; exact gi.evq u c p hev
  · by_cases h : T' = T
    · subst h; rw [hlT] at hy; cases hy; rw [heT]; exact ⟨Vs, hV, hvt⟩
    · rw [hld T' h] at hy; rw [hel T' h]; exact gi.elq T' y hy
  · by_cases h : T' = T
    · subst h; rw [hlT] at hy; cases hy; rw [heT]; exact hcl
    · rw [hld T' h] at hy; rw [hel T' h]; exact gi.ldc T' y hy
  · exact ⟨e.gd (gi.clg T' y A hA).1, (gi.clg T' y A hA).2⟩
  · obtain ⟨k1, k2⟩ := gi.ackb y u c ha
    have hu := hne u k1
    rw [hld u hu, htl u hu]; exact ⟨k1, k2⟩
  · have hu := hne u (gi.ackb y u c h3).1
    rw [hel u hu] at h5
    refine gi.cv T' y z A u c h1 h2 h3 h4 h5 fun T1 a1 a2 a3 a4 => ?_
    have hT1 := hne T1 a3
    have := h6 T1 a1 a2 (by rw [hld T1 hT1]; exact a3) (fun hh => by rw [hh] at hT1; rw [hld T' hT1]; exact a4 hh)
    rw [htl u hu, hel T1 hT1] at this
    exact this
  · have hu := hne u (gi.evl h2)
    rw [htl u hu]
    by_cases h : T' = T
    · subst h; rw [heT]; exact lc_elect gi hcl hV hvt c u p h2 h3
    · rw [hel T' h]; rw [hld T' h] at h1; exact gi.lc T' u c p h1 h2 h3

/-- a leader's entry -/
def G.push (g : G) (T x : Nat) (a : Ent) : G :=
  { g with tl := fun T' => if T' = T then g.tl T ++ [a] else g.tl T', full := fun y => if y = x then g.tl T ++ [a] else g.full y, ack := fun y u c => g.ack y u c ∨ (y = x ∧ u = T ∧ c ≤ (g.tl T).length + 1) }
theorem push_ext {T : Nat} (a : Ent) (hl : g.lead T = some x) : Ext x g (g.push T x a) :=
  { Ext.refl x g with
    full := fun y hy => by show (if y = x then _ else _) = _; rw [if_neg hy]
    tl := fun T' => by
      show _ <+: (if T' = T then _ else _)
      split
      · rename_i hh; rw [hh]; exact List.prefix_append _ _
      · exact List.prefix_refl _
    tlx := fun T' y h hy => by
      show (if T' = T then _ else _) = _
      rw [if_neg (fun hh => by rw [hh, hl] at h; exact hy (Option.some.inj h).symm)]
    ack := fun _ _ _ h => .inl h
    ackx := fun y _ _ h hy => h.elim (fun hh => hh) fun hh => absurd hh.1 hy
    evx := fun _ _ _ h => .inl h }
theorem push_inv (gi : GInv g) {T : Nat} {a : Ent} (hl : g.lead T = some x) (hvt : ∀ T' y, g.vt T' x y → T' ≤ T) (hb : (g.tl T).length + 1 ≤ g.B) (ht : a.term = T) (hi : a.index = (g.tl T).length + 1) (hd : a.data.length ≤ 900)
    (hcf : a.conf = true → (∃ ms, goodM ms ∧ a.data = Node.encM ms) ∧ Node.confStep (confL g.C0 (g.tl T)) (dec a.data) = true ∧
      ∃ c p, g.ev T c p ∧ c ≤ (g.tl T).length ∧ (∀ (k : Nat) (y : Ent), c ≤ k → (g.tl T)[k]? = some y → y.conf = false)) : GInv (g.push T x a) := by
  have e := push_ext (x := x) a hl
  have htl : ∀ u, u ≠ T → (g.push T x a).tl u = g.tl u := fun u hu => by show (if u = T then _ else _) = _; rw [if_neg hu]
  have htT : (g.push T x a).tl T = g.tl T ++ [a] := by show (if T = T then _ else _) = _; rw [if_pos rfl]
  have hlast : ∀ i b, (g.tl T ++ [a])[i]? = some b → (i < (g.tl T).length ∧ (g.tl T)[i]? = some b) ∨ (i = (g.tl T).length ∧ b = a) := fun i b hib => by
    rcases Nat.lt_or_ge i (g.tl T).length with hlt | hge
    · rw [List.getElem?_append_left hlt] at hib; exact .inl ⟨hlt, hib⟩
    · rw [List.getElem?_append_right hge] at hib
      have := (List.getElem?_eq_some_iff.1 hib).1
      have h0 : i - (g.tl T).length = 0 := by simpa using this
      rw [h0] at hib
      simp at hib
      exact .inr ⟨by omega, hib.symm⟩
  have hmem : ∀ b ∈ g.tl T ++ [a], b ∈ g.tl T ∨ b = a := fun b hb => by simpa using hb
  have htake : ∀ u c, c ≤ (g.tl u).length → ((g.push T x a).tl u).take c = (g.tl u).take c := fun u c hc => e.take hc
  refine ⟨gi.c0, gi.lead0, fun T' i b hib => ?_, fun T' => ?_, fun T' b hb => ?_, fun T' b hb => ?_, fun T' => (gi.elp T').trans (e.tl T'), gi.elt, fun T' i b hib hle => ?_, fun T' hn => ?_, fun T' => ?_, fun T' j b hj hle hc => ?_, fun u c p hev => ?_, fun u c p hev => ?_, gi.elq, gi.ldc,
    fun T' y A hA => ⟨e.gd (gi.clg T' y A hA).1, (gi.clg T' y A hA).2⟩, gi.vtf, gi.vtc, fun y u c ha => ?_, fun y u c c' ha hc => ?_, fun T' y z A u c h1 h2 h3 h4 h5 h6 => ?_, fun T' u c p h1 h2 h3 => ?_⟩
  · by_cases h : T' = T
    · subst h; rw [htT] at hib
      rcases hlast i b hib with ⟨_, h2⟩ | ⟨h1, rfl⟩
      · exact gi.idx T' i b h2
      · omega
    · rw [htl T' h] at hib; exact gi.idx T' i b hib
  · by_cases h : T' = T
    · subst h; rw [htT]; simp; exact hb
    · rw [htl T' h]; exact gi.bnd T'
  · by_cases h : T' = T
    · subst h; rw [htT] at hb
      rcases hmem b hb with h | rfl
      · exact gi.dat T' b h
      · exact hd
    · rw [htl T' h] at hb; exact gi.dat T' b hb
  · by_cases h : T' = T
    · subst h; rw [htT] at hb
      rcases hmem b hb with h | rfl
      · exact gi.cfd T' b h
      · exact fun hc => (hcf hc).1
    · rw [htl T' h] at hb; exact gi.cfd T' b hb
  · by_cases h : T' = T
    · subst h; rw [htT] at hib
      rcases hlast i b hib with ⟨_, h2⟩ | ⟨_, rfl⟩
      · exact gi.tlt T' i b h2 hle
      · exact ht
    · rw [htl T' h] at hib; exact gi.tlt T' i b hib hle
  · have h : T' ≠ T := fun hh => by rw [hh] at hn; have hn : g.lead T = none := hn; rw [hl] at hn; cases hn
    rw [htl T' h]; exact gi.none_ T' hn
  · by_cases h : T' = T
    · subst h; rw [htT]
      intro i b hib
      rcases hlast i b hib with ⟨h1, h2⟩ | ⟨h1, rfl⟩
      · rw [List.take_append_of_le_length (by omega)]
        exact (gi.tgd T' i b h2).trans (e.tl _)
      · rw [ht, htT, List.take_of_length_le (by simp; omega)]
        exact List.prefix_refl _
    · rw [htl T' h]; exact e.gd (gi.tgd T')
  · by_cases h : T' = T
    · subst h; rw [htT] at hj ⊢
      rcases hlast j b hj with ⟨h1, h2⟩ | ⟨h1, rfl⟩
      · obtain ⟨k1, c, p, k2, k3, k4, k5⟩ := gi.cert T' j b h2 hle hc
        rw [List.take_append_of_le_length (by omega)]
        refine ⟨k1, c, p, k2, k3, fun k y hk hkj hy => k4 k y hk hkj ?_, k5⟩
        rwa [List.getElem?_append_left (by omega)] at hy
      · obtain ⟨k1, k2, c, p, k3, k4, k5⟩ := hcf hc
        rw [h1, List.take_left' rfl]
        refine ⟨k2, c, p, k3, k4, fun k y hk hkj hy => k5 k y hk ?_, fun c' p' hev hlt => ?_⟩
        · rwa [List.getElem?_append_left hkj] at hy
        · have := (gi.evb T' c' p' hev).2.2; omega
    · rw [htl T' h] at hj ⊢; exact gi.cert T' j b hj hle hc
  · obtain ⟨b1, b2, b3⟩ := gi.evb u c p hev
    exact ⟨b1, b2, Nat.le_trans b3 (e.tl u).length_le⟩
  · obtain ⟨Q, h1, h2⟩ := gi.evq u c p hev
    refine ⟨Q, ?_, fun y hy => .inl (h2 y hy)⟩
    rw [htake u p (gi.evb u c p hev).2.2]; exact h1
  · rcases ha with ha | ⟨rfl, rfl, hc⟩
    · obtain ⟨k1, k2⟩ := gi.ackb y u c ha
      exact ⟨k1, Nat.le_trans k2 (e.tl u).length_le⟩
    · refine ⟨fun hh => ?_, by rw [htT]; simpa using hc⟩
      have hh : g.lead u = none := hh
      rw [hl] at hh; cases hh
  · rcases ha with ha | ⟨h1, h2, h3⟩
    · exact .inl (gi.ackd y u c c' ha hc)
    · exact .inr ⟨h1, h2, by omega⟩
  · rcases h3 with h3 | ⟨rfl, rfl, hc⟩
    · have hc := (gi.ackb y u c h3).2
      refine gi.cv T' y z A u c h1 h2 h3 h4 h5 fun T1 a1 a2 a3 a4 => ?_
      have := h6 T1 a1 a2 a3 a4
      rw [htake u c hc] at this
      exact this
    · have := hvt T' z h1; omega
  · obtain ⟨b1, b2, b3⟩ := gi.evb u c p h2
    rw [htake u c (by omega)]
    exact gi.lc T' u c p h1 h2 h3

/-- a leader knows an index to be committed -/
def G.commit (g : G) (T c : Nat) : G := { g with ev := fun u c' p => g.ev u c' p ∨ (u = T ∧ c' = c ∧ p = (g.tl T).length) }
theorem commit_ext {T : Nat} (c : Nat) (hl : g.lead T = some x) : Ext x g (g.commit T c) :=
  { Ext.refl x g with
    ev := fun _ _ _ h => .inl h
    evx := fun u _ _ h => h.imp (fun hh => hh) fun hh => by rw [hh.1]; exact hl }
theorem commit_inv (gi : GInv g) {T c : Nat} {Qs : List Nat} (hl : g.lead T = some x) (h1 : (g.el T).length < c) (h2 : c ≤ (g.tl T).length) (hQ : Maj (confL g.C0 (g.tl T)) Qs) (hack : ∀ y ∈ Qs, g.ack y T c) (hnew : ∀ c' p', g.ev T c' p' → c' < c) : GInv (g.commit T c) := by
  have hln : g.lead T ≠ none := by rw [hl]; simp
  exact { gi with
    cert := fun T' j b hj hle hc => by
      obtain ⟨k1, c0, p, k2, k3, k4, k5⟩ := gi.cert T' j b hj hle hc
      refine ⟨k1, c0, p, .inl k2, k3, k4, fun c' p' hev hlt => ?_⟩
      rcases hev with hev | ⟨rfl, rfl, rfl⟩
      · exact k5 c' p' hev hlt
      · exact hnew c0 p k2
    evb := fun u c' p hev => by
      rcases hev with hev | ⟨rfl, rfl, rfl⟩
      · exact gi.evb u c' p hev
      · exact ⟨h1, h2, Nat.le_refl _⟩
    evq := fun u c' p hev => by
      rcases hev with hev | ⟨rfl, rfl, rfl⟩
      · exact gi.evq u c' p hev
      · refine ⟨Qs, ?_, hack⟩
        show Maj (confL g.C0 ((g.tl u).take _)) Qs
        rw [List.take_of_length_le (Nat.le_refl _)]; exact hQ
    lc := fun T' u c' p k1 hev k3 => by
      rcases hev with hev | ⟨rfl, rfl, rfl⟩
      · exact gi.lc T' u c' p k1 hev k3
      · exact lc_event gi h1 h2 (Nat.le_refl _) hln (by rw [List.take_of_length_le (Nat.le_refl _)]; exact hQ) hack hnew T' k1 k3 }

/-- a node's log is another one, or it is known that it has what a leader has -/
def G.keep (g : G) (x T : Nat) (A : List Ent) (i : Nat) : G :=
  { g with full := fun y => if y = x then A else g.full y, ack := fun y u c => g.ack y u c ∨ (y = x ∧ u = T ∧ c ≤ i) }
theorem keep_ext (T : Nat) (A : List Ent) (i : Nat) : Ext x g (g.keep x T A i) :=
  { Ext.refl x g with
    full := fun y hy => by show (if y = x then _ else _) = _; rw [if_neg hy]
    ack := fun _ _ _ h => .inl h
    ackx := fun y _ _ h hy => h.elim (fun hh => hh) fun hh => absurd hh.1 hy }
theorem keep_inv (gi : GInv g) {T i : Nat} (A : List Ent) (hvt : ∀ T' y, g.vt T' x y → T' ≤ T) (hl : g.lead T ≠ none) (hi : i ≤ (g.tl T).length) : GInv (g.keep x T A i) :=
  { gi with
    evq := fun u c p hev => by
      obtain ⟨Q, h1, h2⟩ := gi.evq u c p hev
      exact ⟨Q, h1, fun y hy => .inl (h2 y hy)⟩
    ackb := fun y u c ha => by
      rcases ha with ha | ⟨rfl, rfl, hc⟩
      · exact gi.ackb y u c ha
      · exact ⟨hl, Nat.le_trans hc hi⟩
    ackd := fun y u c c' ha hc => by
      rcases ha with ha | ⟨h1, h2, h3⟩
      · exact .inl (gi.ackd y u c c' ha hc)
      · exact .inr ⟨h1, h2, by omega⟩
    cv := fun T' y z A u c h1 h2 h3 h4 h5 h6 => by
      rcases h3 with h3 | ⟨rfl, rfl, hc⟩
      · exact gi.cv T' y z A u c h1 h2 h3 h4 h5 h6
      · have := hvt T' z h1; omega }

end
end Sf
end Go.Proofs.YtkoipeddfbeliaaGreat

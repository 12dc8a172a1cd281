import Derived.Test.YtkoipeddfbeliaaGreatRows
import Derived.WalkKit
import Derived.MapKept
import Derived.Orders
/-
  A reader of the code: what must hold so that a piece of code runs to its end, said as one proposition ('vcode'), operation by operation. Here: the values, the frame as a list of known slots, and the operations.
-/
namespace Go.Proofs.YtkoipeddfbeliaaGreat
namespace Rx
open Go.RowKit

/-! ### Types, as far as they are needed to name the parts of a value -/
inductive Ty where
  | int (k : IntKind) | bool | ptr | slice | map | str | agg (n : Nat) | any

def kindEq : IntKind → IntKind → Bool
  | .i8, .i8 | .i16, .i16 | .i32, .i32 | .i64, .i64 | .u8, .u8 | .u16, .u16 | .u32, .u32 | .u64, .u64 => true
  | _, _ => false

theorem kindEq_eq {a b : IntKind} (h : kindEq a b = true) : a = b := by cases a <;> cases b <;> first | rfl | (simp [kindEq] at h)
theorem kindEq_refl (a : IntKind) : kindEq a a = true := by cases a <;> rfl

def tyOf (P : Program) (t : TypeId) : Ty :=
  match P.underlying t with
  | some (.int k) => .int k
  | some .bool => .bool
  | some (.pointer _) => .ptr
  | some (.slice _) => .slice
  | some (.map _ _) => .map
  | some .string => .str
  | some (.struct _) => .agg (P.cellsOf t)
  | some (.array _ _) => .agg (P.cellsOf t)
  | _ => .any

/-- there is a value of the type -/
def tex : Ty → (Value → Prop) → Prop
  | .int k, K => ∃ n : Int, K (.int k n)
  | .bool, K => ∃ b : Bool, K (.bool b)
  | .ptr, K => ∃ p : Option Addr, K (.pointer p)
  | .slice, K => ∃ (a : Option Addr) (n c : Nat), K (.slice a n c)
  | .map, K => ∃ r : Option Nat, K (.map r)
  | .str, K => ∃ s : ByteArray, K (.string s)
  | .agg n, K => ∃ cs : Array Value, cs.size = n ∧ K (.agg cs)
  | .any, K => ∃ v : Value, K v

def texL : List Ty → (List Value → Prop) → Prop
  | [], K => K []
  | t :: ts, K => tex t fun v => texL ts fun vs => K (v :: vs)

/-- for all values of the type -/
def tall : Ty → (Value → Prop) → Prop
  | .int k, K => ∀ n : Int, K (.int k n)
  | .bool, K => ∀ b : Bool, K (.bool b)
  | .ptr, K => ∀ p : Option Addr, K (.pointer p)
  | .slice, K => ∀ (a : Option Addr) (n c : Nat), K (.slice a n c)
  | .map, K => ∀ r : Option Nat, K (.map r)
  | .str, K => ∀ s : ByteArray, K (.string s)
  | .agg n, K => ∀ cs : Array Value, cs.size = n → K (.agg cs)
  | .any, K => ∀ v : Value, K v

def tallL : List Ty → (List Value → Prop) → Prop
  | [], K => K []
  | t :: ts, K => tall t fun v => tallL ts fun vs => K (v :: vs)

/-- a value is of the type -/
def castTo : Ty → Value → (Value → Prop) → Prop
  | .int k, .int k' n, K => bif kindEq k k' then K (.int k' n) else False
  | .bool, .bool b, K => K (.bool b)
  | .ptr, .pointer p, K => K (.pointer p)
  | .slice, .slice a n c, K => K (.slice a n c)
  | .map, .map r, K => K (.map r)
  | .str, .string s, K => K (.string s)
  | .agg n, .agg cs, K => cs.size = n ∧ K (.agg cs)
  | .any, v, K => K v
  | _, _, _ => False

theorem tex_elim {t : Ty} {K : Value → Prop} (h : tex t K) : ∃ v, K v := by
  cases t <;> simp only [tex] at h
  case agg n => obtain ⟨cs, _, h⟩ := h; exact ⟨_, h⟩
  case slice => obtain ⟨a, n, c, h⟩ := h; exact ⟨_, h⟩
  all_goals (obtain ⟨x, h⟩ := h; exact ⟨_, h⟩)

theorem texL_elim : ∀ {ts : List Ty} {K : List Value → Prop}, texL ts K → ∃ vs, K vs
  | [], _, h => ⟨[], h⟩
  | _ :: _, _, h => by
    obtain ⟨v, h⟩ := tex_elim h
    obtain ⟨vs, h⟩ := texL_elim h
    exact ⟨v :: vs, h⟩

theorem cast_tall {t : Ty} {v : Value} {K M : Value → Prop} (h : castTo t v K) (g : tall t M) : K v ∧ M v := by
  unfold castTo at h
  split at h
  · rename_i k k' n
    cases hk : kindEq k k'
    · simp [hk] at h
    · have := kindEq_eq hk; subst this
      simp [hk] at h
      exact ⟨h, g n⟩
  · exact ⟨h, g _⟩
  · exact ⟨h, g _⟩
  · exact ⟨h, g _ _ _⟩
  · exact ⟨h, g _⟩
  · exact ⟨h, g _⟩
  · exact ⟨h.2, g _ h.1⟩
  · exact ⟨h, g _⟩
  · exact h.elim

theorem castTo_mono {t : Ty} {v : Value} {K K' : Value → Prop} (h : castTo t v K) (g : ∀ v, K v → K' v) : castTo t v K' := by
  unfold castTo at h ⊢
  split at h
  · rename_i k k' n
    cases hk : kindEq k k'
    · simp [hk] at h
    · simp [hk] at h ⊢; exact g _ h
  · exact g _ h
  · exact g _ h
  · exact g _ h
  · exact g _ h
  · exact g _ h
  · exact ⟨h.1, g _ h.2⟩
  · exact g _ h
  · exact h.elim

/-! ### The frame: the slots whose value is known -/
abbrev Env := List (Nat × Value)

def Env.get : Env → Nat → Option Value
  | [], _ => none
  | p :: e, t => bif Nat.beq p.1 t then some p.2 else Env.get e t

def ev (e : Env) : Operand → Option Value
  | .tmp t => e.get t
  | .const v => some v
  | .global g => some (.pointer (some ⟨g, 0, none⟩))
  | .func f => some (.func (.func f) #[] #[])

/-- what is known is so -/
def Rel (e : Env) (a : Act) : Prop := ∀ k v, e.get k = some v → a.tmps[k]? = some v

theorem ev_eval {e : Env} {a : Act} (h : Rel e a) {x : Operand} {v : Value} (hx : ev e x = some v) : a.eval x = v := by
  cases x <;> simp only [ev, Option.some.injEq] at hx
  case tmp t => simp [Act.eval, h t v hx]
  all_goals (subst hx; rfl)

theorem Env.get_cons (d : Nat) (v : Value) (e : Env) (k : Nat) : Env.get ((d, v) :: e) k = if d = k then some v else e.get k := by
  simp only [Env.get]
  by_cases h : d = k
  · subst h; simp
  · have : Nat.beq d k = false := by cases hb : Nat.beq d k with | false => rfl | true => exact absurd (Nat.eq_of_beq_eq_true hb) h
    rw [this]; simp [h]

def setO (d : Option Nat) (v : Value) (e : Env) : Env :=
  match d with
  | some d => (d, v) :: e
  | none => e

theorem Rel.put {e : Env} {a : Act} (h : Rel e a) {d : Option Nat} {v : Value} (hd : ∀ k, d = some k → k < a.tmps.size) : Rel (setO d v e) (a.put d v) := by
  cases d with
  | none => exact h
  | some d =>
    intro k u hk
    simp only [setO, Env.get_cons] at hk
    have hlt := hd d rfl
    by_cases hdk : d = k
    · subst hdk; simp at hk; subst hk; simp [Act.put, hlt]
    · simp [hdk] at hk
      simp [Act.put, Array.getElem?_setIfInBounds_ne hdk, h k u hk]

def v1 (e : Env) (x : Operand) (F : Value → Prop) : Prop :=
  match ev e x with
  | some v => F v
  | none => False

theorem v1_elim {e : Env} {a : Act} (h : Rel e a) {x : Operand} {F : Value → Prop} (hx : v1 e x F) : F (a.eval x) := by
  unfold v1 at hx
  split at hx
  · rename_i v hv; rw [ev_eval h hv]; exact hx
  · exact hx.elim

def vN (e : Env) (xs : List Operand) (F : List Value → Prop) : Prop :=
  match xs with
  | [] => F []
  | x :: xs => v1 e x fun v => vN e xs fun vs => F (v :: vs)

theorem vN_elim {e : Env} {a : Act} (h : Rel e a) : ∀ {xs : List Operand} {F : List Value → Prop}, vN e xs F → F (xs.map a.eval)
  | [], _, hx => hx
  | x :: xs, F, hx => by
    simp only [vN] at hx
    exact vN_elim (xs := xs) (F := fun vs => F (a.eval x :: vs)) h (v1_elim h hx)

/-! ### What the operations ask -/
def vif (b : Bool) (A B : Prop) : Prop := match b with | true => A | false => B

def vnil (p : Option Addr) (K : Addr → Prop) : Prop := match p with | some a => K a | none => False

def vcell (ty : Ty) (w : World) (a : Addr) (K : Value → Prop) : Prop := tex ty fun v => w.cell? a = some v ∧ K v

/-- cells, one behind the other -/
def CellsAt (w : World) (a : Addr) (vs : List Value) : Prop := ∀ j v, vs[j]? = some v → w.cell? (a.add j) = some v

def vcells (n : Nat) (w : World) (a : Addr) (K : Array Value → Prop) : Prop :=
  ∃ cs : Array Value, cs.size = n ∧ CellsAt w a cs.toList ∧ K cs

def vload (ty : Ty) (w : World) (a : Addr) (K : Value → Prop) : Prop :=
  match ty with
  | .agg n => vcells n w a fun cs => K (.agg cs)
  | ty => vcell ty w a K

def vstore1 (w : World) (a : Addr) (v : Value) (K : World → Prop) : Prop :=
  (∃ old, w.cell? a = some old) ∧ w.frozen? a = false ∧ K (w.setCell a v)

/-- the cells, one behind the other -/
def putCells (w : World) (a : Addr) : List Value → Nat → World
  | [], _ => w
  | v :: vs, i => putCells (w.setCell (a.add i) v) a vs (i + 1)

/-- there are so many cells, and they may be written -/
def Room (w : World) (a : Addr) (n : Nat) : Prop := ∀ i, i < n → (∃ old, w.cell? (a.add i) = some old) ∧ w.frozen? (a.add i) = false

def vstoreN (w : World) (a : Addr) (n : Nat) (cs : Array Value) (K : World → Prop) : Prop :=
  cs.size = n ∧ Room w a n ∧ (∀ v ∈ cs.toList, v.oneCell' = true) ∧ K (putCells w a cs.toList 0)

def isOne : Value → Bool
  | .bool _ | .int _ _ | .string _ | .pointer _ | .slice _ _ _ | .map _ | .func _ _ _ | .nilFunc => true
  | _ => false

theorem isOne_cell {v : Value} (h : isOne v = true) : v.oneCell' = true := by cases v <;> simp_all [isOne, Value.oneCell']
theorem isOne_cells {v : Value} (h : isOne v = true) : v.cells = #[v] := by cases v <;> simp_all [isOne, Value.cells]

def vstore (n : Nat) (w : World) (a : Addr) (v : Value) (K : World → Prop) : Prop :=
  match v with
  | .agg cs => vstoreN w a n cs K
  | v => bif isOne v then (bif Nat.beq n 1 then vstore1 w a v K else False) else False

end Rx
end Go.Proofs.YtkoipeddfbeliaaGreat

/-
  What each operation of the code asks and does ('vop'), and that it is so in the model ('vop_sound').
-/
namespace Go.Proofs.YtkoipeddfbeliaaGreat
namespace Rx
open Go.RowKit

def vzero (P : Program) (t : TypeId) (F : Array Value → Prop) : Prop :=
  match P.info? t with
  | some i => match i.zero with
    | some z => F z.cells
    | none => False
  | none => False

/-- the cells of an aggregate, by name -/
def vopen : Nat → List Value → (List Value → Prop) → Prop
  | 0, cs, K => cs = [] ∧ K []
  | n + 1, cs, K => ∃ c rest, cs = c :: rest ∧ vopen n rest fun l => K (c :: l)

def setMany : List Value → Nat → List Value → List Value
  | cs, _, [] => cs
  | cs, off, v :: vs => setMany (cs.set off v) (off + 1) vs

def vfill (P : Program) (fs : Array Field) : List (Nat × Value) → List Value → (List Value → Prop) → Prop
  | [], cs, K => K cs
  | (i, v) :: rest, cs, K =>
    match fs[i]? with
    | none => False
    | some f =>
      bif Nat.ble (f.offset + P.cellsOf f.type) cs.length then
        match v with
        | .agg xs => vopen (P.cellsOf f.type) xs.toList fun l => vfill P fs rest (setMany cs f.offset l) K
        | v => bif isOne v && Nat.beq (P.cellsOf f.type) 1 then vfill P fs rest (cs.set f.offset v) K else False
      else False

def fieldsOk (P : Program) (fs : Array Field) : Bool := fs.toList.all fun f => (P.info? f.type).isSome

/-- the cells of the elements of a new slice -/
def velems (n : Nat) : Nat → List (Nat × Value) → (List Value → Prop) → Prop
  | _, [], K => K []
  | i, (j, v) :: rest, K =>
    bif Nat.beq i j then
      match v with
      | .agg xs => xs.size = n ∧ velems n (i + 1) rest fun l => K (xs.toList ++ l)
      | v => bif isOne v && Nat.beq n 1 then velems n (i + 1) rest fun l => K (v :: l) else False
    else False

def vP (e : Env) : List (Nat × Operand) → (List (Nat × Value) → Prop) → Prop
  | [], F => F []
  | (i, x) :: xs, F => v1 e x fun v => vP e xs fun vs => F ((i, v) :: vs)

theorem vP_elim {e : Env} {a : Act} (h : Rel e a) : ∀ {xs : List (Nat × Operand)} {F : List (Nat × Value) → Prop}, vP e xs F → F (xs.map fun p => (p.1, a.eval p.2))
  | [], _, hx => hx
  | (i, x) :: xs, F, hx => by
    simp only [vP] at hx
    exact vP_elim (xs := xs) (F := fun vs => F ((i, a.eval x) :: vs)) h (v1_elim h hx)

def vnz (y : Int) (F : Prop) : Prop := y ≠ 0 ∧ F

def ibits (op : BinOp) (k : IntKind) (x y : Int) : Int :=
  match op with
  | .and => k.wrap (BitVec.ofInt k.bits x &&& BitVec.ofInt k.bits y).toNat
  | .or => k.wrap (BitVec.ofInt k.bits x ||| BitVec.ofInt k.bits y).toNat
  | .xor => k.wrap (BitVec.ofInt k.bits x ^^^ BitVec.ofInt k.bits y).toNat
  | _ => k.wrap (BitVec.ofInt k.bits x &&& ~~~BitVec.ofInt k.bits y).toNat

def vsame (k k' : IntKind) (F : Prop) : Prop := bif kindEq k k' then F else False

def vbin (P : Program) (op : BinOp) (t : TypeId) (a b : Value) (F : Value → Prop) : Prop :=
  match a, b with
  | .int k x, .int k' y =>
    match op with
    | .shl => 0 ≤ y ∧ F (.int k (k.wrap (x * 2 ^ (min y.toNat k.bits))))
    | .shr => 0 ≤ y ∧ F (.int k (x.fdiv (2 ^ (min y.toNat k.bits))))
    | .add => vsame k k' (F (.int k (k.wrap (x + y))))
    | .sub => vsame k k' (F (.int k (k.wrap (x - y))))
    | .mul => vsame k k' (F (.int k (k.wrap (x * y))))
    | .quo => vsame k k' (vnz y (F (.int k (k.wrap (x.tdiv y)))))
    | .rem => vsame k k' (vnz y (F (.int k (x.tmod y))))
    | .and => vsame k k' (F (.int k (ibits .and k x y)))
    | .or => vsame k k' (F (.int k (ibits .or k x y)))
    | .xor => vsame k k' (F (.int k (ibits .xor k x y)))
    | .eql => vsame k k' (F (.bool (x == y)))
    | .neq => vsame k k' (F (.bool (x != y)))
    | .lss => vsame k k' (F (.bool (decide (x < y))))
    | .leq => vsame k k' (F (.bool (decide (x ≤ y))))
    | .gtr => vsame k k' (F (.bool (decide (x > y))))
    | .geq => vsame k k' (F (.bool (decide (x ≥ y))))
    | _ => False
  | .string x, .string y =>
    match op with
    | .eql => F (.bool (x.toList == y.toList))
    | .neq => F (.bool (!(x.toList == y.toList)))
    | .lss => F (.bool (Op.bytesLess x.toList y.toList))
    | _ => False
  | .bool x, .bool y =>
    match P.underlying t, op with
    | some .bool, .eql => F (.bool (x == y))
    | some .bool, .neq => F (.bool (!(x == y)))
    | _, _ => False
  | .pointer p, .pointer none =>
    match P.underlying t, op with
    | some (.pointer _), .eql => F (.bool p.isNone)
    | some (.pointer _), .neq => F (.bool (!p.isNone))
    | _, _ => False
  | .slice p _ _, .slice none _ _ =>
    match P.underlying t, op with
    | some (.slice _), .eql => F (.bool p.isNone)
    | some (.slice _), .neq => F (.bool (!p.isNone))
    | _, _ => False
  | _, _ => False

def vun (op : UnOp) (a : Value) (F : Value → Prop) : Prop :=
  match op, a with
  | .not, .bool b => F (.bool (!b))
  | .neg, .int k n => F (.int k (k.wrap (0 - n)))
  | _, _ => False

/-- bytes as cells -/
def byteVals (bs : List UInt8) : List Value := bs.map fun b => .int .u8 b.toNat

/-- the bytes of a slice as a string -/
def vbytes (w : World) (p : Option Addr) (n : Nat) (F : ByteArray → Prop) : Prop :=
  ∃ bs : List UInt8, bs.length = n ∧ (∀ a, p = some a → CellsAt w a (byteVals bs)) ∧ (p = none → n = 0) ∧ F ⟨bs.toArray⟩

def vconv (P : Program) (s d : TypeId) (w : World) (a : Value) (F : Value → Prop) : Prop :=
  match P.underlying d with
  | some (.int k) => match a with
    | .int _ n => F (.int k (k.wrap n))
    | _ => False
  | some .string => match P.underlying s, a with
    | some (.slice el), .slice p n _ => match P.underlying el with
      | some (.int .u8) => vbytes w p n fun bs => F (.string bs)
      | _ => False
    | _, _ => False
  | _ => False

def vidx (p : Option Addr) (n : Nat) (i : Int) (F : Addr → Prop) : Prop := ∃ a, p = some a ∧ 0 ≤ i ∧ i < n ∧ F a

def vopt (e : Env) (x : Option Operand) (F : Option Value → Prop) : Prop :=
  match x with
  | none => F none
  | some x => v1 e x fun v => F (some v)

theorem vopt_elim {e : Env} {a : Act} (h : Rel e a) {x : Option Operand} {F : Option Value → Prop} (hx : vopt e x F) : F (x.map a.eval) := by
  cases x with
  | none => exact hx
  | some x => exact v1_elim h hx

/-- a bound of a slice expression -/
def vbnd (v : Option Value) (d y : Nat) (F : Nat → Prop) : Prop :=
  match v with
  | none => F d
  | some (.int _ i) => 0 ≤ i ∧ i ≤ y ∧ F i.toNat
  | _ => False

def vslice (size : Nat) (p : Option Addr) (n c : Nat) (lo hi mx : Option Value) (F : Option Addr → Nat → Nat → Prop) : Prop :=
  match mx, hi with
  | some _, none => False
  | _, _ => vbnd mx c c fun m => vbnd hi n (match mx with | some _ => m | none => c) fun h => vbnd lo 0 h fun l => F (if m = l then p else p.map (·.add (l * size))) (h - l) (m - l)

def vmap (w : World) (r : Option Nat) (F : Nat → Array MapEntry → Nat → Prop) : Prop := ∃ b es clock, r = some b ∧ w.heap[b]? = some (.map es clock) ∧ F b es clock

def isIntD : TypeDesc → Bool
  | .int _ => true
  | _ => false

def lookRes (r : Option (Nat × Value)) (zero : Value) : Value × Bool :=
  match r with
  | some (_, v) => (v, true)
  | none => (zero, false)

def mapPut (es : Array MapEntry) (clock : Nat) (r : Option (Nat × Value)) (key val : Value) : Obj :=
  match r with
  | some (i, _) => .map (es.modify i fun e => { e with key := key, val := val }) clock
  | none => .map (es.push { key := key, val := val, born := clock }) (clock + 1)

def mapCut (es : Array MapEntry) (clock : Nat) (r : Option (Nat × Value)) : Obj :=
  match r with
  | some (i, _) => .map (es.eraseIdxIfInBounds i) clock
  | none => .map es clock

def _root_.Go.World.putObj (w : World) (b : Nat) (o : Obj) : World := { w with heap := w.heap.setIfInBounds b o }

def vlook (P : Program) (t : TypeId) (w : World) (m k : Value) (F : TypeId → Option (Nat × Value) → Prop) : Prop :=
  match P.underlying t, m with
  | some (.map kt et), .map r => match P.underlying kt with
    | some d => bif isIntD d then vmap w r fun _ es _ => ∃ res, Instr.findNow d k es.toList 0 = some res ∧ F et res else False
    | none => False
  | _, _ => False

def vupd (P : Program) (t : TypeId) (w : World) (m k v : Value) (F : World → Prop) : Prop :=
  match P.underlying t, m with
  | some (.map kt _), .map r => match P.underlying kt with
    | some d => bif isIntD d then vmap w r fun b es clock => ∃ res, Instr.findNow d k es.toList 0 = some res ∧ F (w.putObj b (mapPut es clock res k v)) else False
    | none => False
  | _, _ => False

def vdel (P : Program) (t : TypeId) (w : World) (m k : Value) (F : World → Prop) : Prop :=
  match P.underlying t, m with
  | some (.map kt _), .map r => match P.underlying kt with
    | some d => bif isIntD d then vmap w r fun b es clock => ∃ res, Instr.findNow d k es.toList 0 = some res ∧ F (w.putObj b (mapCut es clock res)) else False
    | none => False
  | _, _ => False

/-- an iterator over a map that is not nil -/
def viter (w : World) (it : Value) (F : Nat → Nat → Nat → Array Nat → Nat → Array MapEntry → Nat → Prop) : Prop :=
  match it with
  | .pointer p => ∃ r s m since seen last es clock, p = some ⟨r, 0, s⟩ ∧ w.heap[r]? = some (.mapIter (some m) since seen last) ∧ w.heap[m]? = some (.map es clock) ∧ F r m since seen last es clock
  | _ => False

def candidates (since : Nat) (seen : Array Nat) (es : Array MapEntry) : Array (Option MapEntry) :=
  let left := es.filter fun e => !seen.contains e.born
  let old := left.filter (·.born < since)
  let new := left.filter (·.born ≥ since)
  (if old.isEmpty then #[none] else #[]) ++ (old ++ new).map some

def vnext (w : World) (it : Value) (F : Bool → List Value → World → Prop) : Prop :=
  viter w it fun r m since seen last es clock =>
    (!seen.isEmpty && !es.isEmpty && es.all (·.born ≥ last)) = false ∧
    ∀ c ∈ (candidates since seen es).toList, ∀ w1, (w1 = w ∨ w1 = w.drew) →
      match c with
      | some e => F true [e.key, e.val] (w1.putObj r (.mapIter (some m) since (seen.push e.born) clock))
      | none => F false [] w1

def ventry (w : World) (it : Value) (F : Value → Value → Prop) : Prop :=
  viter w it fun _ _ _ seen last es clock => ∃ stamp e, seen.back? = some stamp ∧ clock = last ∧ es.find? (·.born == stamp) = some e ∧ F e.key e.val

def goodFn (P : Program) (g : FuncId) : Bool :=
  match P.funcs[g]? with
  | some fn => !(fn.name == "runtime.NumGoroutine") && fn.body.isSome
  | none => false

def vcalld (P : Program) (g : FuncId) (args : List Value) (w : World) (R : Ending → World → Prop) : Prop :=
  bif goodFn P g then Calls P g args.toArray w R else False

def vcallv (P : Program) (f : Value) (args : List Value) (w : World) (R : Ending → World → Prop) : Prop :=
  match f with
  | .func (.func g) first cap => vcalld P g (first.toList ++ (args ++ cap.toList)) w R
  | _ => False

def vres (P : Program) (ty : TypeId) (R : Value → Prop) : Prop :=
  match P.underlying ty with
  | some (.tuple ts) => texL (ts.toList.map (tyOf P)) fun vs => R (.tuple vs.toArray)
  | _ => tex (tyOf P ty) R

/-- what an append gives -/
def Appended (P : Program) (el : TypeId) (zero : Array Value) (w : World) (p : Option Addr) (n c : Nat) (old new : List Value) (m : Nat) (p' : Option Addr) (n' c' : Nat) (w' : World) : Prop :=
  n' = n + m ∧
  ((n + m ≤ c ∧ p' = p ∧ c' = c ∧ w' = match p with | some a => putCells w (a.add (n * P.cellsOf el)) new 0 | none => w) ∨
   (c < n + m ∧ n + m ≤ c' ∧ c' < 2 ^ 63 ∧ p' = some ⟨w.heap.size, 0, none⟩ ∧ w' = w.drew.alloc (.cells (old.toArray ++ new.toArray ++ Builtin.zeroCells zero (c' - (n + m))) el)))

def vappend (P : Program) (el : TypeId) (w : World) (p : Option Addr) (n c : Nat) (q : Option Addr) (m : Nat) (F : Option Addr → Nat → Nat → World → Prop) : Prop :=
  vzero P el fun zero => ∃ old new : List Value, new.length = m * P.cellsOf el ∧ (∀ a, q = some a → CellsAt w a new) ∧ (q = none → m = 0) ∧ (∀ v ∈ new, v.oneCell' = true) ∧
    (n + m ≤ c → ∀ a, p = some a → Room w (a.add (n * P.cellsOf el)) (m * P.cellsOf el)) ∧
    (c < n + m → (n + m) * P.bytesOf el ≤ 140737488355328 ∧ 0 < P.bytesOf el ∧ old.length = n * P.cellsOf el ∧ (∀ a, p = some a → CellsAt w a old) ∧ (p = none → n = 0)) ∧
    ∀ p' n' c' w', Appended P el zero w p n c old new m p' n' c' w' → F p' n' c' w'

def vclear (P : Program) (el : TypeId) (w : World) (p : Option Addr) (n : Nat) (F : World → Prop) : Prop :=
  vzero P el fun zero => (∀ a, p = some a → Room w a (n * zero.size)) ∧ (∀ v ∈ zero.toList, v.oneCell' = true) ∧ F (match p with | some a => putCells w a (Builtin.zeroCells zero n).toList 0 | none => w)

def vbuiltin (P : Program) (b : Builtin) (ts : List TypeId) (args : List Value) (w : World) (K : Value → World → Prop) : Prop :=
  match b, ts, args with
  | .len, t :: _, x :: _ => match P.underlying t, x with
    | some (.slice _), .slice _ n _ => K (.int .i64 n) w
    | some .string, .string s => K (.int .i64 s.size) w
    | some (.map _ _), .map r => vmap w r fun _ es _ => K (.int .i64 es.size) w
    | _, _ => False
  | .min, _, [.int k x, .int _ y] => K (.int k (if y < x then y else x)) w
  | .max, _, [.int k x, .int _ y] => K (.int k (if x < y then y else x)) w
  | .append, t :: t2 :: _, [.slice p n c, .slice q m _] => match P.underlying t, P.underlying t2 with
    | some (.slice el), some (.slice _) => vappend P el w p n c q m fun p' n' c' w' => K (.slice p' n' c') w'
    | _, _ => False
  | .delete, t :: _, [m, k] => vdel P t w m k fun w' => K (.tuple #[]) w'
  | .clear, t :: _, [.slice p n _] => match P.underlying t with
    | some (.slice el) => vclear P el w p n fun w' => K (.tuple #[]) w'
    | _ => False
  | _, _, _ => False

/-- the type is there -/
def known (P : Program) (t : TypeId) (F : Prop) : Prop := match P.underlying t with | some _ => F | none => False

def asSlice (P : Program) (t : TypeId) (x : Value) (F : TypeId → Option Addr → Nat → Nat → Prop) : Prop :=
  match P.underlying t, x with
  | some (.slice el), .slice p n c => F el p n c
  | _, _ => False
def asField (P : Program) (t : TypeId) (f : Nat) (F : Field → Prop) : Prop :=
  match P.underlying t with
  | some (.struct fs) => match fs[f]? with
    | some fd => F fd
    | none => False
  | _ => False
def asAddr (x : Value) (F : Addr → Prop) : Prop := match x with | .pointer (some a) => F a | _ => False
def asAgg (x : Value) (F : Array Value → Prop) : Prop := match x with | .agg cs => F cs | _ => False
def asInt (x : Value) (F : Int → Prop) : Prop := match x with | .int _ i => F i | _ => False
def asStr (P : Program) (t : TypeId) (x : Value) (F : ByteArray → Prop) : Prop :=
  match P.underlying t, x with
  | some .string, .string s => F s
  | _, _ => False
def asBool (x : Value) (F : Bool → Prop) : Prop := match x with | .bool b => F b | _ => False
def asMap (P : Program) (t : TypeId) (x : Value) (F : Option Nat → Prop) : Prop :=
  match P.underlying t, x with
  | some (.map _ _), .map r => F r
  | _, _ => False
def asPart (P : Program) (t : TypeId) (cs : Array Value) (off : Nat) (F : Value → Prop) : Prop :=
  match tyOf P t with
  | .agg n => F (.agg (cs.extract off (off + n)))
  | ty => known P t (tex ty fun v => cs[off]? = some v ∧ F v)

def vop (P : Program) (e : Env) (o : Oper) (w : World) (K : Value → World → Prop) : Prop :=
  match o.op with
  | .move x => v1 e x fun v => K v w
  | .assign x => v1 e x fun v => K v w
  | .pick c a b => v1 e c fun c => v1 e a fun a => v1 e b fun b => asBool c fun t => vif t (K a w) (K b w)
  | .alloc t => vzero P t fun cs => K (.pointer (some ⟨w.heap.size, 0, none⟩)) (w.alloc (.cells cs t))
  | .box t x => v1 e x fun v => K (.pointer (some ⟨w.heap.size, 0, none⟩)) (w.alloc (.cells v.cells t))
  | .build t ps => vP e ps.toList fun ps => match P.underlying t with
    | some (.struct fs) => bif fieldsOk P fs then (vzero P t fun z => vfill P fs ps z.toList fun cs => K (.agg cs.toArray) w) else False
    | _ => False
  | .buildSlice t n ps => vP e ps.toList fun ps => match P.underlying t with
    | some (.slice el) => bif Nat.beq ps.length n && Nat.ble (n * P.cellsOf el) 1000 then (vzero P el fun z => velems (P.cellsOf el) 0 ps fun cs => z.size = P.cellsOf el ∧ K (.slice (some ⟨w.heap.size, 0, none⟩) n n) (w.alloc (.cells cs.toArray el))) else False
    | _ => False
  | .load t x => v1 e x fun v => asAddr v fun a => known P t (vload (tyOf P t) w a fun v => K v w)
  | .store t x y => v1 e x fun p => v1 e y fun v => asAddr p fun a => known P t (vstore (P.cellsOf t) w a v fun w' => K undef w')
  | .nilCheck x => v1 e x fun v => match v with
    | .pointer p => vnil p fun a => K (.pointer (some a)) w
    | .func (.func g) f c => K (.func (.func g) f c) w
    | _ => False
  | .binOp op t x y _ => v1 e x fun a => v1 e y fun b => vbin P op t a b fun v => K v w
  | .unOp op _ x => v1 e x fun a => vun op a fun v => K v w
  | .convert s d x => v1 e x fun a => known P s (vconv P s d w a fun v => K v w)
  | .makeFunc fn f c => vN e f.toList fun f => vN e c.toList fun c => K (.func fn f.toArray c.toArray) w
  | .makeMap _ none => K (.map (some w.heap.size)) (w.alloc (.map #[] 0))
  | .slice t x lo hi mx => v1 e x fun x => vopt e lo fun lo => vopt e hi fun hi => vopt e mx fun mx => asSlice P t x fun el p n c => known P el (vslice (P.cellsOf el) p n c lo hi mx fun p n c => K (.slice p n c) w)
  | .fieldAddr t x f => v1 e x fun v => asAddr v fun a => asField P t f fun fd => bif Nat.beq (P.cellsOf fd.type) 0 then False else K (.pointer (some (a.add fd.offset))) w
  | .field t x f => v1 e x fun v => asAgg v fun cs => asField P t f fun fd => asPart P fd.type cs fd.offset fun v => K v w
  | .indexAddr t x i => v1 e x fun x => v1 e i fun i => asInt i fun i => asSlice P t x fun el p n _ => known P el (vidx p n i fun a => K (.pointer (some (a.add (i.toNat * P.cellsOf el)))) w)
  | .index t x i => v1 e x fun x => v1 e i fun i => asInt i fun i => asStr P t x fun s => 0 ≤ i ∧ ∃ b : UInt8, s[i.toNat]? = some b ∧ K (.int .u8 b.toNat) w
  | .lookup t m k ok => v1 e m fun m => v1 e k fun k => vlook P t w m k fun et res => match P.info? et with
    | some i => match i.zero with
      | some zero => tex (tyOf P et) fun v => ∃ b, lookRes res zero = (v, b) ∧ K (bif ok then .tuple #[v, .bool b] else v) w
      | none => False
    | none => False
  | .mapUpdate t m k v => v1 e m fun m => v1 e k fun k => v1 e v fun v => vupd P t w m k v fun w' => K undef w'
  | .range t x => v1 e x fun x => asMap P t x fun r => vmap w r fun b _ clock => K (.pointer (some ⟨w.heap.size, 0, none⟩)) (w.alloc (.mapIter (some b) clock #[] clock))
  | .next it false => v1 e it fun it => vnext w it fun b l w' => K (.tuple (.bool b :: l).toArray) w'
  | .entry it => v1 e it fun it => ventry w it fun k x => K (.tuple #[k, x]) w
  | .extract t i => v1 e t fun t => match t with
    | .tuple vs => match vs[i]? with | some v => K v w | none => False
    | _ => False
  | .call c => vN e c.args.toList fun args => match c.callee with
    | .builtin b => vbuiltin P b c.argTypes.toList args w K
    | .value (.func g) => vcalld P g args w fun en w' => vres P o.type fun v => en = .returned v ∧ K v w'
    | .value f => v1 e f fun f => vcallv P f args w fun en w' => vres P o.type fun v => en = .returned v ∧ K v w'
    | _ => False
  | _ => False

section
variable {P : Program}
theorem known_elim {t : TypeId} {F : Prop} (h : known P t F) : (∃ d, P.underlying t = some d) ∧ F := by
  unfold known at h
  split at h
  · exact ⟨⟨_, ‹_›⟩, h⟩
  · exact h.elim
theorem known_mk {t : TypeId} {F : Prop} (h : ∃ d, P.underlying t = some d) (hF : F) : known P t F := by
  obtain ⟨d, hd⟩ := h; unfold known; rw [hd]; exact hF
theorem asSlice_elim {t : TypeId} {x : Value} {F : TypeId → Option Addr → Nat → Nat → Prop} (h : asSlice P t x F) : ∃ el p n c, P.underlying t = some (.slice el) ∧ x = .slice p n c ∧ F el p n c := by
  unfold asSlice at h
  split at h
  · exact ⟨_, _, _, _, ‹_›, rfl, h⟩
  · exact h.elim
theorem asField_elim {t : TypeId} {f : Nat} {F : Field → Prop} (h : asField P t f F) : ∃ fs fd, P.underlying t = some (.struct fs) ∧ fs[f]? = some fd ∧ F fd := by
  unfold asField at h
  split at h
  · split at h
    · exact ⟨_, _, ‹_›, ‹_›, h⟩
    · exact h.elim
  · exact h.elim
theorem asAddr_elim {x : Value} {F : Addr → Prop} (h : asAddr x F) : ∃ a, x = .pointer (some a) ∧ F a := by
  unfold asAddr at h
  split at h
  · exact ⟨_, rfl, h⟩
  · exact h.elim
theorem asAgg_elim {x : Value} {F : Array Value → Prop} (h : asAgg x F) : ∃ a, x = .agg a ∧ F a := by
  unfold asAgg at h
  split at h
  · exact ⟨_, rfl, h⟩
  · exact h.elim
theorem asInt_elim {x : Value} {F : Int → Prop} (h : asInt x F) : ∃ k i, x = .int k i ∧ F i := by
  unfold asInt at h
  split at h
  · exact ⟨_, _, rfl, h⟩
  · exact h.elim
theorem asBool_elim {x : Value} {F : Bool → Prop} (h : asBool x F) : ∃ b, x = .bool b ∧ F b := by
  unfold asBool at h
  split at h
  · exact ⟨_, rfl, h⟩
  · exact h.elim
theorem asStr_elim {t : TypeId} {x : Value} {F : ByteArray → Prop} (h : asStr P t x F) : ∃ s, P.underlying t = some .string ∧ x = .string s ∧ F s := by
  unfold asStr at h
  split at h
  · exact ⟨_, ‹_›, rfl, h⟩
  · exact h.elim
theorem asMap_elim {t : TypeId} {x : Value} {F : Option Nat → Prop} (h : asMap P t x F) : ∃ k e r, P.underlying t = some (.map k e) ∧ x = .map r ∧ F r := by
  unfold asMap at h
  split at h
  · exact ⟨_, _, _, ‹_›, rfl, h⟩
  · exact h.elim
theorem asSlice_mk {t el : TypeId} {p : Option Addr} {n c : Nat} {F : TypeId → Option Addr → Nat → Nat → Prop} (h : P.underlying t = some (.slice el)) (hF : F el p n c) : asSlice P t (.slice p n c) F := by
  unfold asSlice; rw [h]; exact hF
theorem asField_mk {t : TypeId} {f : Nat} {fs : Array Field} {fd : Field} {F : Field → Prop} (h : P.underlying t = some (.struct fs)) (h2 : fs[f]? = some fd) (hF : F fd) : asField P t f F := by
  unfold asField; rw [h]; simp only [h2]; exact hF
theorem asStr_mk {t : TypeId} {s : ByteArray} {F : ByteArray → Prop} (h : P.underlying t = some .string) (hF : F s) : asStr P t (.string s) F := by
  unfold asStr; rw [h]; exact hF
end

end Rx
end Go.Proofs.YtkoipeddfbeliaaGreat

/-
  That each operation does in the model what 'vop' says.
-/
namespace Go.Proofs.YtkoipeddfbeliaaGreat
namespace Rx
open Go.RowKit

section
variable {P : Program} {o : Oper} {a : Act} {w w' : World} {next : Act → World → Prop} {Q : Exit → Act → World → Prop}

theorem wp_val {v : Value} (h : (execOp a.eval o).run P w = .ok (.value v) w') (hn : next (a.put o.dst v) w') : o.wp P a w next Q := by
  unfold Oper.wp; rw [h]; exact hn
theorem wp_skp (h : (execOp a.eval o).run P w = .ok .skip w') (hn : next (a.put o.dst undef) w') : o.wp P a w next Q := by
  unfold Oper.wp; rw [h]; exact hn
theorem wp_ent {f : FuncId} {args : Array Value} {R : Ending → World → Prop} (h : (execOp a.eval o).run P w = .ok (.enter f args) w) (hc : Calls P f args w R)
    (hn : ∀ e w', R e w' → ∃ v, e = .returned v ∧ next (a.put o.dst v) w') : o.wp P a w next Q := by
  unfold Oper.wp; rw [h, Oper.upon_enter]
  refine hc.mono fun e w' hR => ?_
  obtain ⟨v, rfl, hv⟩ := hn e w' hR
  exact hv

theorem run_load_at {x : Addr} {v : Value} (h : w.cell? x = some v) : (load x).run P w = .ok v w := by simp [h]

theorem cellsOf_eq {t : TypeId} {i : TypeInfo} (h : P.info? t = some i) : P.cellsOf t = i.size := by simp [Program.cellsOf, h]
theorem info_of_underlying {t : TypeId} {d : TypeDesc} (h : P.underlying t = some d) : ∃ i, P.info? t = some i := by
  unfold Program.underlying at h
  split at h
  · rename_i hi; exact ⟨_, hi⟩
  · rename_i i _ hi; exact ⟨i, hi⟩
  · cases h

theorem run_sizeOf' {t : TypeId} {i : TypeInfo} (h : P.info? t = some i) : (sizeOf t).run P w = .ok (P.cellsOf t) w := by
  simp [sizeOf, typeInfo, h, Program.cellsOf]

theorem tyOf_cases (P : Program) (t : TypeId) :
    (∃ n, tyOf P t = .agg n ∧ n = P.cellsOf t ∧ ∃ d, P.underlying t = some d ∧ ((∃ fs, d = .struct fs) ∨ ∃ k e, d = .array k e)) ∨
    ((∀ n, tyOf P t ≠ .agg n) ∧ ∀ d, P.underlying t = some d → (∀ fs, d ≠ .struct fs) ∧ ∀ k e, d ≠ .array k e) := by
  unfold tyOf
  cases h : P.underlying t with
  | none => right; simp
  | some d =>
    cases d <;> simp

theorem run_isAgg_yes {t : TypeId} {d : TypeDesc} (h : P.underlying t = some d) (hd : (∃ fs, d = .struct fs) ∨ ∃ k e, d = .array k e) : (isAgg t).run P w = .ok true w := by
  rcases hd with ⟨fs, rfl⟩ | ⟨k, e, rfl⟩ <;> simp [isAgg, run_underlying h]
theorem run_isAgg_no {t : TypeId} {d : TypeDesc} (h : P.underlying t = some d) (h1 : ∀ fs, d ≠ .struct fs) (h2 : ∀ k e, d ≠ .array k e) : (isAgg t).run P w = .ok false w := by
  cases d <;> simp [isAgg, run_underlying h]
  · exact absurd rfl (h2 _ _)
  · exact absurd rfl (h1 _)

theorem run_isAgg_agg {t : TypeId} {n : Nat} (h : tyOf P t = .agg n) : (isAgg t).run P w = .ok true w ∧ n = P.cellsOf t ∧ ∃ i, P.info? t = some i := by
  rcases tyOf_cases P t with ⟨m, h1, h2, d, h3, h4⟩ | ⟨h1, _⟩
  · rw [h] at h1; cases h1
    exact ⟨run_isAgg_yes h3 h4, h2, info_of_underlying h3⟩
  · exact absurd h (h1 n)

/-- a load of the model, where the type is known -/
theorem load_sound {t : TypeId} {x : Addr} {K : Value → Prop} (ht : ∃ d, P.underlying t = some d) (h : vload (tyOf P t) w x K) : ∃ v, (loadVar t x).run P w = .ok v w ∧ K v := by
  cases hty : tyOf P t with
  | agg n =>
    rw [hty] at h
    obtain ⟨cs, hn, hc, hk⟩ := h
    obtain ⟨h1, h2, i, hi⟩ := run_isAgg_agg (P := P) (w := w) hty
    refine ⟨_, ?_, hk⟩
    have := run_loadCells_list (P := P) w x cs.toList (fun j v hj => hc j v hj)
    have hl : cs.toList.length = P.cellsOf t := by simp [hn, h2]
    rw [hl] at this
    simp [loadVar, h1, run_sizeOf' hi, this]
  | _ =>
    obtain ⟨d, hd⟩ := ht
    have hno : ∀ n, tyOf P t ≠ .agg n := by rw [hty]; intro n; simp
    rcases tyOf_cases P t with ⟨m, h1, _⟩ | ⟨_, h1⟩
    · exact absurd h1 (hno m)
    · have hag := run_isAgg_no (P := P) (w := w) hd (h1 d hd).1 (h1 d hd).2
      rw [hty] at h
      simp only [vload, vcell] at h
      obtain ⟨v, hc, hk⟩ := tex_elim h
      exact ⟨v, by simp [loadVar, hag, hc], hk⟩

theorem run_storeCells {x : Addr} : ∀ (vs : List Value) (i : Nat) (w : World), (∀ j, j < vs.length → (∃ old, w.cell? (x.add (i + j)) = some old) ∧ w.frozen? (x.add (i + j)) = false) → (∀ v ∈ vs, v.oneCell' = true) →
    (storeCells x vs i).run P w = .ok () (putCells w x vs i)
  | [], _, _, _, _ => rfl
  | v :: vs, i, w, h, h1 => by
    obtain ⟨⟨old, ho⟩, hf⟩ := h 0 (by simp)
    simp only [Nat.add_zero] at ho hf
    have hs : (store (x.add i) v).run P w = .ok () (w.setCell (x.add i) v) := by
      rw [run_store P w _ v _ (h1 v (by simp))]; simp [ho, hf]
    have ih := run_storeCells vs (i + 1) (w.setCell (x.add i) v) (fun j hj => by
      have hh := h (j + 1) (by simp; omega)
      rw [show i + (j + 1) = i + 1 + j by omega] at hh
      obtain ⟨⟨o2, h2⟩, h3⟩ := hh
      refine ⟨?_, by simpa using h3⟩
      by_cases heq : x.add i = x.add (i + 1 + j)
      · rw [← heq]; exact ⟨v, World.cell?_setCell_same w _ v ho⟩
      · exact ⟨o2, by rw [World.cell?_setCell_other w _ _ v heq]; exact h2⟩) (fun u hu => h1 u (by simp [hu]))
    simp [storeCells, hs, ih, putCells]

theorem store_sound {t : TypeId} {x : Addr} {v : Value} {K : World → Prop} (ht : ∃ i, P.info? t = some i) (h : vstore (P.cellsOf t) w x v K) : ∃ w', (storeVar t x v).run P w = .ok () w' ∧ K w' := by
  obtain ⟨i, hi⟩ := ht
  have one : ∀ v : Value, isOne v = true → P.cellsOf t = 1 → vstore1 w x v K → ∃ w', (storeVar t x v).run P w = .ok () w' ∧ K w' := by
    intro v h1 h2 ⟨⟨old, h3⟩, h4, h5⟩
    refine ⟨_, ?_, h5⟩
    have hs : (store x v).run P w = .ok () (w.setCell x v) := by
      rw [run_store P w _ v _ (isOne_cell h1)]; simp [h3, h4]
    simp [storeVar, isOne_cells h1, run_sizeOf' hi, h2, storeCells, Addr.add, hs]
  have two : ∀ v : Value, (bif isOne v then (bif Nat.beq (P.cellsOf t) 1 then vstore1 w x v K else False) else False) → ∃ w', (storeVar t x v).run P w = .ok () w' ∧ K w' := by
    intro v h
    cases h1 : isOne v with
    | false => simp [h1] at h
    | true =>
      cases h2 : Nat.beq (P.cellsOf t) 1 with
      | false => simp [h1, h2] at h
      | true =>
        simp only [h1, h2, cond_true] at h
        exact one v h1 (Nat.eq_of_beq_eq_true h2) h
  cases v with
  | agg cs =>
    obtain ⟨hn, hr, h1, hk⟩ := h
    refine ⟨_, ?_, hk⟩
    have := run_storeCells (P := P) (x := x) cs.toList 0 w (fun j hj => by simpa using hr j (by simpa [hn] using hj)) h1
    simp [storeVar, Value.cells, run_sizeOf' hi, hn, this]
  | _ => exact two _ h

/-! ### Building -/
theorem vzero_elim {t : TypeId} {F : Array Value → Prop} (h : vzero P t F) : ∃ i z, P.info? t = some i ∧ i.zero = some z ∧ F z.cells := by
  unfold vzero at h
  split at h
  · rename_i i hi
    split at h
    · rename_i z hz; exact ⟨i, z, hi, hz, h⟩
    · exact h.elim
  · exact h.elim

theorem run_zeroValue' {t : TypeId} {i : TypeInfo} {z : Value} (hi : P.info? t = some i) (hz : i.zero = some z) : (zeroValue t).run P w = .ok z w := by
  simp [zeroValue, typeInfo, hi, hz]

theorem vopen_elim : ∀ {n : Nat} {cs : List Value} {K : List Value → Prop}, vopen n cs K → cs.length = n ∧ K cs
  | 0, cs, K, h => by obtain ⟨rfl, h⟩ := h; exact ⟨rfl, h⟩
  | n + 1, cs, K, h => by
    obtain ⟨c, rest, rfl, h⟩ := h
    obtain ⟨h1, h2⟩ := vopen_elim h
    exact ⟨by simp [h1], h2⟩

theorem setMany_length : ∀ (cs : List Value) (off : Nat) (vs : List Value), (setMany cs off vs).length = cs.length
  | cs, off, [] => rfl
  | cs, off, v :: vs => by rw [setMany, setMany_length]; simp

theorem fold_setMany : ∀ (vs : List Value) (k off : Nat) (cs : List Value),
    ((vs.zipIdx k).foldl (fun (cs : Array Value) (p : Value × Nat) => cs.setIfInBounds (off + p.2) p.1) cs.toArray) = (setMany cs (off + k) vs).toArray
  | [], _, _, _ => rfl
  | v :: vs, k, off, cs => by
    have := fold_setMany vs (k + 1) off (cs.set (off + k) v)
    simp only [List.zipIdx_cons, List.foldl_cons, List.setIfInBounds_toArray, setMany]
    rw [this, Nat.add_assoc]

theorem fill_fields {fs : Array Field} {places : Array (Nat × Nat)} (hp : ∀ (i : Nat) (f : Field), fs[i]? = some f → places[i]? = some (f.offset, P.cellsOf f.type)) :
    ∀ {ps : List (Nat × Value)} {cs : List Value} {K : List Value → Prop}, vfill P fs ps cs K → ∃ l, Instr.fill (places[·]?) cs.toArray ps = some l.toArray ∧ K l
  | [], cs, K, h => ⟨cs, rfl, h⟩
  | (i, v) :: rest, cs, K, h => by
    simp only [vfill] at h
    cases hf : fs[i]? with
    | none => simp [hf] at h
    | some f =>
      simp only [hf] at h
      cases hb : Nat.ble (f.offset + P.cellsOf f.type) cs.length with
      | false => simp [hb] at h
      | true =>
        simp only [hb, cond_true] at h
        have hle := Nat.le_of_ble_eq_true hb
        have hpl := hp i f hf
        have key : ∀ xs : List Value, v.cells = xs.toArray → xs.length = P.cellsOf f.type → vfill P fs rest (setMany cs f.offset xs) K →
            ∃ l, Instr.fill (places[·]?) cs.toArray ((i, v) :: rest) = some l.toArray ∧ K l := by
          intro xs hx hl hh
          obtain ⟨l, h1, h2⟩ := fill_fields hp hh
          refine ⟨l, ?_, h2⟩
          have hfold := fold_setMany xs 0 f.offset cs
          simp only [Nat.add_zero] at hfold
          simp only [Instr.fill, hpl, hx]
          rw [if_neg (by simp [hl]; omega)]
          rw [← h1, ← hfold]
          rw [← Array.foldl_toList, Array.toList_zipIdx]
        have one : ∀ v' : Value, v = v' → (bif isOne v' && Nat.beq (P.cellsOf f.type) 1 then vfill P fs rest (cs.set f.offset v') K else False) →
            ∃ l, Instr.fill (places[·]?) cs.toArray ((i, v) :: rest) = some l.toArray ∧ K l := by
          rintro v' rfl hh
          cases h1 : isOne v with
          | false => simp [h1] at hh
          | true =>
            cases h2 : Nat.beq (P.cellsOf f.type) 1 with
            | false => simp [h1, h2] at hh
            | true =>
              simp only [h1, h2, Bool.and_true, cond_true] at hh
              exact key [v] (isOne_cells h1) (by simp [Nat.eq_of_beq_eq_true h2]) (by simpa [setMany] using hh)
        cases v with
        | agg xs =>
          obtain ⟨h1, h2⟩ := vopen_elim h
          exact key xs.toList (by simp [Value.cells]) h1 h2
        | _ => exact one _ rfl h

theorem fieldsOk_elim {fs : Array Field} (h : fieldsOk P fs = true) (i : Nat) (f : Field) (hf : fs[i]? = some f) : ∃ j, P.info? f.type = some j := by
  unfold fieldsOk at h
  have := List.all_eq_true.1 h f (by obtain ⟨hi, rfl⟩ := Array.getElem?_eq_some_iff.1 hf; simp)
  exact Option.isSome_iff_exists.1 this

theorem build_sound {t : TypeId} {fs : Array Field} {ps : List (Nat × Value)} {K : Value → Prop} (ht : P.underlying t = some (.struct fs)) (hsz : ∀ (i : Nat) (f : Field), fs[i]? = some f → ∃ j, P.info? f.type = some j)
    (h : vzero P t fun z => vfill P fs ps z.toList fun cs => K (.agg cs.toArray)) : ∃ v, (Instr.build t ps.toArray).run P w = .ok v w ∧ K v := by
  obtain ⟨i, z, hi, hz, h⟩ := vzero_elim h
  have hm : (fs.mapM fun (f : Field) => Prod.mk f.offset <$> sizeOf f.type : Sem (Array (Nat × Nat))).run P w = .ok (fs.map fun (f : Field) => (f.offset, P.cellsOf f.type)) w := by
    have : ∀ l : List Field, (∀ f ∈ l, ∃ j, P.info? f.type = some j) → (l.mapM fun (f : Field) => Prod.mk f.offset <$> sizeOf f.type : Sem (List (Nat × Nat))).run P w = .ok (l.map fun (f : Field) => (f.offset, P.cellsOf f.type)) w := by
      intro l hl
      induction l with
      | nil => rfl
      | cons f l ih =>
        obtain ⟨j, hj⟩ := hl f (by simp)
        simp [List.mapM_cons, run_sizeOf' hj, ih (fun g hg => hl g (by simp [hg]))]
    have h2 := this fs.toList (fun f hf => by
      obtain ⟨k, hk, rfl⟩ := List.getElem_of_mem hf
      exact hsz k _ (by simp at hk ⊢))
    rw [Array.mapM_eq_mapM_toList]
    simp only [Sem.run_map, h2, Result.andThen_ok]
    congr 1
    exact Array.ext' (by simp)
  have hp : ∀ (i : Nat) (f : Field), fs[i]? = some f → (fs.map fun (f : Field) => (f.offset, P.cellsOf f.type))[i]? = some (f.offset, P.cellsOf f.type) := by
    intro i f hf; simp [hf]
  obtain ⟨l, h1, h2⟩ := fill_fields (P := P) hp h
  refine ⟨_, ?_, h2⟩
  simp only [Array.toArray_toList, Array.getElem?_map] at h1
  simp [Instr.build, run_zeroValue' hi hz, run_underlying ht, hm, h1]

end
end Rx
end Go.Proofs.YtkoipeddfbeliaaGreat

/-
  That each operation does in the model what 'vop' says: slices, numbers, maps.
-/
namespace Go.Proofs.YtkoipeddfbeliaaGreat
namespace Rx
open Go.RowKit

section
variable {P : Program} {o : Oper} {a : Act} {w w' : World} {next : Act → World → Prop} {Q : Exit → Act → World → Prop}

theorem setMany_append : ∀ (vs pre mid post : List Value), mid.length = vs.length → setMany (pre ++ mid ++ post) pre.length vs = pre ++ vs ++ post
  | [], pre, mid, post, h => by
    have : mid = [] := List.eq_nil_of_length_eq_zero (by simpa using h)
    subst this; simp [setMany]
  | v :: vs, pre, mid, post, h => by
    match mid, h with
    | m :: mid, h =>
      simp only [setMany]
      have h1 : (pre ++ m :: mid ++ post).set pre.length v = (pre ++ [v]) ++ mid ++ post := by simp
      have := setMany_append vs (pre ++ [v]) mid post (by simpa using h)
      simp only [List.length_append, List.length_cons, List.length_nil, Nat.zero_add] at this
      rw [h1, this]; simp

theorem fill_elems {n : Nat} : ∀ {ps : List (Nat × Value)} {i : Nat} {pre : List Value} {K : List Value → Prop} (rest : List Value), velems n i ps K → pre.length = i * n → rest.length = ps.length * n →
    ∃ l, Instr.fill (fun i => some (i * n, n)) (pre ++ rest).toArray ps = some (pre ++ l).toArray ∧ l.length = ps.length * n ∧ K l
  | [], i, pre, K, rest, h, hp, hr => by
    have : rest = [] := List.eq_nil_of_length_eq_zero (by simpa using hr)
    subst this
    exact ⟨[], rfl, by simp, h⟩
  | (j, v) :: ps, i, pre, K, rest, h, hp, hr => by
    simp only [velems] at h
    cases hij : Nat.beq i j with
    | false => simp [hij] at h
    | true =>
      have hij' := Nat.eq_of_beq_eq_true hij
      subst hij'
      simp only [hij, cond_true] at h
      have key : ∀ xs : List Value, v.cells = xs.toArray → xs.length = n → velems n (i + 1) ps (fun l => K (xs ++ l)) →
          ∃ l, Instr.fill (fun i => some (i * n, n)) (pre ++ rest).toArray ((i, v) :: ps) = some (pre ++ l).toArray ∧ l.length = (ps.length + 1) * n ∧ K l := by
        intro xs hx hl hh
        have hrl : rest.length = ps.length * n + n := by rw [hr]; simp [Nat.add_mul]
        obtain ⟨mid, post, rfl, hmid⟩ : ∃ mid post, rest = mid ++ post ∧ mid.length = n :=
          ⟨rest.take n, rest.drop n, by simp, by simp; omega⟩
        have hpost : post.length = ps.length * n := by simp at hrl; omega
        obtain ⟨l, h1, h2, h3⟩ := fill_elems (pre := pre ++ xs) post hh (by simp [hp, hl, Nat.add_mul]) hpost
        refine ⟨xs ++ l, ?_, by simp [h2, hl, Nat.add_mul]; omega, h3⟩
        simp only [Instr.fill, hx]
        rw [if_neg (by simp [hl, hp]; omega)]
        have hf := fold_setMany xs 0 (i * n) (pre ++ (mid ++ post))
        simp only [Nat.add_zero] at hf
        rw [← Array.foldl_toList, Array.toList_zipIdx]
        rw [hf]
        have hsm := setMany_append xs pre mid post (by omega)
        rw [← hp, ← List.append_assoc, hsm]
        simpa using h1
      have one : ∀ v' : Value, v = v' → (bif isOne v' && Nat.beq n 1 then velems n (i + 1) ps (fun l => K (v' :: l)) else False) →
          ∃ l, Instr.fill (fun i => some (i * n, n)) (pre ++ rest).toArray ((i, v) :: ps) = some (pre ++ l).toArray ∧ l.length = (ps.length + 1) * n ∧ K l := by
        rintro v' rfl hh
        cases h1 : isOne v with
        | false => simp [h1] at hh
        | true =>
          cases h2 : Nat.beq n 1 with
          | false => simp [h1, h2] at hh
          | true =>
            simp only [h1, h2, Bool.and_true, cond_true] at hh
            exact key [v] (isOne_cells h1) (by simp [Nat.eq_of_beq_eq_true h2]) hh
      cases v with
      | agg xs => exact key xs.toList (by simp [Value.cells]) (by simpa using h.1) h.2
      | _ => exact one _ rfl h

theorem buildSlice_sound {t el : TypeId} {n : Nat} {ps : List (Nat × Value)} {K : Value → World → Prop} (ht : P.underlying t = some (.slice el)) (hps : ps.length = n) (hn : n * P.cellsOf el ≤ 1000)
    (h : vzero P el fun z => velems (P.cellsOf el) 0 ps fun cs => z.size = P.cellsOf el ∧ K (.slice (some ⟨w.heap.size, 0, none⟩) n n) (w.alloc (.cells cs.toArray el))) :
    ∃ v w', (Instr.buildSlice t n ps.toArray).run P w = .ok v w' ∧ K v w' := by
  obtain ⟨i, z, hi, hz, h⟩ := vzero_elim h
  have hbig : ¬ (n * P.cellsOf el > 2 ^ 24) := by omega
  have key : ∀ zs : Array Value, ∃ l : List Value, Instr.fill (fun i => some (i * P.cellsOf el, P.cellsOf el)) ((Array.range (n * P.cellsOf el)).map fun k => zs[k % zs.size]!) ps = some l.toArray ∧
      K (.slice (some ⟨w.heap.size, 0, none⟩) n n) (w.alloc (.cells l.toArray el)) := by
    intro zs
    obtain ⟨l, h1, h2, h3, h4⟩ := fill_elems (pre := []) (((List.range (n * P.cellsOf el)).map fun k => zs[k % zs.size]!)) h (by simp) (by simp [hps])
    refine ⟨l, ?_, h4⟩
    simp only [List.nil_append] at h1
    rw [← h1]
    congr 1
    apply Array.ext'; simp [Array.toList_range]
  by_cases h0 : n * P.cellsOf el = 0
  · obtain ⟨l, h1, h4⟩ := key #[]
    refine ⟨_, _, ?_, h4⟩
    simp [h0] at h1
    simp [Instr.buildSlice, run_underlying ht, run_sizeOf' hi, h0, h1, newRow]
  · obtain ⟨l, h1, h4⟩ := key z.cells
    refine ⟨_, _, ?_, h4⟩
    simp only [Instr.buildSlice, Sem.run_bind, run_underlying ht, Result.andThen_ok, run_sizeOf' hi, hbig, if_false, h0, run_zeroValue' hi hz, Sem.run_pure, h1]
    rfl

theorem vsame_elim {k k' : IntKind} {F : Prop} (h : vsame k k' F) : k = k' ∧ F := by
  unfold vsame at h
  cases hk : kindEq k k' with
  | false => simp [hk] at h
  | true => simp [hk] at h; exact ⟨kindEq_eq hk, h⟩

theorem run_equalIn_bool {t : TypeId} (d : Nat) (h : P.underlying t = some .bool) (x y : Bool) : (Op.equalIn (d + 1) t (.bool x) (.bool y)).run P w = .ok (x == y) w := by
  simp [Op.equalIn, run_underlying h]
theorem run_equalIn_ptr {t e : TypeId} (d : Nat) (h : P.underlying t = some (.pointer e)) (p : Option Addr) : (Op.equalIn (d + 1) t (.pointer p) (.pointer none)).run P w = .ok p.isNone w := by
  cases p <;> simp [Op.equalIn, run_underlying h]
theorem run_equalIn_slice {t e : TypeId} (d : Nat) (h : P.underlying t = some (.slice e)) (p : Option Addr) (n c m k : Nat) : (Op.equalIn (d + 1) t (.slice p n c) (.slice none m k)).run P w = .ok p.isNone w := by
  cases p <;> simp [Op.equalIn, run_underlying h]
theorem run_equal_bool {t : TypeId} (h : P.underlying t = some .bool) (x y : Bool) : (Op.equal t (.bool x) (.bool y)).run P w = .ok (x == y) w := run_equalIn_bool 9999 h x y
theorem run_equal_ptr {t e : TypeId} (h : P.underlying t = some (.pointer e)) (p : Option Addr) : (Op.equal t (.pointer p) (.pointer none)).run P w = .ok p.isNone w := run_equalIn_ptr 9999 h p
theorem run_equal_slice {t e : TypeId} (h : P.underlying t = some (.slice e)) (p : Option Addr) (n c m k : Nat) : (Op.equal t (.slice p n c) (.slice none m k)).run P w = .ok p.isNone w := run_equalIn_slice 9999 h p n c m k
theorem run_eql {t : TypeId} (x y : Bool) : binOp .eql t (.bool x) (.bool y) = (do pure (.bool (← Op.equal t (.bool x) (.bool y)))) := rfl
theorem run_neq {t : TypeId} (x y : Bool) : binOp .neq t (.bool x) (.bool y) = (do pure (.bool (!(← Op.equal t (.bool x) (.bool y))))) := rfl
theorem run_eql_p {t : TypeId} (p q : Option Addr) : binOp .eql t (.pointer p) (.pointer q) = (do pure (.bool (← Op.equal t (.pointer p) (.pointer q)))) := rfl
theorem run_neq_p {t : TypeId} (p q : Option Addr) : binOp .neq t (.pointer p) (.pointer q) = (do pure (.bool (!(← Op.equal t (.pointer p) (.pointer q))))) := rfl
theorem run_eql_s {t : TypeId} (p q : Option Addr) (n c m k : Nat) : binOp .eql t (.slice p n c) (.slice q m k) = (do pure (.bool (← Op.equal t (.slice p n c) (.slice q m k)))) := rfl
theorem run_neq_s {t : TypeId} (p q : Option Addr) (n c m k : Nat) : binOp .neq t (.slice p n c) (.slice q m k) = (do pure (.bool (!(← Op.equal t (.slice p n c) (.slice q m k))))) := rfl

theorem bin_sound {op : BinOp} {t : TypeId} {x y : Value} {F : Value → Prop} (h : vbin P op t x y F) : ∃ v, (binOp op t x y).run P w = .ok v w ∧ F v := by
  unfold vbin at h
  split at h
  · rename_i k x k' y
    cases op <;> simp only at h
    case shl => exact ⟨_, by simp [binOp, Op.shift, show ¬ y < 0 by omega], h.2⟩
    case shr => exact ⟨_, by simp [binOp, Op.shift, show ¬ y < 0 by omega], h.2⟩
    case quo => obtain ⟨hk, g⟩ := vsame_elim h; subst hk; refine ⟨_, ?_, g.2⟩; simp [binOp, Op.intDiv, g.1]
    case rem => obtain ⟨hk, g⟩ := vsame_elim h; subst hk; refine ⟨_, ?_, g.2⟩; simp [binOp, Op.intDiv, g.1]
    all_goals first
      | exact h.elim
      | (obtain ⟨hk, g⟩ := vsame_elim h; subst hk
         refine ⟨_, ?_, g⟩
         simp [binOp, Op.intArith, Op.intCmp, Op.intBits, ibits]; done)
  · split at h <;> first
      | exact h.elim
      | (refine ⟨_, ?_, h⟩; simp [binOp, Op.stringOp]; done)
  · split at h
    · rename_i hu; refine ⟨_, ?_, h⟩; simp [run_eql, run_equal_bool hu]
    · rename_i hu; refine ⟨_, ?_, h⟩; simp [run_neq, run_equal_bool hu]
    · exact h.elim
  · rename_i p
    split at h
    · rename_i hu; refine ⟨_, ?_, h⟩; cases p <;> simp [run_eql_p, run_equal_ptr hu]
    · rename_i hu; refine ⟨_, ?_, h⟩; cases p <;> simp [run_neq_p, run_equal_ptr hu]
    · exact h.elim
  · rename_i p _ _ _ _
    split at h
    · rename_i hu; refine ⟨_, ?_, h⟩; simp [run_eql_s, run_equal_slice hu]
    · rename_i hu; refine ⟨_, ?_, h⟩; simp [run_neq_s, run_equal_slice hu]
    · exact h.elim
  · exact h.elim

end
end Rx
end Go.Proofs.YtkoipeddfbeliaaGreat

/-
  That each operation does in the model what 'vop' says: slices, maps, append.
-/
namespace Go.Proofs.YtkoipeddfbeliaaGreat
namespace Rx
open Go.RowKit

section
variable {P : Program} {o : Oper} {a : Act} {w w' : World} {next : Act → World → Prop} {Q : Exit → Act → World → Prop}

theorem un_sound {op : UnOp} {x : Value} {F : Value → Prop} (h : vun op x F) : ∃ v, (Op.unary op x).run P w = .ok v w ∧ F v := by
  unfold vun at h
  split at h
  · exact ⟨_, by simp [Op.unary], h⟩
  · exact ⟨_, by simp [Op.unary, Op.intArith], h⟩
  · exact h.elim

theorem bytes_fold : ∀ (bs : List UInt8) (s : ByteArray), (bs.map fun b => ((b.toNat : Nat) : Int)).foldl (fun r n => r.push (UInt8.ofNat n.toNat)) s = ⟨s.data ++ bs.toArray⟩
  | [], s => by simp
  | b :: bs, s => by
    simp only [List.map_cons, List.foldl_cons]
    rw [bytes_fold bs]
    simp [ByteArray.push]

theorem conv_sound {s d : TypeId} {x : Value} {F : Value → Prop} (hs : ∃ t, P.underlying s = some t) (h : vconv P s d w x F) : ∃ v, (convert s d x).run P w = .ok v w ∧ F v := by
  unfold vconv at h
  split at h
  · rename_i k hd
    split at h
    · obtain ⟨t, hs⟩ := hs
      exact ⟨_, by simp [convert, run_underlying hs, run_underlying hd, Conv.intToInt], h⟩
    · exact h.elim
  · rename_i hd
    split at h
    · rename_i el p n c hs
      split at h
      · rename_i he
        obtain ⟨bs, hl, h1, h2, h3⟩ := h
        refine ⟨_, ?_, h3⟩
        rw [run_convert_bytes_string w s d el p n c hs he hd]
        cases p with
        | none =>
          have : bs = [] := List.eq_nil_of_length_eq_zero (by rw [hl]; exact h2 rfl)
          subst this
          simp [Conv.bytesToString]; rfl
        | some b =>
          have hc := run_loadCells_list (P := P) w b (byteVals bs) (h1 b rfl)
          have hb : byteVals bs = (bs.map fun b => ((b.toNat : Nat) : Int)).map (Value.int .u8) := by simp [byteVals]
          rw [hb] at hc
          simp only [List.length_map, hl] at hc
          rw [run_bytesToString w b n c _ hc, bytes_fold]
          have he : ByteArray.empty.data ++ bs.toArray = bs.toArray := by
            show (#[] : Array UInt8) ++ bs.toArray = bs.toArray
            simp
          rw [he]
      · exact h.elim
    · exact h.elim
  · exact h.elim

theorem bnd_run {v : Option Value} {d y : Nat} {code : BoundsCode} {F : Nat → Prop} (h : vbnd v d y F) : ∃ m, (match v with | some v => Instr.sliceBound v y code | none => pure d : Sem Nat).run P w = .ok m w ∧ F m := by
  unfold vbnd at h
  split at h
  · exact ⟨d, rfl, h⟩
  · obtain ⟨h1, h2, h3⟩ := h
    exact ⟨_, by simp [Instr.sliceBound, asIntOf, h1, h2], h3⟩
  · exact h.elim

theorem slice_sound {t el : TypeId} {p : Option Addr} {n c : Nat} {lo hi mx : Option Value} {F : Option Addr → Nat → Nat → Prop} (ht : P.underlying t = some (.slice el)) (he : ∃ i, P.info? el = some i)
    (h : vslice (P.cellsOf el) p n c lo hi mx F) : ∃ p' n' c', (Instr.sliceAt t (.slice p n c) lo hi mx).run P w = .ok (.slice p' n' c') w ∧ F p' n' c' := by
  obtain ⟨i, hi'⟩ := he
  have fin : ∀ m hh l, (Instr.sliceBounds true n c lo hi mx).run P w = .ok (l, hh, m) w → F (if m = l then p else p.map (·.add (l * P.cellsOf el))) (hh - l) (m - l) →
      ∃ p' n' c', (Instr.sliceAt t (.slice p n c) lo hi mx).run P w = .ok (.slice p' n' c') w ∧ F p' n' c' := by
    intro m hh l h1 h2
    refine ⟨_, _, _, ?_, h2⟩
    simp [Instr.sliceAt, Instr.slice, run_underlying ht, h1, run_sizeOf' hi']
  unfold vslice at h
  split at h
  · exact h.elim
  · rename_i hne
    cases mx with
    | none =>
      obtain ⟨m, h1, h2⟩ := bnd_run (P := P) (w := w) (code := .slice3Acap) h
      obtain ⟨hh, h3, h4⟩ := bnd_run (P := P) (w := w) (code := .sliceAcap) h2
      obtain ⟨l, h5, h6⟩ := bnd_run (P := P) (w := w) (code := .sliceB) h4
      refine fin m hh l ?_ h6
      have hm : m = c := by simp at h1; exact h1.symm
      subst hm
      simp only [Instr.sliceBounds, Sem.run_bind, Sem.run_pure, Result.andThen_ok]
      cases hi with
      | none => simp at h3; subst h3; cases lo with
        | none => simp at h5; subst h5; simp
        | some lo => simp only at h5; simp [h5]
      | some hi => simp only at h3; cases lo with
        | none => simp at h5; subst h5; simp [h3]
        | some lo => simp only at h5; simp [h3, h5]
    | some mx =>
      cases hi with
      | none => exact absurd rfl (hne mx rfl)
      | some hi =>
        obtain ⟨m, h1, h2⟩ := bnd_run (P := P) (w := w) (code := .slice3Acap) h
        obtain ⟨hh, h3, h4⟩ := bnd_run (P := P) (w := w) (code := .slice3B) h2
        obtain ⟨l, h5, h6⟩ := bnd_run (P := P) (w := w) (code := .slice3C) h4
        refine fin m hh l ?_ h6
        simp only at h1 h3
        cases lo with
        | none => simp at h5; subst h5; simp [Instr.sliceBounds, h1, h3]
        | some lo => simp only at h5; simp [Instr.sliceBounds, h1, h3, h5]

theorem map_elim {r : Option Nat} {F : Nat → Array MapEntry → Nat → Prop} (h : vmap w r F) : ∃ b es clock, r = some b ∧ w.heap[b]? = some (.map es clock) ∧ F b es clock := h

theorem run_checkKey_int {kt : TypeId} {d : TypeDesc} {k : Value} (e : Bool) (hd : P.underlying kt = some d) (hi : isIntD d = true) : (Instr.checkKey e 10000 kt k).run P w = .ok () w := by
  cases d <;> simp [isIntD] at hi
  show (Instr.checkKey e (9999 + 1) kt k).run P w = _
  generalize 9999 = n
  simp [Instr.checkKey, run_underlying hd]

theorem findNow_at {d : TypeDesc} (hi : isIntD d = true) {k : Value} : ∀ {l : List MapEntry} {i j : Nat} {v : Value}, Instr.findNow d k l i = some (some (j, v)) → i ≤ j ∧ ∃ e, l[j - i]? = some e ∧ ∃ kd x, k = .int kd x ∧ e.key = .int kd x
  | [], i, j, v, h => by simp [Instr.findNow] at h
  | e :: l, i, j, v, h => by
    simp only [Instr.findNow] at h
    cases d <;> simp [isIntD] at hi
    rename_i dk
    split at h
    · rename_i hs
      simp at h
      obtain ⟨rfl, rfl⟩ := h
      refine ⟨Nat.le_refl _, e, by simp, ?_⟩
      unfold Instr.sameNow at hs
      split at hs
      · rename_i k1 a1 k2 b1 hk
        split at hs
        · rename_i hkk; subst hkk
          simp at hs; subst hs
          exact ⟨_, _, rfl, hk⟩
        · simp at hs
      all_goals simp_all
    · obtain ⟨h1, e', h2, h3⟩ := findNow_at (d := .int dk) rfl h
      refine ⟨by omega, e', ?_, h3⟩
      rw [show j - i = (j - (i + 1)) + 1 by omega]; simpa using h2
    · simp at h

theorem upd_sound {t : TypeId} {m k v : Value} {F : World → Prop} (h : vupd P t w m k v F) : ∃ w', (Instr.mapUpdate t m k v).run P w = .ok () w' ∧ F w' := by
  unfold vupd at h
  split at h
  · rename_i kt et r ht
    split at h
    · rename_i d hd
      cases hi : isIntD d with
      | false => simp [hi] at h
      | true =>
        simp only [hi, cond_true] at h
        obtain ⟨b, es, clock, rfl, hb, res, hf, hF⟩ := h
        refine ⟨_, ?_, hF⟩
        have hck := run_checkKey_int (P := P) (w := w) (k := k) false hd hi
        have hfk := MapKept.run_findKey (P := P) (w := w) hd hf
        cases res with
        | none =>
          simp only [Instr.mapUpdate, Sem.run_bind, run_underlying ht, Result.andThen_ok, MapKept.run_getObj_map hb, hck, hfk]
          simp [mapPut, MapKept.run_setObj_map _ hb, World.putObj]
        | some iv =>
          obtain ⟨i, u⟩ := iv
          obtain ⟨_, e, he, kd, x, hk, hek⟩ := findNow_at hi hf
          simp only [Nat.sub_zero] at he
          have hstay : (Instr.keyThatStays (((es[i]?).map (·.key)).getD k) k).run P w = .ok k w := by
            have : es[i]? = some e := by simpa using he
            rw [this]
            simp only [Option.map_some, Option.getD_some, hek, hk]
            simp [Instr.keyThatStays, Instr.sameBits]
          simp only [Instr.mapUpdate, Sem.run_bind, run_underlying ht, Result.andThen_ok, MapKept.run_getObj_map hb, hck, hfk, hstay]
          simp [mapPut, MapKept.run_setObj_map _ hb, World.putObj]
    · exact h.elim
  · exact h.elim

theorem del_sound {t t2 ty : TypeId} {m k : Value} {F : World → Prop} (h : vdel P t w m k F) : ∃ w', (Builtin.delete_ #[t, t2] ty #[m, k]).run P w = .ok (.tuple #[]) w' ∧ F w' := by
  unfold vdel at h
  split at h
  · rename_i kt et r ht
    split at h
    · rename_i d hd
      cases hi : isIntD d with
      | false => simp [hi] at h
      | true =>
        simp only [hi, cond_true] at h
        obtain ⟨b, es, clock, rfl, hb, res, hf, hF⟩ := h
        refine ⟨_, ?_, hF⟩
        have hck := run_checkKey_int (P := P) (w := w) (k := k) es.isEmpty hd hi
        have hfk := MapKept.run_findKey (P := P) (w := w) hd hf
        cases res with
        | none => simp [Builtin.delete_, run_underlying ht, MapKept.run_getObj_map hb, hck, hfk, mapCut, MapKept.run_setObj_map _ hb, World.putObj]
        | some iv => obtain ⟨i, u⟩ := iv; simp [Builtin.delete_, run_underlying ht, MapKept.run_getObj_map hb, hck, hfk, mapCut, MapKept.run_setObj_map _ hb, World.putObj]
    · exact h.elim
  · exact h.elim

theorem look_sound {t : TypeId} {m k : Value} {ok : Bool} {K : Value → Prop}
    (h : vlook P t w m k fun et res => match P.info? et with
      | some i => match i.zero with
        | some zero => tex (tyOf P et) fun v => ∃ b, lookRes res zero = (v, b) ∧ K (bif ok then .tuple #[v, .bool b] else v)
        | none => False
      | none => False) : ∃ v, (Instr.lookup t m k ok).run P w = .ok v w ∧ K v := by
  unfold vlook at h
  split at h
  · rename_i kt et r ht
    split at h
    · rename_i d hd
      cases hi : isIntD d with
      | false => simp [hi] at h
      | true =>
        simp only [hi, cond_true] at h
        obtain ⟨b, es, clock, rfl, hb, res, hf, hF⟩ := h
        have hck := run_checkKey_int (P := P) (w := w) (k := k) es.isEmpty hd hi
        have hfk := MapKept.run_findKey (P := P) (w := w) hd hf
        split at hF
        · rename_i i hi2
          split at hF
          · rename_i zero hz
            obtain ⟨v, bb, h1, h2⟩ := tex_elim hF
            refine ⟨_, ?_, h2⟩
            cases res with
            | none =>
              simp [lookRes] at h1; obtain ⟨rfl, rfl⟩ := h1
              cases ok <;> simp [Instr.lookup, run_underlying ht, MapKept.run_getObj_map hb, hck, hfk, run_zeroValue' hi2 hz]
            | some iv =>
              obtain ⟨j, u⟩ := iv
              simp [lookRes] at h1; obtain ⟨rfl, rfl⟩ := h1
              cases ok <;> simp [Instr.lookup, run_underlying ht, MapKept.run_getObj_map hb, hck, hfk]
          · exact hF.elim
        · exact hF.elim
    · exact h.elim
  · exact h.elim

end
end Rx
end Go.Proofs.YtkoipeddfbeliaaGreat

/-
  That each operation does in the model what 'vop' says: iterators, append, calls; and all of them together ('vop_sound').
-/
namespace Go.Proofs.YtkoipeddfbeliaaGreat
namespace Rx
open Go.RowKit

section
variable {P : Program} {o : Oper} {a : Act} {w w' : World} {next : Act → World → Prop} {Q : Exit → Act → World → Prop}

theorem run_getObj_iter {r : Nat} {m : Option Nat} {since stepped : Nat} {seen : Array Nat} (hb : w.heap[r]? = some (.mapIter m since seen stepped)) : (getObj r).run P w = .ok (.mapIter m since seen stepped) w := by
  simp [getObj, Sem.run, hb]
theorem run_setObj_iter {r : Nat} {m : Option Nat} {since stepped : Nat} {seen : Array Nat} (x : Obj) (hb : w.heap[r]? = some (.mapIter m since seen stepped)) : (setObj r x).run P w = .ok () (w.putObj r x) := by
  simp [setObj, Sem.run, hb, World.putObj]

theorem iter_elim {it : Value} {F : Nat → Nat → Nat → Array Nat → Nat → Array MapEntry → Nat → Prop} (h : viter w it F) :
    ∃ r s m since seen last es clock, it = .pointer (some ⟨r, 0, s⟩) ∧ w.heap[r]? = some (.mapIter (some m) since seen last) ∧ w.heap[m]? = some (.map es clock) ∧ F r m since seen last es clock := by
  unfold viter at h
  split at h
  · obtain ⟨r, s, m, since, seen, last, es, clock, rfl, h⟩ := h
    exact ⟨r, s, m, since, seen, last, es, clock, rfl, h⟩
  · exact h.elim

theorem cand_pos (since : Nat) (seen : Array Nat) (es : Array MapEntry) : 0 < (candidates since seen es).size := by
  unfold candidates
  simp only []
  split
  · simp; omega
  · rename_i h
    simp only [Array.size_append, Array.size_map, Array.size_empty]
    have : 0 < ((es.filter fun e => !seen.contains e.born).filter (·.born < since)).size := by
      rw [Nat.pos_iff_ne_zero]
      intro h0
      exact h (by simpa [Array.isEmpty] using h0)
    omega

theorem next_sound {it : Value} {ty : TypeId} {K : Value → World → Prop} (h : vnext w it fun b l w' => K (.tuple (.bool b :: l).toArray) w') : ∃ v w', (Instr.next it false ty).run P w = .ok v w' ∧ K v w' := by
  obtain ⟨r, s, m, since, seen, last, es, clock, rfl, hr, hm, hc, hF⟩ := iter_elim h
  have hpos := cand_pos since seen es
  have hch : ∃ i w1, (choose (.mapNext (candidates since seen es).size)).run P w = .ok i w1 ∧ i < (candidates since seen es).size ∧ (w1 = w ∨ w1 = w.drew) := by
    by_cases h1 : (candidates since seen es).size ≤ 1
    · exact ⟨0, w, by simp [Question.forced, h1], hpos, .inl rfl⟩
    · exact ⟨_, _, by simp [Question.forced, h1, Question.cut]; rfl, Nat.mod_lt _ hpos, .inr rfl⟩
  obtain ⟨i, w1, hrun, hi, hw1⟩ := hch
  have hmem : (candidates since seen es)[i] ∈ (candidates since seen es).toList := by simp
  have hF' := hF _ hmem w1 hw1
  have hr1 : w1.heap[r]? = some (.mapIter (some m) since seen last) := by rcases hw1 with rfl | rfl <;> exact hr
  have hget : (candidates since seen es)[i]? = some (candidates since seen es)[i] := Array.getElem?_eq_getElem hi
  have hunf : candidates since seen es = (if ((es.filter fun e => !seen.contains e.born).filter (·.born < since)).isEmpty then #[none] else #[]) ++ (((es.filter fun e => !seen.contains e.born).filter (·.born < since)) ++ ((es.filter fun e => !seen.contains e.born).filter (·.born ≥ since))).map some := rfl
  have key : (Instr.next (.pointer (some ⟨r, 0, s⟩)) false ty).run P w =
      ((do match (candidates since seen es)[← choose (.mapNext (candidates since seen es).size)]? with
        | some (some e) =>
          setObj r (.mapIter (some m) since (seen.push e.born) clock)
          pure (.tuple #[.bool true, e.key, e.val])
        | some none => pure (.tuple #[.bool false])
        | none => stuck "Next: no such candidate" : Sem Value)).run P w := by
    unfold Instr.next
    simp only [Sem.run_bind, run_getObj_iter hr, Result.andThen_ok, MapKept.run_getObj_map hm, hc, Bool.false_eq_true, if_false]
    rfl
  cases hcand : (candidates since seen es)[i] with
  | none =>
    rw [hcand] at hF'
    refine ⟨_, _, ?_, hF'⟩
    rw [key]
    simp only [Sem.run_bind, hrun, Result.andThen_ok, hget, hcand]
    rfl
  | some e =>
    rw [hcand] at hF'
    refine ⟨_, _, ?_, hF'⟩
    rw [key]
    simp only [Sem.run_bind, hrun, Result.andThen_ok, hget, hcand, run_setObj_iter _ hr1]
    rfl

theorem entry_sound {it : Value} {K : Value → World → Prop} (h : ventry w it fun k x => K (.tuple #[k, x]) w) : ∃ v, (Instr.entry it).run P w = .ok v w ∧ K v w := by
  obtain ⟨r, s, m, since, seen, last, es, clock, rfl, hr, hm, stamp, e, h1, h2, h3, h4⟩ := iter_elim h
  exact ⟨_, by simp [Instr.entry, run_getObj_iter hr, MapKept.run_getObj_map hm, h1, h2, h3], h4⟩

theorem range_sound {t kt et : TypeId} {r : Option Nat} {K : Value → World → Prop} (ht : P.underlying t = some (.map kt et))
    (h : vmap w r fun b _ clock => K (.pointer (some ⟨w.heap.size, 0, none⟩)) (w.alloc (.mapIter (some b) clock #[] clock))) : ∃ v w', (Instr.range t (.map r)).run P w = .ok v w' ∧ K v w' := by
  obtain ⟨b, es, clock, rfl, hb, h⟩ := h
  exact ⟨_, _, by simp [Instr.range, run_underlying ht, MapKept.run_getObj_map hb], h⟩

theorem append_sound {t t2 el el2 ty : TypeId} {p q : Option Addr} {n c m d : Nat} {F : Option Addr → Nat → Nat → World → Prop} (ht : P.underlying t = some (.slice el)) (ht2 : P.underlying t2 = some (.slice el2))
    (h : vappend P el w p n c q m F) : ∃ p' n' c' w', (Builtin.append_ #[t, t2] ty #[.slice p n c, .slice q m d]).run P w = .ok (.slice p' n' c') w' ∧ F p' n' c' w' := by
  obtain ⟨i, z, hi, hz, old, new, hnl, hq, hq0, hone, hroom, hgrow, hF⟩ := vzero_elim h
  have hsz : P.cellsOf el = i.size := cellsOf_eq hi
  have hby : P.bytesOf el = i.bytes := by simp [Program.bytesOf, hi]
  have hnew : ∀ w', (∀ x, q = some x → CellsAt w' x new) → (Builtin.firstCells (P.cellsOf el) m (.slice q m d)).run P w' = .ok new.toArray w' := by
    intro w' hq
    cases q with
    | none =>
      have : new = [] := List.eq_nil_of_length_eq_zero (by rw [hnl, hq0 rfl]; simp)
      subst this
      simp [Builtin.firstCells]
    | some x => exact run_firstCells_some w' _ m x m d new hnl (fun j v hj => hq x rfl j v hj)
  by_cases hfit : n + m ≤ c
  · refine ⟨p, n + m, c, _, ?_, hF p (n + m) c _ ⟨rfl, .inl ⟨hfit, rfl, rfl, rfl⟩⟩⟩
    cases p with
    | none => simp [Builtin.append_, run_underlying ht, run_underlying ht2, run_sizeOf' hi, Builtin.lenOf, hfit, hnew w hq]
    | some x =>
      have hst := run_storeCells (P := P) (x := x.add (n * P.cellsOf el)) new 0 w (fun j hj => by simpa using hroom hfit x rfl j (by omega)) hone
      simp [Builtin.append_, run_underlying ht, run_underlying ht2, run_sizeOf' hi, Builtin.lenOf, hfit, hnew w hq, hst]
  · obtain ⟨hb, hb0, hol, ho, ho0⟩ := hgrow (by omega)
    have hbig := growslice_fits (show c < n + m by omega) hb
    have hsmall : n + m ≤ 140737488355328 := by
      have := Nat.le_mul_of_pos_right (n + m) hb0
      omega
    have hold : ∀ w', (∀ x, p = some x → CellsAt w' x old) → (Builtin.firstCells (P.cellsOf el) n (.slice p n c)).run P w' = .ok old.toArray w' := by
      intro w' hp
      cases p with
      | none =>
        have : old = [] := List.eq_nil_of_length_eq_zero (by rw [hol, ho0 rfl]; simp)
        subst this
        simp [Builtin.firstCells]
      | some x => exact run_firstCells_some w' _ n x n c old hol (fun j v hj => hp x rfl j v hj)
    have hcap : n + m ≤ (Question.appendCap (n + m) c el).cut (w.tape w.drawn (.appendCap (n + m) c el)) ∧ (Question.appendCap (n + m) c el).cut (w.tape w.drawn (.appendCap (n + m) c el)) < 2 ^ 63 := by
      have hlt := Nat.mod_lt (w.tape w.drawn (.appendCap (n + m) c el)) (show 0 < 2 ^ 63 - (n + m) by omega)
      simp only [Question.cut]
      omega
    refine ⟨_, _, _, _, ?_, hF _ _ _ _ ⟨rfl, .inr ⟨by omega, hcap.1, hcap.2, rfl, rfl⟩⟩⟩
    have hk1 : ¬ (((n + m : Nat) : Int) > IntKind.i64.max ∧ (False ∨ i.bytes = 0)) := by
      intro hh; rcases hh.2 with hh | hh
      · exact hh
      · omega
    have hk2 : ¬ (Builtin.nextslicecap (n + m) c * i.bytes > 2 ^ 48) := by rw [← hby]; simpa using hbig
    have hi0 : i.bytes ≠ 0 := by omega
    have e1 : (Builtin.firstCells (P.cellsOf el) n (.slice p n c)).run P w.drew = .ok old.toArray w.drew := hold w.drew ho
    have e2 : (Builtin.firstCells (P.cellsOf el) m (.slice q m d)).run P w.drew = .ok new.toArray w.drew := hnew w.drew hq
    simp [Builtin.append_, run_underlying ht, run_underlying ht2, run_sizeOf' hi, Builtin.lenOf, hfit, typeInfo, hi, hi0, hk2, Question.forced, e1, e2, run_zeroValue' hi hz, newRow]
    have : old.toArray ++ new.toArray = (old ++ new).toArray := by simp
    rw [← Array.append_assoc, this]

theorem clear_sound {t ty el : TypeId} {p : Option Addr} {n c : Nat} {F : World → Prop} (ht : P.underlying t = some (.slice el)) (h : vclear P el w p n F) :
    ∃ w', (Builtin.clear_ #[t] ty #[.slice p n c]).run P w = .ok (.tuple #[]) w' ∧ F w' := by
  obtain ⟨i, z, hi, hz, hr, h1, hF⟩ := vzero_elim h
  refine ⟨_, ?_, hF⟩
  cases p with
  | none => simp [Builtin.clear_, run_underlying ht]
  | some x =>
    cases n with
    | zero =>
      have : (Builtin.zeroCells z.cells 0).toList = [] := by simp [Builtin.zeroCells]
      simp [Builtin.clear_, run_underlying ht, this, putCells]
    | succ n =>
      have hzs : (Builtin.zeroCells z.cells (n + 1)).toList.length = (n + 1) * z.cells.size := by simp [Builtin.zeroCells]
      have hst := run_storeCells (P := P) (x := x) (Builtin.zeroCells z.cells (n + 1)).toList 0 w (fun j hj => by simpa using hr x rfl j (by omega)) (fun v hv => by
        simp only [Builtin.zeroCells, Array.toList_map, Array.toList_range, List.mem_map, List.mem_range] at hv
        obtain ⟨k, hk, rfl⟩ := hv
        have hpos : 0 < z.cells.size := by
          rcases Nat.eq_zero_or_pos z.cells.size with h0 | h0
          · rw [h0] at hk; simp at hk
          · exact h0
        have hlt := Nat.mod_lt k hpos
        rw [getElem!_pos z.cells _ hlt]
        exact h1 _ (by simp))
      simp [Builtin.clear_, run_underlying ht, run_zeroValue' hi hz, hst]

theorem builtin_sound {b : Builtin} {ts : Array TypeId} {ty : TypeId} {cs : Array Bool} {args : List Value} {K : Value → World → Prop} (h : vbuiltin P b ts.toList args w K) :
    ∃ v w', (builtin b ts ty cs args.toArray).run P w = .ok (.value v) w' ∧ K v w' := by
  unfold vbuiltin at h
  split at h
  · rename_i t ts' x rest hts
    have h0 : ts[0]? = some t := by rw [← Array.getElem?_toList, hts]; rfl
    split at h
    · rename_i hu; exact ⟨_, _, by simp [builtin, Builtin.len_, h0, run_underlying hu, goInt], h⟩
    · rename_i hu; exact ⟨_, _, by simp [builtin, Builtin.len_, h0, run_underlying hu, goInt], h⟩
    · rename_i hu
      obtain ⟨b, es, clock, rfl, hb, h⟩ := h
      exact ⟨_, _, by simp [builtin, Builtin.len_, h0, run_underlying hu, goInt, MapKept.run_getObj_map hb], h⟩
    · exact h.elim
  · exact ⟨_, _, by simp [builtin, Builtin.min_, Builtin.min2], h⟩
  · exact ⟨_, _, by simp [builtin, Builtin.max_, Builtin.max2], h⟩
  · rename_i t t2 ts' p n c q m d hts
    have hts' : ts = ((t :: t2 :: ts').toArray) := by rw [← hts]
    split at h
    · rename_i el el2 h1 h2
      obtain ⟨p', n', c', w', h3, h4⟩ := append_sound (t2 := t2) (ty := ty) (d := d) h1 h2 h
      have : Builtin.append_ ts ty #[.slice p n c, .slice q m d] = Builtin.append_ #[t, t2] ty #[.slice p n c, .slice q m d] := by
        simp [Builtin.append_, hts']
      exact ⟨_, _, by simp [builtin, this, h3], h4⟩
    · exact h.elim
  · rename_i t ts' m k hts
    have hts' : ts = ((t :: ts').toArray) := by rw [← hts]
    obtain ⟨w', h1, h2⟩ := del_sound (t2 := 0) (ty := ty) h
    have : Builtin.delete_ ts ty #[m, k] = Builtin.delete_ #[t, 0] ty #[m, k] := by simp [Builtin.delete_, hts']
    exact ⟨_, _, by simp [builtin, this, h1], h2⟩
  · rename_i t ts' p n c hts
    have hts' : ts = ((t :: ts').toArray) := by rw [← hts]
    split at h
    · rename_i el h1
      obtain ⟨w', h2, h3⟩ := clear_sound (ty := ty) (c := c) h1 h
      have : Builtin.clear_ ts ty #[.slice p n c] = Builtin.clear_ #[t] ty #[.slice p n c] := by simp [Builtin.clear_, hts']
      exact ⟨_, _, by simp [builtin, this, h2], h3⟩
    · exact h.elim
  · exact h.elim

end
end Rx
end Go.Proofs.YtkoipeddfbeliaaGreat

/-
  All operations together: 'vop_sound'. And a region in the order of its text: 'vops_sound'.
-/
namespace Go.Proofs.YtkoipeddfbeliaaGreat
namespace Rx
open Go.RowKit

section
variable {P : Program} {o : Oper} {a : Act} {w w' : World} {next : Act → World → Prop} {Q : Exit → Act → World → Prop}

theorem callFunc_run {g : FuncId} {args : Array Value} (h : goodFn P g = true) : (callFunc g args).run P w = .ok (.enter g args) w := by
  unfold goodFn at h
  split at h
  · rename_i fn hfn
    simp only [Bool.and_eq_true, Bool.not_eq_true'] at h
    have hn : ¬ (fn.name = "runtime.NumGoroutine") := by simpa using h.1
    have hb2 : ¬ (fn.body = none) := by intro hh; rw [hh] at h; simp at h
    simp [callFunc, hfn, hn, hb2]
  · cases h

theorem vcalld_sound {g : FuncId} {args : List Value} {R : Ending → World → Prop} (h : vcalld P g args w R) : goodFn P g = true ∧ Calls P g args.toArray w R := by
  unfold vcalld at h
  cases hg : goodFn P g with
  | false => simp [hg] at h
  | true => simp [hg] at h; exact ⟨rfl, h⟩

theorem vres_elim {ty : TypeId} {R : Value → Prop} (h : vres P ty R) : ∃ v, R v := by
  unfold vres at h
  split at h
  · obtain ⟨vs, h⟩ := texL_elim h; exact ⟨_, h⟩
  · exact tex_elim h

theorem guard_ok {op : BinOp} {t : TypeId} {ox oy : Operand} {x y : Value} {F : Value → Prop} (h : vbin P op t x y F) : (eqGuard op t ox oy x y).run P w = .ok () w := by
  unfold eqGuard
  cases x <;> cases y <;> first
    | (simp [vbin] at h; done)
    | (cases op <;> rfl)

theorem vop_sound {e : Env} {K : Value → World → Prop} (hR : Rel e a) (h : vop P e o w K) (hK : ∀ v w', K v w' → next (a.put o.dst v) w') : o.wp P a w next Q := by
  obtain ⟨dst, op, type, pos, after, guard⟩ := o
  cases op <;> simp only [vop] at h
  case move x => exact wp_val (w' := w) (by simp [execOp]) (hK _ _ (v1_elim hR h))
  case assign x => exact wp_val (w' := w) (by simp [execOp]) (hK _ _ (v1_elim hR h))
  case pick c x y =>
    obtain ⟨t, ht, h⟩ := asBool_elim (v1_elim hR (v1_elim hR (v1_elim hR h)))
    cases t with
    | true => exact wp_val (w' := w) (by simp [execOp, ht, Go.asBool]) (hK _ _ h)
    | false => exact wp_val (w' := w) (by simp [execOp, ht, Go.asBool]) (hK _ _ h)
  case alloc t =>
    obtain ⟨i, z, hi, hz, h⟩ := vzero_elim h
    exact wp_val (by simp [execOp, Instr.alloc, run_zeroValue' hi hz, newVar, newRow]) (hK _ _ h)
  case box t x => exact wp_val (by simp [execOp, Instr.box, newVar, newRow]) (hK _ _ (v1_elim hR h))
  case build t ps =>
    have h := vP_elim hR h
    split at h
    · rename_i fs ht
      cases hf : fieldsOk P fs with
      | false => simp [hf] at h
      | true =>
        simp only [hf, cond_true] at h
        obtain ⟨v, h1, h2⟩ := build_sound (P := P) (w := w) (K := fun v => K v w) ht (fieldsOk_elim hf) h
        have : (ps.map fun p : Nat × Operand => (p.1, a.eval p.2)) = (ps.toList.map fun p => (p.1, a.eval p.2)).toArray := by apply Array.ext'; simp
        refine wp_val (w' := w) (v := v) ?_ (hK _ _ h2)
        simp only [execOp]
        rw [show (ps.map fun (x : Nat × Operand) => match x with | (i, x) => (i, a.eval x)) = (ps.toList.map fun p => (p.1, a.eval p.2)).toArray from this]
        simp [h1]
    · exact h.elim
  case buildSlice t n ps =>
    have h := vP_elim hR h
    split at h
    · rename_i el ht
      cases hf : (Nat.beq (ps.toList.map fun p => (p.1, a.eval p.2)).length n && Nat.ble (n * P.cellsOf el) 1000) with
      | false => rw [hf] at h; exact h.elim
      | true =>
        rw [hf] at h
        simp only [cond_true] at h
        simp only [Bool.and_eq_true] at hf
        obtain ⟨v, w', h1, h2⟩ := buildSlice_sound (P := P) (w := w) ht (Nat.eq_of_beq_eq_true hf.1) (Nat.le_of_ble_eq_true hf.2) h
        have : (ps.map fun p : Nat × Operand => (p.1, a.eval p.2)) = (ps.toList.map fun p => (p.1, a.eval p.2)).toArray := by apply Array.ext'; simp
        refine wp_val (w' := w') (v := v) ?_ (hK _ _ h2)
        simp only [execOp]
        rw [show (ps.map fun (x : Nat × Operand) => match x with | (i, x) => (i, a.eval x)) = (ps.toList.map fun p => (p.1, a.eval p.2)).toArray from this]
        simp [h1]
    · exact h.elim
  case load t x =>
    obtain ⟨b, hb, h⟩ := asAddr_elim (v1_elim hR h)
    obtain ⟨h1, h2⟩ := known_elim h
    obtain ⟨v, h3, h4⟩ := load_sound h1 h2
    exact wp_val (w' := w) (by simp [execOp, Instr.loadAt, Instr.sureAddr, hb, h3]) (hK _ _ h4)
  case store t x y =>
    obtain ⟨b, hb, h⟩ := asAddr_elim (v1_elim hR (v1_elim hR h))
    obtain ⟨⟨d, h1⟩, h2⟩ := known_elim h
    obtain ⟨w', h3, h4⟩ := store_sound (info_of_underlying h1) h2
    exact wp_skp (by simp [execOp, Instr.storeAt, Instr.sureAddr, hb, h3]) (hK _ _ h4)
  case nilCheck x =>
    have h := v1_elim hR h
    split at h
    · rename_i p hp
      cases p with
      | none => exact h.elim
      | some b => exact wp_val (w' := w) (by simp [execOp, hp]) (hK _ _ h)
    · rename_i hp; exact wp_val (w' := w) (by simp [execOp, hp]) (hK _ _ h)
    · exact h.elim
  case binOp op t x y yt =>
    have h := v1_elim hR (v1_elim hR h)
    obtain ⟨v, h1, h2⟩ := bin_sound (P := P) (w := w) h
    have h3 := guard_ok (P := P) (w := w) (ox := x) (oy := y) h
    exact wp_val (w' := w) (by simp [execOp, h3, h1]) (hK _ _ h2)
  case unOp op t x =>
    obtain ⟨v, h1, h2⟩ := un_sound (P := P) (w := w) (v1_elim hR h)
    exact wp_val (by simp [execOp, h1]) (hK _ _ h2)
  case convert s d x =>
    obtain ⟨h1, h2⟩ := known_elim (v1_elim hR h)
    obtain ⟨v, h3, h4⟩ := conv_sound (P := P) (w := w) h1 h2
    exact wp_val (w' := w) (by simp [execOp, h3]) (hK _ _ h4)
  case makeFunc fn f c =>
    have h := vN_elim hR (vN_elim hR h)
    refine wp_val (w' := w) ?_ (hK _ _ h)
    simp only [execOp, Instr.makeFunc]
    have e1 : ∀ xs : Array Operand, xs.map a.eval = (xs.toList.map a.eval).toArray := fun xs => by apply Array.ext'; simp
    simp [e1]
  case makeMap t r =>
    cases r with
    | none => exact wp_val (by simp [execOp, Instr.makeMap]) (hK _ _ h)
    | some r => exact h.elim
  case slice t x lo hi mx =>
    obtain ⟨el, p, n, c, ht, hx, h⟩ := asSlice_elim (vopt_elim hR (vopt_elim hR (vopt_elim hR (v1_elim hR h))))
    obtain ⟨⟨d, h1⟩, h2⟩ := known_elim h
    obtain ⟨p', n', c', h3, h4⟩ := slice_sound (P := P) (w := w) ht (info_of_underlying h1) h2
    exact wp_val (w' := w) (by simp [execOp, hx, h3]) (hK _ _ h4)
  case fieldAddr t x f =>
    obtain ⟨b, hb, h⟩ := asAddr_elim (v1_elim hR h)
    obtain ⟨fs, fd, ht, hfd, h⟩ := asField_elim h
    cases hz : Nat.beq (P.cellsOf fd.type) 0 with
    | true => simp [hz] at h
    | false =>
      simp only [hz, cond_false] at h
      have hne : ¬ (P.cellsOf fd.type = 0) := by intro hh; rw [hh] at hz; simp at hz
      obtain ⟨i, hi⟩ : ∃ i, P.info? fd.type = some i := by
        cases hi : P.info? fd.type with
        | some i => exact ⟨i, rfl⟩
        | none => exact absurd (by simp [Program.cellsOf, hi]) hne
      exact wp_val (w' := w) (by simp [execOp, Instr.fieldAt, run_underlying ht, hfd, Instr.sureAddr, hb, fieldPlace, run_sizeOf' hi, hne]) (hK _ _ h)
  case field t x f =>
    obtain ⟨cs, hcs, h⟩ := asAgg_elim (v1_elim hR h)
    obtain ⟨fs, fd, ht, hfd, h⟩ := asField_elim h
    have hp : ∃ v, (part fd.type cs fd.offset).run P w = .ok v w ∧ K v w := by
      unfold asPart at h
      split at h
      · rename_i n hty
        obtain ⟨h1, h2, i, hi⟩ := run_isAgg_agg (P := P) (w := w) hty
        exact ⟨_, by simp [part, h1, run_sizeOf' hi], h2 ▸ h⟩
      · rename_i hno
        obtain ⟨⟨d, hd⟩, h2⟩ := known_elim h
        rcases tyOf_cases P fd.type with ⟨m, h1, _⟩ | ⟨_, h1⟩
        · exact absurd h1 (hno m)
        · have hag := run_isAgg_no (P := P) (w := w) hd (h1 d hd).1 (h1 d hd).2
          obtain ⟨v, h3, h4⟩ := tex_elim h2
          exact ⟨v, by simp [part, hag, h3], h4⟩
    obtain ⟨v, h1, h2⟩ := hp
    exact wp_val (w' := w) (by simp [execOp, Instr.field, run_underlying ht, hfd, hcs, Go.asAgg, h1]) (hK _ _ h2)
  case indexAddr t x i =>
    obtain ⟨k, i, hi, h⟩ := asInt_elim (v1_elim hR (v1_elim hR h))
    obtain ⟨el, p, n, c, ht, hx, h⟩ := asSlice_elim h
    obtain ⟨⟨d, hd⟩, b, rfl, h1, h2, h3⟩ := known_elim h
    obtain ⟨j, hj⟩ := info_of_underlying hd
    exact wp_val (w' := w) (by simp [execOp, Instr.indexAt, run_underlying ht, hx, hi, asIntOf, h1, h2, run_sizeOf' hj]) (hK _ _ h3)
  case index t x i =>
    obtain ⟨k, i, hi, h⟩ := asInt_elim (v1_elim hR (v1_elim hR h))
    obtain ⟨s, ht, hx, h1, b, h2, h3⟩ := asStr_elim h
    exact wp_val (w' := w) (by simp [execOp, Instr.index, run_underlying ht, hx, hi, asIntOf, h1, h2]) (hK _ _ h3)
  case lookup t m k ok =>
    have h := v1_elim hR (v1_elim hR h)
    obtain ⟨v, h1, h2⟩ := look_sound (K := fun v => K v w) h
    exact wp_val (by simp [execOp, h1]) (hK _ _ h2)
  case mapUpdate t m k v =>
    have h := v1_elim hR (v1_elim hR (v1_elim hR h))
    obtain ⟨w', h1, h2⟩ := upd_sound h
    exact wp_skp (by simp [execOp, h1]) (hK _ _ h2)
  case range t x =>
    obtain ⟨kt, et, r, ht, hr, h⟩ := asMap_elim (v1_elim hR h)
    obtain ⟨v, w', h1, h2⟩ := range_sound ht h
    exact wp_val (by simp [execOp, hr, h1]) (hK _ _ h2)
  case next it s =>
    cases s with
    | true => exact (show False from h).elim
    | false =>
      have h : v1 e it fun it => vnext w it fun b l w' => K (.tuple (.bool b :: l).toArray) w' := h
      obtain ⟨v, w', h1, h2⟩ := next_sound (P := P) (ty := type) (v1_elim hR h)
      exact wp_val (by simp [execOp, h1]) (hK _ _ h2)
  case entry it =>
    obtain ⟨v, h1, h2⟩ := entry_sound (P := P) (K := K) (v1_elim hR h)
    exact wp_val (by simp [execOp, h1]) (hK _ _ h2)
  case extract t i =>
    have h := v1_elim hR h
    split at h
    · rename_i vs hvs
      split at h
      · rename_i v hv
        exact wp_val (w' := w) (by simp [execOp, Instr.extract, hvs, hv]) (hK _ _ h)
      · exact h.elim
    · exact h.elim
  case call c =>
    obtain ⟨callee, args, argTypes⟩ := c
    have e1 : args.map a.eval = (args.toList.map a.eval).toArray := by apply Array.ext'; simp
    have h := vN_elim hR h
    have ent : ∀ (g : FuncId) (xs : List Value), (execOp a.eval { dst, op := .call { callee, args, argTypes }, type, pos, after, guard }).run P w = (callFunc g xs.toArray).run P w →
        vcalld P g xs w (fun en w' => vres P type fun v => en = .returned v ∧ K v w') → Oper.wp P { dst, op := .call { callee, args, argTypes }, type, pos, after, guard } a w next Q := by
      intro g xs hrun hc
      obtain ⟨hg, hc⟩ := vcalld_sound hc
      refine wp_ent (hrun.trans (callFunc_run hg)) hc ?_
      intro en w' hr
      obtain ⟨v, rfl, hv⟩ := vres_elim hr
      exact ⟨v, rfl, hK _ _ hv⟩
    cases callee with
    | builtin b =>
      obtain ⟨v, w', h1, h2⟩ := builtin_sound (ty := type) (cs := args.map fun | .const _ => true | _ => false) h
      refine wp_val ?_ (hK _ _ h2)
      simp only [execOp, resolve, Sem.run_bind, Sem.run_pure, Result.andThen_ok, invoke, e1]
      exact h1
    | invoke r m => exact h.elim
    | value f =>
      have val : ∀ fv, a.eval f = fv → vcallv P fv (args.toList.map a.eval) w (fun en w' => vres P type fun v => en = .returned v ∧ K v w') →
          Oper.wp P { dst, op := .call { callee := .value f, args, argTypes }, type, pos, after, guard } a w next Q := by
        intro fv hfv hv
        unfold vcallv at hv
        split at hv
        · rename_i g first cap
          refine ent g _ ?_ hv
          simp only [execOp, resolve, Deferred.ofValue, hfv, e1, Sem.run_bind, Sem.run_pure, Result.andThen_ok, invoke]
          congr 2
          apply Array.ext'; simp
        · exact hv.elim
      cases f with
      | func g =>
        refine ent g _ ?_ h
        simp only [execOp, resolve, Deferred.ofValue, e1, Sem.run_bind, Sem.run_pure, Result.andThen_ok, invoke, Act.eval]
        congr 2
        apply Array.ext'; simp
      | _ => exact val _ rfl (v1_elim hR h)
  all_goals exact h.elim

end
end Rx
end Go.Proofs.YtkoipeddfbeliaaGreat

/-
  What an operation leaves alone, by its kind: some compute (0), some read (1), some make a block (2), others write (3). For regions whose order is drawn.
-/
namespace Go.Proofs.YtkoipeddfbeliaaGreat
namespace Rx
open Go.RowKit

def cls (op : Op) : Nat :=
  match op with
  | .move _ | .assign _ | .pick .. | .build .. | .nilCheck _ | .binOp .. | .unOp .. | .makeFunc .. | .slice .. | .fieldAddr .. | .field .. | .indexAddr .. | .index .. | .extract .. => 0
  | .load .. | .lookup .. | .convert .. => 1
  | .call ⟨.builtin .len, _, _⟩ => 1
  | .call ⟨.builtin .min, _, _⟩ | .call ⟨.builtin .max, _, _⟩ => 0
  | .alloc _ | .box .. | .buildSlice .. | .makeMap .. => 2
  | _ => 3

/-- all blocks that are there stay as they are -/
def Ext (w w' : World) : Prop := ∀ (b : Nat) (o : Obj), w.heap[b]? = some o → w'.heap[b]? = some o

theorem Ext.refl (w : World) : Ext w w := fun _ _ h => h
theorem Ext.trans {a b c : World} (h : Ext a b) (g : Ext b c) : Ext a c := fun k o hk => g k o (h k o hk)
theorem Ext.alloc (w : World) (o : Obj) : Ext w (w.alloc o) := fun b x h => by
  have hlt : b < w.heap.size := (Array.getElem?_eq_some_iff.1 h).1
  show (w.heap.push o)[b]? = some x
  rw [Array.getElem?_push, if_neg (by omega)]; exact h
theorem Ext.cell {w w' : World} (h : Ext w w') {a : Addr} {v : Value} (hc : w.cell? a = some v) : w'.cell? a = some v := by
  unfold World.cell? at hc ⊢
  cases hb : w.heap[a.block]? with
  | none => simp [hb] at hc
  | some o => rw [h _ _ hb]; simpa [hb] using hc
theorem Ext.cells {w w' : World} (h : Ext w w') {a : Addr} {vs : List Value} (hc : CellsAt w a vs) : CellsAt w' a vs := fun j v hj => h.cell (hc j v hj)

section
variable {P : Program} {o : Oper} {e : Env} {w w' : World}

/-- a condition that fixes its value -/
def Fixed {α : Type} (V : (α → Prop) → Prop) : Prop := ∀ F, V F → ∃ v, F v ∧ ∀ F', F' v → V F'

theorem v1_some {x : Operand} {F : Value → Prop} (h : v1 e x F) : ∃ v, ev e x = some v ∧ F v := by
  unfold v1 at h
  split at h
  · exact ⟨_, ‹_›, h⟩
  · exact h.elim
theorem v1_mk {x : Operand} {F : Value → Prop} {v : Value} (hx : ev e x = some v) (h : F v) : v1 e x F := by unfold v1; rw [hx]; exact h

theorem vN_some : ∀ {xs : List Operand} {F : List Value → Prop}, vN e xs F → ∃ vs, F vs ∧ ∀ F' : List Value → Prop, F' vs → vN e xs F'
  | [], F, h => ⟨[], h, fun _ h => h⟩
  | x :: xs, F, h => by
    obtain ⟨v, hv, h⟩ := v1_some h
    obtain ⟨vs, h1, h2⟩ := vN_some h
    exact ⟨v :: vs, h1, fun F' hF => v1_mk hv (h2 _ hF)⟩
theorem vP_some : ∀ {xs : List (Nat × Operand)} {F : List (Nat × Value) → Prop}, vP e xs F → ∃ vs, F vs ∧ ∀ F' : List (Nat × Value) → Prop, F' vs → vP e xs F'
  | [], F, h => ⟨[], h, fun _ h => h⟩
  | (i, x) :: xs, F, h => by
    obtain ⟨v, hv, h⟩ := v1_some h
    obtain ⟨vs, h1, h2⟩ := vP_some h
    exact ⟨(i, v) :: vs, h1, fun F' hF => v1_mk hv (h2 _ hF)⟩
theorem vopt_some {x : Option Operand} {F : Option Value → Prop} (h : vopt e x F) : ∃ v, F v ∧ ∀ F' : Option Value → Prop, F' v → vopt e x F' := by
  cases x with
  | none => exact ⟨none, h, fun _ h => h⟩
  | some x =>
    obtain ⟨v, hv, h⟩ := v1_some h
    exact ⟨some v, h, fun F' hF => v1_mk hv hF⟩

theorem vbin_fixed {op : BinOp} {t : TypeId} {x y : Value} : Fixed (vbin P op t x y) := by
  intro F h
  unfold vbin at h ⊢
  split at h
  · cases op <;> simp only [vsame, vnz] at h ⊢ <;> first
      | exact h.elim
      | exact ⟨_, h.2, fun F' hF => ⟨h.1, hF⟩⟩
      | (rename_i k _ k' _
         cases hk : kindEq k k' with
         | false => simp [hk] at h
         | true =>
           simp only [hk, cond_true] at h ⊢
           first
             | exact ⟨_, h.2, fun F' hF => ⟨h.1, hF⟩⟩
             | exact ⟨_, h, fun F' hF => hF⟩)
  all_goals first | exact h.elim | (split at h <;> first | exact ⟨_, h, fun F' hF => hF⟩ | exact h.elim)

theorem vun_fixed {op : UnOp} {x : Value} : Fixed (vun op x) := by
  intro F h
  unfold vun at h ⊢
  split at h
  · exact ⟨_, h, fun _ h => h⟩
  · exact ⟨_, h, fun _ h => h⟩
  · exact h.elim

theorem vbnd_fixed {v : Option Value} {d y : Nat} : Fixed (vbnd v d y) := by
  intro F h
  unfold vbnd at h ⊢
  split at h
  · exact ⟨_, h, fun _ h => h⟩
  · exact ⟨_, h.2.2, fun _ h' => ⟨h.1, h.2.1, h'⟩⟩
  · exact h.elim

theorem vopen_some : ∀ {n : Nat} {cs : List Value} {K : List Value → Prop}, vopen n cs K → K cs ∧ ∀ K' : List Value → Prop, K' cs → vopen n cs K'
  | 0, cs, K, h => by obtain ⟨rfl, h⟩ := h; exact ⟨h, fun K' hK => ⟨rfl, hK⟩⟩
  | n + 1, cs, K, h => by
    obtain ⟨c, rest, rfl, h⟩ := h
    obtain ⟨h1, h2⟩ := vopen_some h
    exact ⟨h1, fun K' hK => ⟨c, rest, rfl, h2 _ hK⟩⟩

theorem vfill_fixed {fs : Array Field} : ∀ {ps : List (Nat × Value)} {cs : List Value}, Fixed (vfill P fs ps cs)
  | [], cs => fun F h => ⟨cs, h, fun _ h => h⟩
  | (i, v) :: rest, cs => by
    intro F h
    simp only [vfill] at h ⊢
    cases hf : fs[i]? with
    | none => simp [hf] at h
    | some f =>
      simp only [hf] at h ⊢
      cases hb : Nat.ble (f.offset + P.cellsOf f.type) cs.length with
      | false => simp [hb] at h
      | true =>
        simp only [hb, cond_true] at h ⊢
        have one : ∀ v' : Value, (bif isOne v' && Nat.beq (P.cellsOf f.type) 1 then vfill P fs rest (cs.set f.offset v') F else False) →
            ∃ l, F l ∧ ∀ F' : List Value → Prop, F' l → (bif isOne v' && Nat.beq (P.cellsOf f.type) 1 then vfill P fs rest (cs.set f.offset v') F' else False) := by
          intro v' hh
          cases h1 : (isOne v' && Nat.beq (P.cellsOf f.type) 1) with
          | false => rw [h1] at hh; exact hh.elim
          | true =>
            rw [h1] at hh
            obtain ⟨l, h2, h3⟩ := vfill_fixed F hh
            exact ⟨l, h2, fun F' hF => h3 F' hF⟩
        cases v with
        | agg xs =>
          obtain ⟨h1, h2⟩ := vopen_some h
          obtain ⟨l, h3, h4⟩ := vfill_fixed F h1
          exact ⟨l, h3, fun F' hF => h2 _ (h4 F' hF)⟩
        | _ => exact one _ h

theorem vzero_some {t : TypeId} {F : Array Value → Prop} (h : vzero P t F) : ∃ z, F z ∧ ∀ F' : Array Value → Prop, F' z → vzero P t F' := by
  obtain ⟨i, z, hi, hz, h⟩ := vzero_elim h
  exact ⟨z.cells, h, fun F' hF => by unfold vzero; simp only [hi, hz]; exact hF⟩

theorem tex_fixed {t : Ty} {K : Value → Prop} (h : tex t K) : ∃ v, K v ∧ ∀ K' : Value → Prop, K' v → tex t K' := by
  cases t <;> simp only [tex] at h ⊢
  case agg n => obtain ⟨cs, h1, h⟩ := h; exact ⟨_, h, fun K' hK => ⟨cs, h1, hK⟩⟩
  case slice => obtain ⟨a, n, c, h⟩ := h; exact ⟨_, h, fun K' hK => ⟨a, n, c, hK⟩⟩
  all_goals (obtain ⟨x, h⟩ := h; exact ⟨_, h, fun K' hK => ⟨x, hK⟩⟩)

theorem vbuiltin_pure {b : Builtin} {ts : List TypeId} {args : List Value} {K : Value → World → Prop} (hb : b = .min ∨ b = .max) (h : vbuiltin P b ts args w K) :
    ∃ v, K v w ∧ ∀ w' (K' : Value → World → Prop), K' v w' → vbuiltin P b ts args w' K' := by
  rcases hb with rfl | rfl
  · unfold vbuiltin at h
    split at h <;> first | exact h.elim | (exact ⟨_, h, fun w' K' hK => hK⟩) | (exfalso; simp_all; done)
  · unfold vbuiltin at h
    split at h <;> first | exact h.elim | (exact ⟨_, h, fun w' K' hK => hK⟩) | (exfalso; simp_all; done)

theorem vop_pure {K : Value → World → Prop} (hc : cls o.op = 0) (h : vop P e o w K) : ∃ v, K v w ∧ ∀ w' (K' : Value → World → Prop), K' v w' → vop P e o w' K' := by
  obtain ⟨dst, op, type, pos, after, guard⟩ := o
  cases op <;> (try (exfalso; simp [cls] at hc; done)) <;> simp only [vop] at h ⊢
  case move x => obtain ⟨v, hv, h⟩ := v1_some h; exact ⟨v, h, fun w' K' hK => v1_mk hv hK⟩
  case assign x => obtain ⟨v, hv, h⟩ := v1_some h; exact ⟨v, h, fun w' K' hK => v1_mk hv hK⟩
  case pick c x y =>
    obtain ⟨u, hu, h⟩ := v1_some h
    obtain ⟨v1', hv1, h⟩ := v1_some h
    obtain ⟨v2, hv2, h⟩ := v1_some h
    obtain ⟨t, rfl, h⟩ := asBool_elim h
    cases t with
    | true => exact ⟨v1', h, fun w' K' hK => v1_mk hu (v1_mk hv1 (v1_mk hv2 hK))⟩
    | false => exact ⟨v2, h, fun w' K' hK => v1_mk hu (v1_mk hv1 (v1_mk hv2 hK))⟩
  case build t ps =>
    obtain ⟨vs, h, g⟩ := vP_some h
    cases ht : P.underlying t with
    | none => simp [ht] at h
    | some d =>
      cases d <;> simp only [ht] at h <;> (try exact h.elim)
      rename_i fs
      cases hf : fieldsOk P fs with
      | false => simp [hf] at h
      | true =>
        simp only [hf, cond_true] at h
        obtain ⟨z, h1, h2⟩ := vzero_some h
        obtain ⟨l, h3, h4⟩ := vfill_fixed _ h1
        refine ⟨_, h3, fun w' K' hK => g _ ?_⟩
        simp only [hf, cond_true]
        exact h2 _ (h4 _ hK)
  case nilCheck x =>
    obtain ⟨v, hv, h⟩ := v1_some h
    split at h
    · rename_i p
      cases p with
      | none => exact h.elim
      | some b => exact ⟨_, h, fun w' K' hK => v1_mk hv hK⟩
    · exact ⟨_, h, fun w' K' hK => v1_mk hv hK⟩
    · exact h.elim
  case binOp op t x y yt =>
    obtain ⟨u, hu, h⟩ := v1_some h
    obtain ⟨v, hv, h⟩ := v1_some h
    obtain ⟨r, h1, h2⟩ := vbin_fixed _ h
    exact ⟨r, h1, fun w' K' hK => v1_mk hu (v1_mk hv (h2 _ hK))⟩
  case unOp op t x =>
    obtain ⟨u, hu, h⟩ := v1_some h
    obtain ⟨r, h1, h2⟩ := vun_fixed _ h
    exact ⟨r, h1, fun w' K' hK => v1_mk hu (h2 _ hK)⟩
  case makeFunc fn f c =>
    obtain ⟨fs, h, g1⟩ := vN_some h
    obtain ⟨cs, h, g2⟩ := vN_some h
    exact ⟨_, h, fun w' K' hK => g1 _ (g2 _ hK)⟩
  case slice t x lo hi mx =>
    obtain ⟨u, hu, h⟩ := v1_some h
    obtain ⟨lo', h, g1⟩ := vopt_some h
    obtain ⟨hi', h, g2⟩ := vopt_some h
    obtain ⟨mx', h, g3⟩ := vopt_some h
    obtain ⟨el, p, n, c, ht, hxe, h4⟩ := asSlice_elim h
    subst hxe
    obtain ⟨hd, h5⟩ := known_elim h4
    clear h h4
    rename _ => h
    unfold vslice at h
    split at h
    · exact h.elim
    · rename_i hno
      obtain ⟨m, h, g5⟩ := vbnd_fixed _ h
      obtain ⟨hh, h, g6⟩ := vbnd_fixed _ h
      obtain ⟨l, h, g7⟩ := vbnd_fixed _ h
      refine ⟨_, h, fun w' K' hK => v1_mk hu (g1 _ (g2 _ (g3 _ (asSlice_mk ht (known_mk hd ?_)))))⟩
      unfold vslice
      split
      · exact hno _ rfl rfl
      · exact g5 _ (g6 _ (g7 _ hK))
  case fieldAddr t x f =>
    obtain ⟨u, hu, h⟩ := v1_some h
    obtain ⟨b, hxe, h4⟩ := asAddr_elim h
    subst hxe
    obtain ⟨fs, fd, ht, hfd, h⟩ := asField_elim h4
    cases hz : Nat.beq (P.cellsOf fd.type) 0 with
    | true => simp [hz] at h
    | false =>
      simp only [hz, cond_false] at h
      exact ⟨_, h, fun w' K' hK => v1_mk hu (asField_mk ht hfd (by simp only [hz, cond_false]; exact hK))⟩
  case field t x f =>
    obtain ⟨u, hu, h⟩ := v1_some h
    obtain ⟨cs, hxe, h4⟩ := asAgg_elim h
    subst hxe
    obtain ⟨fs, fd, ht, hfd, h⟩ := asField_elim h4
    unfold asPart at h
    split at h
    · rename_i n hty
      exact ⟨_, h, fun w' K' hK => v1_mk hu (asField_mk ht hfd (by unfold asPart; rw [hty]; exact hK))⟩
    · rename_i hno
      obtain ⟨hd, h⟩ := known_elim h
      obtain ⟨r, h1, h2⟩ := tex_fixed h
      refine ⟨r, h1.2, fun w' K' hK => v1_mk hu (asField_mk ht hfd ?_)⟩
      unfold asPart
      split
      · rename_i n hn; exact absurd hn (hno n)
      · exact known_mk hd (h2 _ ⟨h1.1, hK⟩)
  case indexAddr t x i =>
    obtain ⟨u, hu, h⟩ := v1_some h
    obtain ⟨v, hv, h⟩ := v1_some h
    obtain ⟨k, i, hie, h5⟩ := asInt_elim h
    obtain ⟨el, p, n, c, ht, hxe, h6⟩ := asSlice_elim h5
    subst hie hxe
    obtain ⟨hd, b, h1, h2, h3, h4⟩ := known_elim h6
    exact ⟨_, h4, fun w' K' hK => v1_mk hu (v1_mk hv (asSlice_mk ht (known_mk hd ⟨b, h1, h2, h3, hK⟩)))⟩
  case index t x i =>
    obtain ⟨u, hu, h⟩ := v1_some h
    obtain ⟨v, hv, h⟩ := v1_some h
    obtain ⟨k, i, hie, h5⟩ := asInt_elim h
    obtain ⟨s, ht, hxe, h1, b, h2, h3⟩ := asStr_elim h5
    subst hie hxe
    exact ⟨_, h3, fun w' K' hK => v1_mk hu (v1_mk hv (asStr_mk ht ⟨h1, b, h2, hK⟩))⟩
  case extract t i =>
    obtain ⟨u, hu, h⟩ := v1_some h
    split at h
    · rename_i vs
      split at h
      · rename_i v hv
        exact ⟨v, h, fun w' K' hK => v1_mk hu (by simp only [hv]; exact hK)⟩
      · exact h.elim
    · exact h.elim
  case call c =>
    obtain ⟨callee, args, ts⟩ := c
    obtain ⟨vs, h, g⟩ := vN_some h
    cases callee with
    | builtin b =>
      have hb : b = .min ∨ b = .max := by cases b <;> simp [cls] at hc <;> simp
      obtain ⟨v, h1, h2⟩ := vbuiltin_pure hb h
      exact ⟨v, h1, fun w' K' hK => g _ (h2 w' K' hK)⟩
    | _ => exfalso; simp [cls] at hc

end
end Rx
end Go.Proofs.YtkoipeddfbeliaaGreat

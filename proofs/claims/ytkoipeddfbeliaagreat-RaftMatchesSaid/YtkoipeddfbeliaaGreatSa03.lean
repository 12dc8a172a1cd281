import Derived.Test.YtkoipeddfbeliaaGreatSa02
/-
  What reads, and what makes a block; and that an operation hangs on its operands alone.
-/
namespace Go.Proofs.YtkoipeddfbeliaaGreat
namespace Rx
open Go.RowKit

section
variable {P : Program} {o : Oper} {e : Env} {w w' : World}

theorem vload_some {t : Ty} {x : Addr} {K : Value → Prop} (h : vload t w x K) : ∃ v, K v ∧ ∀ w', Ext w w' → ∀ K' : Value → Prop, K' v → vload t w' x K' := by
  cases t with
  | agg n =>
    obtain ⟨cs, h1, h2, h3⟩ := h
    exact ⟨_, h3, fun w' he K' hK => ⟨cs, h1, he.cells h2, hK⟩⟩
  | _ =>
    simp only [vload, vcell] at h
    obtain ⟨v, ⟨h1, h2⟩, h3⟩ := tex_fixed h
    exact ⟨v, h2, fun w' he K' hK => by simp only [vload, vcell]; exact h3 _ ⟨he.cell h1, hK⟩⟩

theorem vmap_some {r : Option Nat} {F : Nat → Array MapEntry → Nat → Prop} (h : vmap w r F) : ∃ b es clock, F b es clock ∧ ∀ w', Ext w w' → ∀ F' : Nat → Array MapEntry → Nat → Prop, F' b es clock → vmap w' r F' := by
  obtain ⟨b, es, clock, h1, h2, h3⟩ := h
  exact ⟨b, es, clock, h3, fun w' he F' hF => ⟨b, es, clock, h1, he _ _ h2, hF⟩⟩

theorem vlook_some {t : TypeId} {m k : Value} {F : TypeId → Option (Nat × Value) → Prop} (h : vlook P t w m k F) :
    ∃ et res, F et res ∧ ∀ w', Ext w w' → ∀ F' : TypeId → Option (Nat × Value) → Prop, F' et res → vlook P t w' m k F' := by
  unfold vlook at h
  split at h
  · rename_i kt et r ht
    split at h
    · rename_i d hd
      cases hi : isIntD d with
      | false => simp [hi] at h
      | true =>
        simp only [hi, cond_true] at h
        obtain ⟨b, es, clock, ⟨res, h1, h2⟩, g⟩ := vmap_some h
        refine ⟨et, res, h2, fun w' he F' hF => ?_⟩
        unfold vlook
        simp only [ht, hd, hi, cond_true]
        exact g w' he _ ⟨res, h1, hF⟩
    · exact h.elim
  · exact h.elim

theorem vconv_some {s d : TypeId} {x : Value} {F : Value → Prop} (h : vconv P s d w x F) : ∃ v, F v ∧ ∀ w', Ext w w' → ∀ F' : Value → Prop, F' v → vconv P s d w' x F' := by
  cases hd : P.underlying d with
  | none => simp [vconv, hd] at h
  | some dd =>
    cases dd <;> simp only [vconv, hd] at h <;> (try exact h.elim)
    case int k =>
      split at h
      · exact ⟨_, h, fun w' he F' hF => by simp only [vconv, hd]; exact hF⟩
      · exact h.elim
    case string =>
      split at h
      · rename_i el p n c hs
        cases hel : P.underlying el with
        | none => simp [hel] at h
        | some de =>
          simp only [hel] at h
          split at h
          · rename_i hh
            obtain ⟨bs, h1, h2, h3, h4⟩ := h
            refine ⟨_, h4, fun w' he F' hF => ?_⟩
            simp only [vconv, hd, hs, hel]
            cases hh
            exact ⟨bs, h1, fun a ha => he.cells (h2 a ha), h3, hF⟩
          · exact h.elim
      · exact h.elim

theorem vbuiltin_len {ts : List TypeId} {args : List Value} {K : Value → World → Prop} (h : vbuiltin P .len ts args w K) :
    ∃ v, K v w ∧ ∀ w', Ext w w' → ∀ K' : Value → World → Prop, K' v w' → vbuiltin P .len ts args w' K' := by
  unfold vbuiltin at h
  split at h
  · rename_i t ts' x rest _
    split at h
    · rename_i n c hu; exact ⟨_, h, fun w' he K' hK => by simp only [vbuiltin, hu]; exact hK⟩
    · rename_i hu; exact ⟨_, h, fun w' he K' hK => by simp only [vbuiltin, hu]; exact hK⟩
    · rename_i hu
      obtain ⟨b, es, clock, h1, g⟩ := vmap_some h
      exact ⟨_, h1, fun w' he K' hK => by simp only [vbuiltin, hu]; exact g w' he _ hK⟩
    · exact h.elim
  all_goals first | exact h.elim | (exfalso; simp_all; done)

theorem vop_read {K : Value → World → Prop} (hc : cls o.op = 1) (h : vop P e o w K) : ∃ v, K v w ∧ ∀ w', Ext w w' → ∀ K' : Value → World → Prop, K' v w' → vop P e o w' K' := by
  obtain ⟨dst, op, type, pos, after, guard⟩ := o
  cases op <;> (try (exfalso; simp [cls] at hc; done)) <;> simp only [vop] at h ⊢
  case load t x =>
    obtain ⟨u, hu, h⟩ := v1_some h
    obtain ⟨b, hb, h2⟩ := asAddr_elim h
    subst hb
    obtain ⟨hd, h3⟩ := known_elim h2
    obtain ⟨v, h4, h5⟩ := vload_some h3
    exact ⟨v, h4, fun w' he K' hK => v1_mk hu (known_mk hd (h5 w' he _ hK))⟩
  case convert s d x =>
    obtain ⟨u, hu, h⟩ := v1_some h
    obtain ⟨hd, h3⟩ := known_elim h
    obtain ⟨v, h4, h5⟩ := vconv_some h3
    exact ⟨v, h4, fun w' he K' hK => v1_mk hu (known_mk hd (h5 w' he _ hK))⟩
  case lookup t m k ok =>
    obtain ⟨u, hu, h⟩ := v1_some h
    obtain ⟨v, hv, h⟩ := v1_some h
    obtain ⟨et, res, h1, g⟩ := vlook_some h
    cases hi : P.info? et with
    | none => simp [hi] at h1
    | some i =>
      simp only [hi] at h1
      cases hz : i.zero with
      | none => simp [hz] at h1
      | some zero =>
        simp only [hz] at h1
        obtain ⟨r, ⟨b, h2, h3⟩, h4⟩ := tex_fixed h1
        exact ⟨_, h3, fun w' he K' hK => v1_mk hu (v1_mk hv (g w' he _ (by simp only [hi, hz]; exact h4 _ ⟨b, h2, hK⟩)))⟩
  case call c =>
    obtain ⟨callee, args, ts⟩ := c
    obtain ⟨vs, h, g⟩ := vN_some h
    cases callee with
    | builtin b =>
      have hb : b = .len := by cases b <;> simp [cls] at hc <;> simp
      subst hb
      obtain ⟨v, h1, h2⟩ := vbuiltin_len h
      exact ⟨v, h1, fun w' he K' hK => g _ (h2 w' he K' hK)⟩
    | _ => exfalso; simp [cls] at hc

theorem velems_some {n : Nat} : ∀ {ps : List (Nat × Value)} {i : Nat} {K : List Value → Prop}, velems n i ps K → ∃ l, K l ∧ ∀ K' : List Value → Prop, K' l → velems n i ps K'
  | [], i, K, h => ⟨[], h, fun _ h => h⟩
  | (j, v) :: rest, i, K, h => by
    simp only [velems] at h ⊢
    cases hij : Nat.beq i j with
    | false => simp [hij] at h
    | true =>
      simp only [hij, cond_true] at h ⊢
      have one : ∀ v' : Value, (bif isOne v' && Nat.beq n 1 then velems n (i + 1) rest (fun l => K (v' :: l)) else False) →
          ∃ l, K l ∧ ∀ K' : List Value → Prop, K' l → (bif isOne v' && Nat.beq n 1 then velems n (i + 1) rest (fun l => K' (v' :: l)) else False) := by
        intro v' hh
        cases h1 : (isOne v' && Nat.beq n 1) with
        | false => rw [h1] at hh; exact hh.elim
        | true => rw [h1] at hh; obtain ⟨l, hl, g⟩ := velems_some hh; exact ⟨_, hl, fun K' hK => g _ hK⟩
      cases v with
      | agg xs => obtain ⟨l, hl, g⟩ := velems_some h.2; exact ⟨_, hl, fun K' hK => ⟨h.1, g _ hK⟩⟩
      | _ => exact one _ h

theorem vop_make {K : Value → World → Prop} (hc : cls o.op = 2) (h : vop P e o w K) : ∃ v x, K v (w.alloc x) ∧ ∀ K' : Value → World → Prop, K' v (w.alloc x) → vop P e o w K' := by
  obtain ⟨dst, op, type, pos, after, guard⟩ := o
  cases op <;> (try (exfalso; simp [cls] at hc; done)) <;> simp only [vop] at h ⊢
  case alloc t => obtain ⟨z, h, g⟩ := vzero_some h; exact ⟨_, _, h, fun K' hK => g _ hK⟩
  case box t x => obtain ⟨v, hv, h⟩ := v1_some h; exact ⟨_, _, h, fun K' hK => v1_mk hv hK⟩
  case buildSlice t n ps =>
    obtain ⟨vs, h, g⟩ := vP_some h
    cases ht : P.underlying t with
    | none => simp [ht] at h
    | some d =>
      cases d <;> simp only [ht] at h <;> (try exact h.elim)
      rename_i el
      cases hb : (Nat.beq vs.length n && Nat.ble (n * P.cellsOf el) 1000) with
      | false => rw [hb] at h; exact h.elim
      | true =>
        rw [hb] at h
        simp only [cond_true] at h
        obtain ⟨z, h, g1⟩ := vzero_some h
        obtain ⟨l, ⟨h1, h2⟩, g2⟩ := velems_some h
        refine ⟨_, _, h2, fun K' hK => g _ ?_⟩
        simp only [hb, cond_true]
        exact g1 _ (g2 _ ⟨h1, hK⟩)
  case makeMap t r =>
    cases r with
    | none => exact ⟨_, _, h, fun K' hK => hK⟩
    | some r => exact h.elim
  case call c =>
    exfalso
    obtain ⟨callee, args, ts⟩ := c
    cases callee with
    | builtin b => cases b <;> simp [cls] at hc
    | _ => simp [cls] at hc

/-! ### It hangs on its operands alone -/
def Same (e e' : Env) (xs : List Operand) : Prop := ∀ x ∈ xs, ∀ v, ev e x = some v → ev e' x = some v

theorem v1_same {e e' : Env} {x : Operand} {F F' : Value → Prop} (hs : ∀ v, ev e x = some v → ev e' x = some v) (hF : ∀ v, F v → F' v) (h : v1 e x F) : v1 e' x F' := by
  obtain ⟨v, hv, h⟩ := v1_some h
  exact v1_mk (hs v hv) (hF v h)

theorem vN_same {e e' : Env} : ∀ {xs : List Operand} {F F' : List Value → Prop}, (∀ x ∈ xs, ∀ v, ev e x = some v → ev e' x = some v) → (∀ v, F v → F' v) → vN e xs F → vN e' xs F'
  | [], _, _, _, hF, h => hF _ h
  | x :: xs, _, _, hs, hF, h => v1_same (hs x (by simp)) (fun _ h => vN_same (fun y hy => hs y (by simp [hy])) (fun _ => hF _) h) h
theorem vP_same {e e' : Env} : ∀ {xs : List (Nat × Operand)} {F F' : List (Nat × Value) → Prop}, (∀ x ∈ xs.map (·.2), ∀ v, ev e x = some v → ev e' x = some v) → (∀ v, F v → F' v) → vP e xs F → vP e' xs F'
  | [], _, _, _, hF, h => hF _ h
  | (i, x) :: xs, _, _, hs, hF, h => v1_same (hs x (by simp)) (fun _ h => vP_same (fun y hy => hs y (by simp at hy ⊢; exact .inr hy)) (fun _ => hF _) h) h
theorem vopt_same {e e' : Env} {x : Option Operand} {F F' : Option Value → Prop} (hs : ∀ y, x = some y → ∀ v, ev e y = some v → ev e' y = some v) (hF : ∀ v, F v → F' v) (h : vopt e x F) : vopt e' x F' := by
  cases x with
  | none => exact hF _ h
  | some x => exact v1_same (hs x rfl) (fun _ => hF _) h

theorem tex_mono {t : Ty} {K K' : Value → Prop} (hK : ∀ v, K v → K' v) (h : tex t K) : tex t K' := by
  obtain ⟨v, h1, h2⟩ := tex_fixed h
  exact h2 _ (hK v h1)
theorem texL_mono : ∀ {ts : List Ty} {K K' : List Value → Prop}, (∀ v, K v → K' v) → texL ts K → texL ts K'
  | [], _, _, hK, h => hK _ h
  | _ :: _, _, _, hK, h => tex_mono (fun _ h => texL_mono (fun _ h => hK _ h) h) h
theorem vres_mono {ty : TypeId} {K K' : Value → Prop} (hK : ∀ v, K v → K' v) (h : vres P ty K) : vres P ty K' := by
  unfold vres at h ⊢
  split at h
  · exact texL_mono (fun _ h => hK _ h) h
  · exact tex_mono hK h

theorem vstore_one {n : Nat} {x : Addr} {v : Value} (hv : ∀ cs, v ≠ .agg cs) (K : World → Prop) : vstore n w x v K = (bif isOne v then (bif Nat.beq n 1 then vstore1 w x v K else False) else False) := by
  cases v <;> first | rfl | exact absurd rfl (hv _)

theorem vstore_mono {n : Nat} {x : Addr} {v : Value} {K K' : World → Prop} (hK : ∀ w, K w → K' w) (h : vstore n w x v K) : vstore n w x v K' := by
  by_cases hv : ∃ cs, v = .agg cs
  · obtain ⟨cs, rfl⟩ := hv
    exact ⟨h.1, h.2.1, h.2.2.1, hK _ h.2.2.2⟩
  · have hv' : ∀ cs, v ≠ .agg cs := fun cs hh => hv ⟨cs, hh⟩
    rw [vstore_one hv'] at h ⊢
    cases h1 : isOne v <;> cases h2 : Nat.beq n 1 <;> simp only [h1, h2, cond_true, cond_false] at h ⊢
    exact ⟨h.1, h.2.1, hK _ h.2.2⟩

theorem Fixed.mono {α : Type} {V : (α → Prop) → Prop} (hV : Fixed V) {F F' : α → Prop} (hF : ∀ v, F v → F' v) (h : V F) : V F' := by
  obtain ⟨v, h1, h2⟩ := hV F h
  exact h2 _ (hF v h1)

theorem vmap_mono {r : Option Nat} {F F' : Nat → Array MapEntry → Nat → Prop} (hF : ∀ b es c, F b es c → F' b es c) (h : vmap w r F) : vmap w r F' := by
  obtain ⟨b, es, c, h1, h2, h3⟩ := h; exact ⟨b, es, c, h1, h2, hF _ _ _ h3⟩

theorem vupd_mono {t : TypeId} {m k v : Value} {F F' : World → Prop} (hF : ∀ w, F w → F' w) (h : vupd P t w m k v F) : vupd P t w m k v F' := by
  unfold vupd at h ⊢
  split at h
  · split at h
    · rename_i d hd
      cases hi : isIntD d with
      | false => simp [hi] at h
      | true =>
        simp only [hi, cond_true] at h ⊢
        exact vmap_mono (fun _ _ _ ⟨res, h1, h2⟩ => ⟨res, h1, hF _ h2⟩) h
    · exact h.elim
  · exact h.elim

theorem vdel_mono {t : TypeId} {m k : Value} {F F' : World → Prop} (hF : ∀ w, F w → F' w) (h : vdel P t w m k F) : vdel P t w m k F' := by
  unfold vdel at h ⊢
  split at h
  · split at h
    · rename_i d hd
      cases hi : isIntD d with
      | false => simp [hi] at h
      | true =>
        simp only [hi, cond_true] at h ⊢
        exact vmap_mono (fun _ _ _ ⟨res, h1, h2⟩ => ⟨res, h1, hF _ h2⟩) h
    · exact h.elim
  · exact h.elim

theorem vcalld_mono {g : FuncId} {args : List Value} {R R' : Ending → World → Prop} (hR : ∀ e w, R e w → R' e w) (h : vcalld P g args w R) : vcalld P g args w R' := by
  unfold vcalld at h ⊢
  cases hg : goodFn P g with
  | false => simp [hg] at h
  | true => simp only [hg, cond_true] at h ⊢; exact h.mono hR
theorem vcallv_mono {f : Value} {args : List Value} {R R' : Ending → World → Prop} (hR : ∀ e w, R e w → R' e w) (h : vcallv P f args w R) : vcallv P f args w R' := by
  unfold vcallv at h ⊢
  split at h
  · exact vcalld_mono hR h
  · exact h.elim

theorem vzero_mono {t : TypeId} {F F' : Array Value → Prop} (hF : ∀ z, F z → F' z) (h : vzero P t F) : vzero P t F' := by
  obtain ⟨z, h1, h2⟩ := vzero_some h; exact h2 _ (hF _ h1)

theorem vbuiltin_mono {b : Builtin} {ts : List TypeId} {args : List Value} {K K' : Value → World → Prop} (hK : ∀ v w, K v w → K' v w) (h : vbuiltin P b ts args w K) : vbuiltin P b ts args w K' := by
  unfold vbuiltin at h
  split at h
  · split at h
    · rename_i hu; simp only [vbuiltin, hu]; exact hK _ _ h
    · rename_i hu; simp only [vbuiltin, hu]; exact hK _ _ h
    · rename_i hu; simp only [vbuiltin, hu]; exact vmap_mono (fun _ _ _ h => hK _ _ h) h
    · exact h.elim
  · exact hK _ _ h
  · exact hK _ _ h
  · split at h
    · rename_i h1 h2
      simp only [vbuiltin, h1, h2]
      exact vzero_mono (fun _ ⟨old, new, g1, g2, g3, g4, g5, g6, g7⟩ => ⟨old, new, g1, g2, g3, g4, g5, g6, fun p n c w' ha => hK _ _ (g7 p n c w' ha)⟩) h
    · exact h.elim
  · simp only [vbuiltin]; exact vdel_mono (fun _ h => hK _ _ h) h
  · split at h
    · rename_i h1
      simp only [vbuiltin, h1]
      exact vzero_mono (fun _ ⟨g1, g2, g3⟩ => ⟨g1, g2, hK _ _ g3⟩) h
    · exact h.elim
  · exact h.elim

theorem velems_mono {n : Nat} : ∀ {ps : List (Nat × Value)} {i : Nat} {K K' : List Value → Prop}, (∀ l, K l → K' l) → velems n i ps K → velems n i ps K'
  | [], _, _, _, hK, h => hK _ h
  | (j, v) :: rest, i, K, K', hK, h => by
    simp only [velems] at h ⊢
    cases hij : Nat.beq i j with
    | false => simp [hij] at h
    | true =>
      simp only [hij, cond_true] at h ⊢
      have one : ∀ v' : Value, (bif isOne v' && Nat.beq n 1 then velems n (i + 1) rest (fun l => K (v' :: l)) else False) → (bif isOne v' && Nat.beq n 1 then velems n (i + 1) rest (fun l => K' (v' :: l)) else False) := by
        intro v' hh
        cases h1 : (isOne v' && Nat.beq n 1) with
        | false => rw [h1] at hh; exact hh.elim
        | true => rw [h1] at hh; exact velems_mono (fun l h => hK _ h) hh
      cases v with
      | agg xs => exact ⟨h.1, velems_mono (fun l h => hK _ h) h.2⟩
      | _ => exact one _ h

theorem viter_mono {it : Value} {F F' : Nat → Nat → Nat → Array Nat → Nat → Array MapEntry → Nat → Prop} (hF : ∀ a b c d e f g, F a b c d e f g → F' a b c d e f g) (h : viter w it F) : viter w it F' := by
  unfold viter at h ⊢
  split at h
  · obtain ⟨r, s, m, since, seen, last, es, clock, h1, h2, h3, h4⟩ := h
    exact ⟨r, s, m, since, seen, last, es, clock, h1, h2, h3, hF _ _ _ _ _ _ _ h4⟩
  · exact h.elim

theorem vnext_mono {it : Value} {F F' : Bool → List Value → World → Prop} (hF : ∀ b l w, F b l w → F' b l w) (h : vnext w it F) : vnext w it F' :=
  viter_mono (fun _ _ _ _ _ _ _ ⟨h1, h2⟩ => ⟨h1, fun c hc w1 hw => by
    have := h2 c hc w1 hw
    split at this
    · exact hF _ _ _ this
    · exact hF _ _ _ this⟩) h

theorem vslice_mono {size n c : Nat} {p : Option Addr} {lo hi mx : Option Value} {F F' : Option Addr → Nat → Nat → Prop} (hF : ∀ p n c, F p n c → F' p n c) (h : vslice size p n c lo hi mx F) : vslice size p n c lo hi mx F' := by
  unfold vslice at h ⊢
  split at h
  · exact h.elim
  · exact vbnd_fixed.mono (fun _ => vbnd_fixed.mono fun _ => vbnd_fixed.mono fun _ => hF _ _ _) h

theorem asPart_mono {t : TypeId} {cs : Array Value} {off : Nat} {F F' : Value → Prop} (hF : ∀ v, F v → F' v) (h : asPart P t cs off F) : asPart P t cs off F' := by
  unfold asPart at h ⊢
  split at h
  · exact hF _ h
  · obtain ⟨h1, h2⟩ := known_elim h
    exact known_mk h1 (tex_mono (fun _ h => ⟨h.1, hF _ h.2⟩) h2)

theorem vlook_mono {t : TypeId} {m k : Value} {F F' : TypeId → Option (Nat × Value) → Prop} (hF : ∀ t r, F t r → F' t r) (h : vlook P t w m k F) : vlook P t w m k F' := by
  obtain ⟨et, res, h1, h2⟩ := vlook_some h
  exact h2 w (Ext.refl w) _ (hF _ _ h1)

theorem vop_same {e' : Env} {K K' : Value → World → Prop} (hs : ∀ x ∈ o.op.operands, ∀ v, ev e x = some v → ev e' x = some v) (hK : ∀ v w, K v w → K' v w) (h : vop P e o w K) : vop P e' o w K' := by
  obtain ⟨dst, op, type, pos, after, guard⟩ := o
  cases op <;> simp only [vop] at h ⊢ <;> simp only [Op.operands] at hs
  case move x => exact v1_same (hs x (by simp)) (fun _ h => hK _ _ h) h
  case assign x => exact v1_same (hs x (by simp)) (fun _ h => hK _ _ h) h
  case pick c x y =>
    refine v1_same (hs c (by simp)) (fun _ => v1_same (hs x (by simp)) (fun _ => v1_same (hs y (by simp)) (fun _ h => ?_))) h
    obtain ⟨t, ht, h⟩ := asBool_elim h
    subst ht
    cases t with
    | true => exact hK _ _ h
    | false => exact hK _ _ h
  case alloc t => exact vzero_mono (fun _ h => hK _ _ h) h
  case box t x => exact v1_same (hs x (by simp)) (fun _ h => hK _ _ h) h
  case build t ps =>
    refine vP_same (fun x hx => hs x (by simpa using hx)) (fun vs h => ?_) h
    cases ht : P.underlying t with
    | none => simp [ht] at h
    | some d =>
      cases d <;> simp only [ht] at h <;> (try exact h.elim)
      rename_i fs
      cases hf : fieldsOk P fs with
      | false => simp [hf] at h
      | true =>
        simp only [hf, cond_true] at h
        simp only [hf, cond_true]
        exact vzero_mono (fun _ => vfill_fixed.mono fun _ h => hK _ _ h) h
  case buildSlice t n ps =>
    refine vP_same (fun x hx => hs x (by simpa using hx)) (fun vs h => ?_) h
    cases ht : P.underlying t with
    | none => simp [ht] at h
    | some d =>
      cases d <;> simp only [ht] at h <;> (try exact h.elim)
      rename_i el
      cases hb : (Nat.beq vs.length n && Nat.ble (n * P.cellsOf el) 1000) with
      | false => rw [hb] at h; exact h.elim
      | true =>
        rw [hb] at h
        simp only [cond_true] at h
        simp only [hb, cond_true]
        exact vzero_mono (fun _ => velems_mono fun _ h => ⟨h.1, hK _ _ h.2⟩) h
  case load t x =>
    refine v1_same (hs x (by simp)) (fun _ h => ?_) h
    obtain ⟨b, hb, h⟩ := asAddr_elim h
    subst hb
    obtain ⟨hd, h⟩ := known_elim h
    obtain ⟨v, h1, h2⟩ := vload_some h
    exact known_mk hd (h2 w (Ext.refl w) _ (hK _ _ h1))
  case store t x y =>
    refine v1_same (hs x (by simp)) (fun _ => v1_same (hs y (by simp)) (fun _ h => ?_)) h
    obtain ⟨b, hb, h⟩ := asAddr_elim h
    subst hb
    obtain ⟨hd, h⟩ := known_elim h
    exact known_mk hd (vstore_mono (fun _ h => hK _ _ h) h)
  case nilCheck x =>
    refine v1_same (hs x (by simp)) (fun v h => ?_) h
    split at h
    · rename_i p
      cases p with
      | none => exact h.elim
      | some b => exact hK _ _ h
    · exact hK _ _ h
    · exact h.elim
  case binOp op t x y yt => exact v1_same (hs x (by simp)) (fun _ => v1_same (hs y (by simp)) (fun _ => vbin_fixed.mono fun _ h => hK _ _ h)) h
  case unOp op t x => exact v1_same (hs x (by simp)) (fun _ => vun_fixed.mono fun _ h => hK _ _ h) h
  case convert s d x =>
    refine v1_same (hs x (by simp)) (fun _ h => ?_) h
    obtain ⟨hd, h⟩ := known_elim h
    obtain ⟨v, h1, h2⟩ := vconv_some h
    exact known_mk hd (h2 w (Ext.refl w) _ (hK _ _ h1))
  case makeFunc fn f c => exact vN_same (fun x hx => hs x (by simp at hx ⊢; exact .inl hx)) (fun _ => vN_same (fun x hx => hs x (by simp at hx ⊢; exact .inr hx)) fun _ h => hK _ _ h) h
  case makeMap t r =>
    cases r with
    | none => exact hK _ _ h
    | some r => exact h.elim
  case slice t x lo hi mx =>
    refine v1_same (hs x (by simp)) (fun _ => vopt_same (fun y hy => hs y (by simp [hy])) fun _ => vopt_same (fun y hy => hs y (by simp [hy])) fun _ => vopt_same (fun y hy => hs y (by simp [hy])) fun _ g => ?_) h
    obtain ⟨el, p, n, c, ht, hx, g1⟩ := asSlice_elim g
    subst hx
    obtain ⟨hd, g2⟩ := known_elim g1
    exact asSlice_mk ht (known_mk hd (vslice_mono (fun _ _ _ h => hK _ _ h) g2))
  case fieldAddr t x f =>
    refine v1_same (hs x (by simp)) (fun _ h => ?_) h
    obtain ⟨b, hb, h⟩ := asAddr_elim h
    subst hb
    obtain ⟨fs, fd, ht, hfd, h⟩ := asField_elim h
    refine asField_mk ht hfd ?_
    cases hz : Nat.beq (P.cellsOf fd.type) 0 with
    | true => simp [hz] at h
    | false => simp only [hz, cond_false] at h ⊢; exact hK _ _ h
  case field t x f =>
    refine v1_same (hs x (by simp)) (fun _ h => ?_) h
    obtain ⟨cs, hc, h⟩ := asAgg_elim h
    subst hc
    obtain ⟨fs, fd, ht, hfd, h⟩ := asField_elim h
    exact asField_mk ht hfd (asPart_mono (fun _ h => hK _ _ h) h)
  case indexAddr t x i =>
    refine v1_same (hs x (by simp)) (fun _ => v1_same (hs i (by simp)) fun _ g => ?_) h
    obtain ⟨k, j, hj, g1⟩ := asInt_elim g
    obtain ⟨el, p, n, c, ht, hx, g2⟩ := asSlice_elim g1
    subst hj hx
    obtain ⟨hd, b, h1, h2, h3, h4⟩ := known_elim g2
    exact asSlice_mk ht (known_mk hd ⟨b, h1, h2, h3, hK _ _ h4⟩)
  case index t x i =>
    refine v1_same (hs x (by simp)) (fun _ => v1_same (hs i (by simp)) fun _ h => ?_) h
    obtain ⟨k, j, hj, h⟩ := asInt_elim h
    obtain ⟨s, ht, hx, h1, b, h2, h3⟩ := asStr_elim h
    subst hj hx
    exact asStr_mk ht ⟨h1, b, h2, hK _ _ h3⟩
  case lookup t m k ok =>
    refine v1_same (hs m (by simp)) (fun _ => v1_same (hs k (by simp)) fun _ => vlook_mono fun et res h => ?_) h
    split at h
    · split at h
      · obtain ⟨r, ⟨b, h2, h3⟩, h4⟩ := tex_fixed h
        exact h4 _ ⟨b, h2, hK _ _ h3⟩
      · exact h.elim
    · exact h.elim
  case mapUpdate t m k v => exact v1_same (hs m (by simp)) (fun _ => v1_same (hs k (by simp)) fun _ => v1_same (hs v (by simp)) fun _ => vupd_mono fun _ h => hK _ _ h) h
  case range t x =>
    refine v1_same (hs x (by simp)) (fun _ h => ?_) h
    unfold asMap at h ⊢
    split at h
    · exact vmap_mono (fun _ _ _ h => hK _ _ h) h
    · exact h.elim
  case next it s =>
    cases s with
    | true => exact (show False from h).elim
    | false => exact v1_same (hs it (by simp)) (fun _ => vnext_mono fun _ _ _ h => hK _ _ h) (show v1 e it fun it => vnext w it fun b l w' => K (.tuple (.bool b :: l).toArray) w' from h)
  case entry it => exact v1_same (hs it (by simp)) (fun _ => viter_mono fun _ _ _ _ _ _ _ ⟨s, e, h1, h2, h3, h4⟩ => ⟨s, e, h1, h2, h3, hK _ _ h4⟩) h
  case extract t i =>
    refine v1_same (hs t (by simp)) (fun _ h => ?_) h
    split at h
    · split at h
      · exact hK _ _ h
      · exact h.elim
    · exact h.elim
  case call c =>
    obtain ⟨callee, args, ts⟩ := c
    refine vN_same (fun x hx => hs x (by simp only [Call.operands]; simp at hx ⊢; exact .inr hx)) (fun vs h => ?_) h
    have fin : ∀ (en : Ending) (w' : World), (vres P type fun v => en = .returned v ∧ K v w') → (vres P type fun v => en = .returned v ∧ K' v w') := fun en w' => vres_mono fun _ h => ⟨h.1, hK _ _ h.2⟩
    cases callee with
    | builtin b => exact vbuiltin_mono hK h
    | invoke r m => exact h.elim
    | value f =>
      cases f with
      | func g => exact vcalld_mono fin h
      | tmp t => exact v1_same (hs (.tmp t) (by simp [Call.operands])) (fun _ => vcallv_mono fin) h
      | const t => exact v1_same (hs (.const t) (by simp [Call.operands])) (fun _ => vcallv_mono fin) h
      | global t => exact v1_same (hs (.global t) (by simp [Call.operands])) (fun _ => vcallv_mono fin) h
  all_goals exact h.elim

end
end Rx
end Go.Proofs.YtkoipeddfbeliaaGreat

/-
  Regions whose order is drawn: orders that are given ('Ord') decide for all orders ('vany_of_ord').
-/
namespace Go.Proofs.YtkoipeddfbeliaaGreat
namespace Rx
open Go.RowKit

/-- the slot of an operation of a region -/
def dstOf (ops : Array Oper) (j : Nat) : Option Nat := (ops[j]?).bind (·.dst)

/-- one operation, under its guard -/
def vguard (ops : Array Oper) (o : Oper) (e : Env) (run skip : Env → Prop) : Prop :=
  match o.guard with
  | none => run e
  | some (j, want) =>
    match dstOf ops j with
    | none => False
    | some d => match e.get d with
      | some (.bool b) => vif b (bif want then run ((d, .bool true) :: e) else skip ((d, .bool true) :: e)) (bif want then skip ((d, .bool false) :: e) else run ((d, .bool false) :: e))
      | some (.tuple _) => skip e
      | _ => False

def vloadJ (ty : Ty) (J : World → Prop) (a : Addr) (K : Value → Prop) : Prop :=
  match ty with
  | .agg n => ∃ cs : Array Value, cs.size = n ∧ (∀ w, J w → CellsAt w a cs.toList) ∧ K (.agg cs)
  | ty => tex ty fun v => (∀ w, J w → w.cell? a = some v) ∧ K v

/-- a load that may be done sooner or later: the same in all worlds on the way -/
def vopJ (P : Program) (e : Env) (o : Oper) (J : World → Prop) (w : World) (K : Value → World → Prop) : Prop :=
  match o.op with
  | .load t x => v1 e x fun v => asAddr v fun a => known P t (vloadJ (tyOf P t) J a fun v => K v w)
  | _ => False

/-- the orders of a drawn region; 'far': a load that may be done sooner or later -/
inductive Ord where
  | done
  | op (k : Nat) (next : Ord)
  | far (k : Nat) (next : Ord)
  | or (a b : Ord)
  | rest (next : Ord)

def vord (P : Program) (ops : Array Oper) : Ord → Env → World → (Env → World → Prop) → Prop
  | .done, e, w, K => K e w
  | .op k t, e, w, K => match ops[k]? with
    | none => False
    | some o => vguard ops o e
      (fun e => vop P e o w fun v w' => vord P ops t (setO o.dst v e) w' K)
      (fun e => vord P ops t (setO o.dst undef e) w K)
  | .far _ _, _, _, _ => False
  | .or a b, e, w, K => vord P ops a e w K ∧ vord P ops b e w K
  | .rest _, _, _, _ => False

def vordJ (P : Program) (ops : Array Oper) (J : World → Prop) : Ord → Env → World → (Env → World → Prop) → Prop
  | .done, e, w, K => K e w
  | .op k t, e, w, K => match ops[k]? with
    | none => False
    | some o => vguard ops o e
      (fun e => vop P e o w fun v w' => bif Nat.ble (cls o.op) 1 then vordJ P ops J t (setO o.dst v e) w' K else J w' ∧ vordJ P ops J t (setO o.dst v e) w' K)
      (fun e => vordJ P ops J t (setO o.dst undef e) w K)
  | .far k t, e, w, K => match ops[k]? with
    | none => False
    | some o => match o.guard with
      | some _ => False
      | none => vopJ P e o J w fun v w' => vordJ P ops J t (setO o.dst v e) w' K
  | .or a b, e, w, K => vordJ P ops J a e w K ∧ vordJ P ops J b e w K
  | .rest t, e, w, K => vord P ops t e w K

section
variable {P : Program} {ops : Array Oper} {o : Oper} {e e' : Env} {w w' : World}

/-- all that is known here is known there -/
def Le (e e' : Env) : Prop := ∀ k v, e.get k = some v → e'.get k = some v
theorem Le.refl (e : Env) : Le e e := fun _ _ h => h
theorem Le.trans {a b c : Env} (h : Le a b) (g : Le b c) : Le a c := fun k v hk => g k v (h k v hk)
theorem Le.set {a b : Env} (h : Le a b) (d : Option Nat) (v : Value) : Le (setO d v a) (setO d v b) := by
  cases d with
  | none => exact h
  | some d =>
    intro k u hk
    simp only [setO, Env.get_cons] at hk ⊢
    by_cases hd : d = k
    · simp [hd] at hk ⊢; exact hk
    · simp [hd] at hk ⊢; exact h k u hk
theorem Le.swap (a : Env) {d c : Option Nat} (v u : Value) (h : ∀ k, d = some k → c ≠ some k) : Le (setO c u (setO d v a)) (setO d v (setO c u a)) := by
  cases d with
  | none => exact Le.refl _
  | some d =>
    cases c with
    | none => exact Le.refl _
    | some c =>
      have hne : c ≠ d := fun hh => h d rfl (by rw [hh])
      intro k x hk
      simp only [setO, Env.get_cons] at hk ⊢
      by_cases h1 : d = k
      · subst h1; simp [hne] at hk ⊢; exact hk
      · by_cases h2 : c = k
        · subst h2; simp [h1] at hk ⊢; exact hk
        · simp [h1, h2] at hk ⊢; exact hk
theorem Rel.le {a : Act} (h : Rel e' a) (g : Le e e') : Rel e a := fun k v hk => h k v (g k v hk)
theorem Le.ev (h : Le e e') {x : Operand} {v : Value} (hx : ev e x = some v) : ev e' x = some v := by
  cases x <;> simp only [Rx.ev] at hx ⊢
  · exact h _ _ hx
  all_goals exact hx

/-- is it to be done? -/
def wants (ops : Array Oper) (o : Oper) (e : Env) : Option Bool :=
  match o.guard with
  | none => some true
  | some (j, want) => match dstOf ops j with
    | none => none
    | some d => match e.get d with
      | some (.bool b) => some (b == want)
      | some (.tuple _) => some false
      | _ => none

/-- an operation under its guard: the value, and the world behind it -/
def vval (P : Program) (ops : Array Oper) (o : Oper) (e : Env) (w : World) (R : Value → World → Prop) : Prop :=
  (wants ops o e = some true ∧ vop P e o w R) ∨ (wants ops o e = some false ∧ R undef w)

theorem get_again {d : Nat} {v : Value} (h : e.get d = some v) : Le ((d, v) :: e) e := by
  intro k u hk
  rw [Env.get_cons] at hk
  by_cases hd : d = k
  · subst hd; simp at hk; subst hk; exact h
  · simp [hd] at hk; exact hk
theorem get_again' {d : Nat} {v : Value} (h : e.get d = some v) : Le e ((d, v) :: e) := by
  intro k u hk
  rw [Env.get_cons]
  by_cases hd : d = k
  · subst hd; simp; rw [h] at hk; exact Option.some.inj hk
  · simp [hd]; exact hk

theorem vguard_cases {run skip : Env → Prop} (h : vguard ops o e run skip) :
    (wants ops o e = some true ∧ ∃ e', Le e' e ∧ run e') ∨ (wants ops o e = some false ∧ ∃ e', Le e' e ∧ skip e') := by
  unfold vguard at h
  unfold wants
  split at h
  · rename_i hg; exact .inl ⟨rfl, e, Le.refl e, h⟩
  · rename_i j want hg
    split at h
    · exact h.elim
    · rename_i d hd
      split at h
      · rename_i b hb
        have hl := get_again hb
        cases b <;> cases want <;> simp only [vif, cond_true, cond_false] at h
        · exact .inl ⟨rfl, _, hl, h⟩
        · exact .inr ⟨rfl, _, hl, h⟩
        · exact .inr ⟨rfl, _, hl, h⟩
        · exact .inl ⟨rfl, _, hl, h⟩
      · exact .inr ⟨rfl, e, Le.refl e, h⟩
      · exact h.elim

/-- what follows may know more -/
def Mono (N : Env → World → Prop) : Prop := ∀ e e' w, Le e e' → N e w → N e' w

theorem vval_of_guard {R : Env → Value → World → Prop} {S : Env → Prop} {R' : Value → World → Prop} (h : vguard ops o e (fun e => vop P e o w (R e)) S)
    (hR : ∀ e', Le e' e → ∀ v w', R e' v w' → R' v w') (hS : ∀ e', Le e' e → S e' → R' undef w) : vval P ops o e w R' := by
  rcases vguard_cases h with ⟨h1, e', h2, h3⟩ | ⟨h1, e', h2, h3⟩
  · exact .inl ⟨h1, vop_same (fun x _ v hv => h2.ev hv) (hR e' h2) h3⟩
  · exact .inr ⟨h1, hS e' h2 h3⟩

theorem vval_mono {R R' : Value → World → Prop} (hR : ∀ v w, R v w → R' v w) (h : vval P ops o e w R) : vval P ops o e w R' := by
  rcases h with ⟨h1, h2⟩ | ⟨h1, h2⟩
  · exact .inl ⟨h1, vop_same (fun _ _ _ hv => hv) hR h2⟩
  · exact .inr ⟨h1, hR _ _ h2⟩

theorem wants_same (hs : ∀ t ∈ o.looksAt ops, ∀ v, e.get t = some v → e'.get t = some v) {b : Bool} (h : wants ops o e = some b) : wants ops o e' = some b := by
  unfold wants at h ⊢
  cases hg : o.guard with
  | none => simpa [hg] using h
  | some jw =>
    obtain ⟨j, want⟩ := jw
    simp only [hg] at h ⊢
    cases hd : dstOf ops j with
    | none => simp [hd] at h
    | some d =>
      simp only [hd] at h ⊢
      cases hb : e.get d with
      | none => simp [hb] at h
      | some u =>
        have hin : d ∈ o.looksAt ops := by
          unfold Oper.looksAt
          rw [hg]
          unfold dstOf at hd
          simp [hd]
        rw [hs d hin u hb]
        simpa [hb] using h

theorem vval_same (hs : ∀ t ∈ o.looksAt ops, ∀ v, e.get t = some v → e'.get t = some v) {R R' : Value → World → Prop} (hR : ∀ v w, R v w → R' v w) (h : vval P ops o e w R) : vval P ops o e' w R' := by
  rcases h with ⟨h1, h2⟩ | ⟨h1, h2⟩
  · refine .inl ⟨wants_same hs h1, vop_same (fun x hx v hv => ?_) hR h2⟩
    cases x with
    | tmp t =>
      refine hs t ?_ v hv
      unfold Oper.looksAt
      refine List.mem_append_left _ (List.mem_filterMap.2 ⟨.tmp t, ?_, rfl⟩)
      simpa using hx
    | _ => exact hv
  · exact .inr ⟨wants_same hs h1, hR _ _ h2⟩

theorem looks_set {t : Nat} {d : Option Nat} {u v : Value} (h : ∀ k, d = some k → k ≠ t) (hg : e.get t = some v) : (setO d u e).get t = some v := by
  cases d with
  | none => exact hg
  | some d => simp only [setO, Env.get_cons]; rw [if_neg (h d rfl)]; exact hg
theorem looks_unset {t : Nat} {d : Option Nat} {u v : Value} (h : ∀ k, d = some k → k ≠ t) (hg : (setO d u e).get t = some v) : e.get t = some v := by
  cases d with
  | none => exact hg
  | some d => simp only [setO, Env.get_cons] at hg; rw [if_neg (h d rfl)] at hg; exact hg

/-- in whatever order; 'J' holds of each world on the way that an operation of the kind 'nd' makes -/
def vany (P : Program) (ops : Array Oper) (nd : Nat → Bool) (J : World → Prop) : Nat → Array Bool → Env → World → (Env → World → Prop) → Prop
  | 0, listed, e, w, K => Region.ready .any ops listed = [] ∧ K e w
  | f + 1, listed, e, w, K => (Region.ready .any ops listed = [] → K e w) ∧
    ∀ i ∈ Region.ready .any ops listed, ∃ o, ops[i]? = some o ∧ vval P ops o e w fun v w' => (nd i = true → J w') ∧ vany P ops nd J f (listed.setIfInBounds i true) (setO o.dst v e) w' K

theorem vany_le {nd : Nat → Bool} {J : World → Prop} {K : Env → World → Prop} (hK : Mono K) : ∀ {f : Nat} {listed : Array Bool} {e e' : Env} {w : World}, Le e e' → vany P ops nd J f listed e w K → vany P ops nd J f listed e' w K
  | 0, _, _, _, _, hl, h => ⟨h.1, hK _ _ _ hl h.2⟩
  | f + 1, listed, e, e', w, hl, h => ⟨fun h0 => hK _ _ _ hl (h.1 h0), fun i hi => by
      obtain ⟨o, ho, hv⟩ := h.2 i hi
      exact ⟨o, ho, vval_same (fun t _ v hv => hl t v hv) (fun v w' h => ⟨h.1, vany_le hK (hl.set _ _) h.2⟩) hv⟩⟩

/-- waits it for the other, be it through others? -/
def dep (ops : Array Oper) : Nat → Nat → Nat → Bool
  | 0, _, _ => false
  | n + 1, j, i => match ops[j]? with
    | none => false
    | some o => (o.after.any fun x => Region.binds .any x && Nat.beq x.on i) || (o.after.any fun x => Region.binds .any x && (Nat.blt i x.on && dep ops n x.on i))

/-- what is done has all done that it waits for -/
def Closed (ops : Array Oper) (listed : Array Bool) : Prop := ∀ j o, ops[j]? = some o → listed.getD j false = true → ∀ x ∈ o.after, Region.binds .any x = true → listed.getD x.on false = true

theorem dep_listed {listed : Array Bool} (hc : Closed ops listed) : ∀ {n j i : Nat}, dep ops n j i = true → listed.getD j false = true → listed.getD i false = true
  | 0, _, _, h, _ => by simp [dep] at h
  | n + 1, j, i, h, hl => by
    simp only [dep] at h
    split at h
    · cases h
    · rename_i o ho
      rcases Bool.or_eq_true_iff.1 h with h | h
      · obtain ⟨x, hx, hb⟩ := Array.any_eq_true'.1 h
        simp only [Bool.and_eq_true] at hb
        have h1 := hc j o ho hl x hx hb.1
        rw [← Nat.eq_of_beq_eq_true hb.2]; exact h1
      · obtain ⟨x, hx, hb⟩ := Array.any_eq_true'.1 h
        simp only [Bool.and_eq_true] at hb
        have h1 := hc j o ho hl x hx hb.1
        exact dep_listed hc hb.2.2 h1

theorem listed_false {listed : Array Bool} {i : Nat} (h : listed.getD i true = false) : listed.getD i false = false := by
  rcases Nat.lt_or_ge i listed.size with h' | h'
  · simp [h'] at h ⊢; exact h
  · simp [Array.getElem?_eq_none h'] at h

theorem dep_ready {listed : Array Bool} (hc : Closed ops listed) {n j i : Nat} (hj : j ∈ Region.ready .any ops listed) (hi : i ∈ Region.ready .any ops listed) : dep ops n j i = false := by
  cases hd : dep ops n j i with
  | false => rfl
  | true =>
    exfalso
    have hun := listed_false (mem_ready.1 hi).1
    cases n with
    | zero => simp [dep] at hd
    | succ n =>
      simp only [dep] at hd
      obtain ⟨_, oj, hoj, hall⟩ := mem_ready.1 hj
      rw [hoj] at hd
      rcases Bool.or_eq_true_iff.1 hd with hd | hd
      · obtain ⟨x, hx, hb⟩ := Array.any_eq_true'.1 hd
        simp only [Bool.and_eq_true] at hb
        have h1 := hall x hx hb.1
        rw [Nat.eq_of_beq_eq_true hb.2] at h1; rw [h1] at hun; cases hun
      · obtain ⟨x, hx, hb⟩ := Array.any_eq_true'.1 hd
        simp only [Bool.and_eq_true] at hb
        have h1 := hall x hx hb.1
        have := dep_listed hc hb.2.2 h1; rw [this] at hun; cases hun

theorem Closed.set {listed : Array Bool} (hc : Closed ops listed) {i : Nat} (hi : i ∈ Region.ready .any ops listed) : Closed ops (listed.setIfInBounds i true) := by
  intro j o ho hl x hx hb
  obtain ⟨_, oi, hoi, hall⟩ := mem_ready.1 hi
  by_cases hij : i = j
  · subst hij
    have : o = oi := Option.some.inj (ho.symm.trans hoi)
    subst this
    exact getD_set_true (hall x hx hb)
  · rw [getD_set_ne false hij] at hl
    exact getD_set_true (hc j o ho hl x hx hb)

/-- it gives this value in all worlds of a kind -/
def Gives (P : Program) (ops : Array Oper) (o : Oper) (v : Value) (e : Env) (A : World → Prop) : Prop := ∀ w, A w → ∀ R : Value → World → Prop, R v w → vval P ops o e w R

theorem vany_first {nd : Nat → Bool} {J A : World → Prop} {K : Env → World → Prop} (hK : Mono K) {i : Nat} {oi : Oper} {v : Value} (hi : ops[i]? = some oi) (hnd : nd i = false) :
    ∀ (f : Nat) (listed : Array Bool) (e : Env) (w : World), Closed ops listed →
      (∀ j oj, ops[j]? = some oj → j ≠ i → listed.getD j true = false → dep ops ops.size j i = false → oi.apart ops oj = true ∧
        ∀ (e : Env) (w : World) (R : Value → World → Prop), A w → vval P ops oj e w (fun u w' => (nd j = true → J w') ∧ R u w') → vval P ops oj e w (fun u w' => A w' ∧ ((nd j = true → J w') ∧ R u w'))) →
      i ∈ Region.ready .any ops listed → Gives P ops oi v e A → A w →
      vany P ops nd J f (listed.setIfInBounds i true) (setO oi.dst v e) w K → vany P ops nd J (f + 1) listed e w K := by
  intro f
  induction f with
  | zero =>
    intro listed e w hc hfree hr hg hA H
    refine ⟨fun h => (by rw [h] at hr; cases hr), fun j hj => ?_⟩
    by_cases hji : j = i
    · subst hji; exact ⟨oi, hi, hg w hA _ ⟨fun h => (by rw [hnd] at h; cases h), H⟩⟩
    · have := ready_mono hj hji
      rw [H.1] at this
      cases this
  | succ f ih =>
    intro listed e w hc hfree hr hg hA H
    refine ⟨fun h => (by rw [h] at hr; cases hr), fun j hj => ?_⟩
    by_cases hji : j = i
    · subst hji; exact ⟨oi, hi, hg w hA _ ⟨fun h => (by rw [hnd] at h; cases h), H⟩⟩
    · obtain ⟨oj, hoj, hv⟩ := H.2 j (ready_mono hj hji)
      have hun := (mem_ready.1 hj).1
      obtain ⟨hap, hpres⟩ := hfree j oj hoj hji hun (dep_ready hc hj hr)
      obtain ⟨a1, a2, a3⟩ := Oper.apart_spec hap
      refine ⟨oj, hoj, ?_⟩
      have hv1 := vval_same (e' := e) (fun t ht u hu => looks_unset (fun k hk hkt => a1 k hk (hkt ▸ ht)) hu) (fun _ _ h => h) hv
      refine vval_mono ?_ (hpres e w _ hA hv1)
      intro u w' ⟨hA', hJ', hH⟩
      refine ⟨hJ', ?_⟩
      refine ih (listed.setIfInBounds j true) (setO oj.dst u e) w' (hc.set hj) ?_ (ready_mono hr (Ne.symm hji)) ?_ hA' ?_
      · intro k ok hk hki hunk hdep
        refine hfree k ok hk hki ?_ hdep
        by_cases hjk : j = k
        · subst hjk; exact hun
        · rw [getD_set_ne true hjk] at hunk; exact hunk
      · intro w2 hA2 R hR
        exact vval_same (fun t ht u' hu' => looks_set (fun k hk hkt => a3 k hk (hkt ▸ ht)) hu') (fun _ _ h => h) (hg w2 hA2 R hR)
      · rw [Array.setIfInBounds_comm _ _ hji]
        exact vany_le hK (Le.swap e v u (fun k hk => a2 k hk)) hH

end

/-! ### Orders that are given -/
def Ord.heads : Ord → List Nat
  | .done => []
  | .op k _ | .far k _ => [k]
  | .or a b => a.heads ++ b.heads
  | .rest _ => []

/-- the loads that may be done sooner or later -/
def Ord.fars : Ord → List Nat
  | .done => []
  | .op _ t => t.fars
  | .far k t => k :: t.fars
  | .or a b => a.fars ++ b.fars
  | .rest t => t.fars

def clsAt (ops : Array Oper) (k : Nat) : Nat := match ops[k]? with | some o => cls o.op | none => 3

/-- may it be done first, whatever else is left? 'm': the greatest kind that may stand beside it -/
def freeB (ops : Array Oper) (m : Nat) (listed : Array Bool) (k : Nat) : Bool :=
  match ops[k]? with
  | none => false
  | some ok => (List.range ops.size).all fun j => Nat.beq j k || listed.getD j true || (match ops[j]? with
    | some oj => Nat.ble (cls oj.op) m && ok.apart ops oj
    | none => true) || dep ops ops.size j k

/-- what changes memory, and need not wait for all the loads -/
def ndOf (ops : Array Oper) (o : Ord) (j : Nat) : Bool := Nat.ble 2 (clsAt ops j) && !(o.fars.all fun f => dep ops ops.size j f)

mutual
def chk (ops : Array Oper) (J : Bool) (nd : Nat → Bool) : Ord → Nat → Array Bool → Bool
  | .done, _, listed => (Region.ready .any ops listed).isEmpty
  | .op k t, f, listed => match f with
    | 0 => false
    | f + 1 => (Region.ready .any ops listed).contains k && (match clsAt ops k with
        | 0 => freeB ops 3 listed k && !nd k
        | 1 => freeB ops 2 listed k && !nd k
        | _ => (Region.ready .any ops listed).all fun j => Nat.beq j k) && chk ops J nd t f (listed.setIfInBounds k true)
  | .far k t, f, listed => match f with
    | 0 => false
    | f + 1 => J && !nd k && ((List.range ops.size).all fun j => Nat.ble (clsAt ops j) 1 || nd j || dep ops ops.size j k) && (Region.ready .any ops listed).contains k && freeB ops 3 listed k && chk ops J nd t f (listed.setIfInBounds k true)
  | .or a b, f, listed => (Region.ready .any ops listed).all (fun i => (a.heads ++ b.heads).contains i) && chkB ops J nd a f listed && chkB ops J nd b f listed
  | .rest t, f, listed => ((List.range ops.size).all fun j => listed.getD j false || !nd j) && chk ops J nd t f listed
def chkB (ops : Array Oper) (J : Bool) (nd : Nat → Bool) : Ord → Nat → Array Bool → Bool
  | .done, _, _ => false
  | .op k t, f, listed => match f with
    | 0 => false
    | f + 1 => (Region.ready .any ops listed).contains k && chk ops J nd t f (listed.setIfInBounds k true)
  | .far _ _, _, _ => false
  | .or a b, f, listed => chkB ops J nd a f listed && chkB ops J nd b f listed
  | .rest _, _, _ => false
end

section
variable {P : Program} {ops : Array Oper} {o : Oper} {e e' : Env} {w w' : World}

theorem vany_done {nd : Nat → Bool} {J : World → Prop} {K : Env → World → Prop} {listed : Array Bool} (hr : Region.ready .any ops listed = []) (h : K e w) : ∀ f, vany P ops nd J f listed e w K
  | 0 => ⟨hr, h⟩
  | _ + 1 => ⟨fun _ => h, by rw [hr]; simp⟩

theorem freeB_spec {m : Nat} {listed : Array Bool} {k : Nat} {ok : Oper} (hk : ops[k]? = some ok) (h : freeB ops m listed k = true) (j : Nat) (oj : Oper) (hj : ops[j]? = some oj) (hne : j ≠ k) (hun : listed.getD j true = false) (hd : dep ops ops.size j k = false) :
    ok.apart ops oj = true ∧ cls oj.op ≤ m := by
  unfold freeB at h
  rw [hk] at h
  have h1 := List.all_eq_true.1 h j (List.mem_range.2 (Array.getElem?_eq_some_iff.1 hj).1)
  have hb : Nat.beq j k = false := by cases hb : Nat.beq j k with | false => rfl | true => exact absurd (Nat.eq_of_beq_eq_true hb) hne
  simp only [hb, hun, hd, hj, Bool.false_or, Bool.or_false, Bool.and_eq_true] at h1
  exact ⟨h1.2, Nat.le_of_ble_eq_true h1.1⟩

/-- what is of a small kind leaves all blocks as they are -/
theorem vval_ext {oj : Oper} {R : Value → World → Prop} (hc : cls oj.op ≤ 2) {w0 : World} (hA : Ext w0 w) (h : vval P ops oj e w R) : vval P ops oj e w fun u w' => Ext w0 w' ∧ R u w' := by
  rcases h with ⟨h1, h2⟩ | ⟨h1, h2⟩
  · refine .inl ⟨h1, ?_⟩
    rcases Nat.lt_or_ge (cls oj.op) 1 with h0 | h0
    · obtain ⟨v, g1, g2⟩ := vop_pure (by omega) h2
      exact g2 w _ ⟨hA, g1⟩
    · rcases Nat.lt_or_ge (cls oj.op) 2 with h3 | h3
      · obtain ⟨v, g1, g2⟩ := vop_read (by omega) h2
        exact g2 w (Ext.refl w) _ ⟨hA, g1⟩
      · obtain ⟨v, x, g1, g2⟩ := vop_make (by omega) h2
        exact g2 _ ⟨hA.trans (Ext.alloc w x), g1⟩
  · exact .inr ⟨h1, hA, h2⟩

/-- an operation that is taken first -/
theorem vval_pure {R : Value → World → Prop} (hc : cls o.op = 0) (h : vval P ops o e w R) : ∃ v, R v w ∧ Gives P ops o v e fun _ => True := by
  rcases h with ⟨h1, h2⟩ | ⟨h1, h2⟩
  · obtain ⟨v, g1, g2⟩ := vop_pure hc h2
    exact ⟨v, g1, fun w' _ R' hR => .inl ⟨h1, g2 w' R' hR⟩⟩
  · exact ⟨undef, h2, fun w' _ R' hR => .inr ⟨h1, hR⟩⟩

theorem vval_read {R : Value → World → Prop} (hc : cls o.op = 1) (h : vval P ops o e w R) : ∃ v, R v w ∧ Gives P ops o v e fun w' => Ext w w' := by
  rcases h with ⟨h1, h2⟩ | ⟨h1, h2⟩
  · obtain ⟨v, g1, g2⟩ := vop_read hc h2
    exact ⟨v, g1, fun w' he R' hR => .inl ⟨h1, g2 w' he R' hR⟩⟩
  · exact ⟨undef, h2, fun w' _ R' hR => .inr ⟨h1, hR⟩⟩

theorem Gives.weak {v : Value} {A B : World → Prop} (h : Gives P ops o v e A) (hAB : ∀ w, B w → A w) : Gives P ops o v e B := fun w hB R hR => h w (hAB w hB) R hR

theorem vopJ_elim {J : World → Prop} {K : Value → World → Prop} (h : vopJ P e o J w K) : ∃ v, K v w ∧ ∀ w', J w' → ∀ K' : Value → World → Prop, K' v w' → vop P e o w' K' := by
  obtain ⟨dst, op, type, pos, after, guard⟩ := o
  cases op <;> simp only [vopJ] at h <;> (try exact h.elim)
  rename_i t x
  simp only [vop]
  obtain ⟨u, hu, h⟩ := v1_some h
  obtain ⟨b, hb, h⟩ := asAddr_elim h
  subst hb
  obtain ⟨hd, h⟩ := known_elim h
  cases hty : tyOf P t with
  | agg n =>
    rw [hty] at h
    obtain ⟨cs, h1, h2, h3⟩ := h
    exact ⟨_, h3, fun w' hJ K' hK => v1_mk hu (known_mk hd ⟨cs, h1, h2 w' hJ, hK⟩)⟩
  | _ =>
    rw [hty] at h
    simp only [vloadJ] at h
    obtain ⟨v, ⟨h1, h2⟩, h3⟩ := tex_fixed h
    exact ⟨v, h2, fun w' hJ K' hK => v1_mk hu (known_mk hd (by simp only [vload, vcell]; exact h3 _ ⟨h1 w' hJ, hK⟩))⟩

/-- one step, whichever is ready -/
theorem vany_step {nd : Nat → Bool} {J : World → Prop} {K : Env → World → Prop} {listed : Array Bool} {f : Nat} (hne : Region.ready .any ops listed ≠ [])
    (h : ∀ i ∈ Region.ready .any ops listed, ∃ o, ops[i]? = some o ∧ vval P ops o e w fun v w' => (nd i = true → J w') ∧ vany P ops nd J f (listed.setIfInBounds i true) (setO o.dst v e) w' K) : vany P ops nd J (f + 1) listed e w K :=
  ⟨fun h0 => absurd h0 hne, h⟩

/-- what an operation of the given order gives -/
theorem vordJ_op {J : World → Prop} {K : Env → World → Prop} {k : Nat} {t : Ord} (hk : ops[k]? = some o) (hJ : J w) (hup : Mono fun e w => vordJ P ops J t e w K) (h : vordJ P ops J (.op k t) e w K) :
    vval P ops o e w fun v w' => J w' ∧ vordJ P ops J t (setO o.dst v e) w' K := by
  simp only [vordJ, hk] at h
  by_cases hc : cls o.op ≤ 1
  · have hb : Nat.ble (cls o.op) 1 = true := Nat.ble_eq_true_of_le hc
    simp only [hb, cond_true] at h
    have h1 := vval_of_guard (P := P) (R' := fun v w' => vordJ P ops J t (setO o.dst v e) w' K) h (fun e' he v w' hh => hup _ _ _ (he.set _ _) hh) (fun e' he hh => hup _ _ _ (he.set _ _) hh)
    rcases Nat.lt_or_ge (cls o.op) 1 with h0 | h0
    · obtain ⟨v, g1, g2⟩ := vval_pure (by omega) h1
      exact g2 w trivial _ ⟨hJ, g1⟩
    · obtain ⟨v, g1, g2⟩ := vval_read (by omega) h1
      exact g2 w (Ext.refl w) _ ⟨hJ, g1⟩
  · have hb : Nat.ble (cls o.op) 1 = false := by cases hb : Nat.ble (cls o.op) 1 with | false => rfl | true => exact absurd (Nat.le_of_ble_eq_true hb) hc
    simp only [hb, cond_false] at h
    exact vval_of_guard h (fun e' he v w' hh => ⟨hh.1, hup _ _ _ (he.set _ _) hh.2⟩) (fun e' he hh => ⟨hJ, hup _ _ _ (he.set _ _) hh⟩)

theorem vguard_le {run skip run' skip' : Env → Prop} (hl : Le e e') (hr : ∀ x y, Le x y → run x → run' y) (hsk : ∀ x y, Le x y → skip x → skip' y) (h : vguard ops o e run skip) : vguard ops o e' run' skip' := by
  unfold vguard at h ⊢
  split at h
  · exact hr _ _ hl h
  · rename_i j want hg
    split at h
    · exact h.elim
    · rename_i d hd
      split at h
      · rename_i b hb
        rw [hl d _ hb]
        have h1 : ∀ c : Bool, Le ((d, .bool c) :: e) ((d, .bool c) :: e') := fun c => hl.set (some d) (.bool c)
        cases b <;> cases want <;> simp only [vif, cond_true, cond_false] at h ⊢
        · exact hr _ _ (h1 _) h
        · exact hsk _ _ (h1 _) h
        · exact hsk _ _ (h1 _) h
        · exact hr _ _ (h1 _) h
      · rename_i l hb
        rw [hl d _ hb]
        exact hsk _ _ hl h
      · exact h.elim

theorem vopJ_le {J : World → Prop} {K K' : Value → World → Prop} (hl : Le e e') (hK : ∀ v w, K v w → K' v w) (h : vopJ P e o J w K) : vopJ P e' o J w K' := by
  obtain ⟨dst, op, type, pos, after, guard⟩ := o
  cases op <;> simp only [vopJ] at h ⊢ <;> (try exact h.elim)
  rename_i t x
  obtain ⟨u, hu, h⟩ := v1_some h
  obtain ⟨b, hb, h⟩ := asAddr_elim h
  subst hb
  obtain ⟨hd, h⟩ := known_elim h
  refine v1_mk (hl.ev hu) (known_mk hd ?_)
  cases hty : tyOf P t with
  | agg n =>
    rw [hty] at h
    obtain ⟨cs, h1, h2, h3⟩ := h
    exact ⟨cs, h1, h2, hK _ _ h3⟩
  | _ =>
    rw [hty] at h
    simp only [vloadJ] at h ⊢
    exact tex_mono (fun _ h => ⟨h.1, hK _ _ h.2⟩) h

theorem vord_le {K : Env → World → Prop} (hK : Mono K) : ∀ {t : Ord}, Mono fun e w => vord P ops t e w K
  | .done => hK
  | .op k t => by
    intro e e' w hl h
    simp only [vord] at h ⊢
    split at h
    · exact h.elim
    · rename_i o ho
      refine vguard_le hl (fun x y hxy hh => ?_) (fun x y hxy hh => vord_le hK _ _ _ (hxy.set _ _) hh) h
      exact vop_same (fun z _ v hv => hxy.ev hv) (fun v w' hh => vord_le hK _ _ _ (hxy.set _ _) hh) hh
  | .far _ _ => fun _ _ _ _ h => h
  | .or a b => fun e e' w hl h => ⟨vord_le hK _ _ _ hl h.1, vord_le hK _ _ _ hl h.2⟩
  | .rest _ => fun _ _ _ _ h => h

/-- the same order, nothing asked on the way -/
theorem vordJ_true {K : Env → World → Prop} : ∀ {t : Ord} {e : Env} {w : World}, vord P ops t e w K → vordJ P ops (fun _ => True) t e w K
  | .done, _, _, h => h
  | .op k t, e, w, h => by
    simp only [vord] at h
    simp only [vordJ]
    split at h
    · exact h.elim
    · rename_i o ho
      have hg : ∀ {e : Env} {w : World} {run skip run' skip' : Env → Prop}, (∀ x, run x → run' x) → (∀ x, skip x → skip' x) → vguard ops o e run skip → vguard ops o e run' skip' := by
        intro e w run skip run' skip' hr hsk h
        unfold vguard at h ⊢
        split at h
        · exact hr _ h
        · rename_i j want hg
          split at h
          · exact h.elim
          · split at h
            · rename_i b hb
              cases b <;> cases want <;> simp only [vif, cond_true, cond_false] at h ⊢ <;> first | exact hr _ h | exact hsk _ h
            · exact hsk _ h
            · exact h.elim
      refine hg (w := w) (fun x hh => vop_same (fun _ _ _ hv => hv) (fun v w' hh => ?_) hh) (fun x hh => vordJ_true hh) h
      cases Nat.ble (cls o.op) 1
      · exact ⟨trivial, vordJ_true hh⟩
      · exact vordJ_true hh
  | .far _ _, _, _, h => h.elim
  | .or a b, _, _, h => ⟨vordJ_true h.1, vordJ_true h.2⟩
  | .rest _, _, _, h => h.elim

theorem vordJ_le {J : World → Prop} {K : Env → World → Prop} (hK : Mono K) : ∀ {t : Ord}, Mono fun e w => vordJ P ops J t e w K
  | .done => hK
  | .op k t => by
    intro e e' w hl h
    simp only [vordJ] at h ⊢
    split at h
    · exact h.elim
    · rename_i o ho
      refine vguard_le hl (fun x y hxy hh => ?_) (fun x y hxy hh => vordJ_le hK _ _ _ (hxy.set _ _) hh) h
      refine vop_same (fun z _ v hv => hxy.ev hv) (fun v w' hh => ?_) hh
      cases hb : Nat.ble (cls o.op) 1 with
      | true => simp only [hb, cond_true] at hh ⊢; exact vordJ_le hK _ _ _ (hxy.set _ _) hh
      | false => simp only [hb, cond_false] at hh ⊢; exact ⟨hh.1, vordJ_le hK _ _ _ (hxy.set _ _) hh.2⟩
  | .far k t => by
    intro e e' w hl h
    simp only [vordJ] at h ⊢
    split at h
    · exact h.elim
    · split at h
      · exact h.elim
      · exact vopJ_le hl (fun v w' hh => vordJ_le hK _ _ _ (hl.set _ _) hh) h
  | .or a b => fun e e' w hl h => ⟨vordJ_le hK _ _ _ hl h.1, vordJ_le hK _ _ _ hl h.2⟩
  | .rest _ => fun _ _ _ hl h => vord_le hK _ _ _ hl h

theorem clsAt_eq {k : Nat} (hk : ops[k]? = some o) : clsAt ops k = cls o.op := by unfold clsAt; rw [hk]

theorem chkB_spec (jb : Bool) (nd : Nat → Bool) : ∀ (t : Ord) (f : Nat) (listed : Array Bool), chkB ops jb nd t f listed = true → f ≠ 0 ∧ Region.ready .any ops listed ≠ []
  | .done, f, listed, h => by simp [chkB] at h
  | .op k t, f, listed, h => by
    cases f with
    | zero => simp [chkB] at h
    | succ f =>
      simp only [chkB, Bool.and_eq_true] at h
      refine ⟨by simp, fun h0 => ?_⟩
      rw [h0] at h; simp at h
  | .far k t, f, listed, h => by simp [chkB] at h
  | .or a b, f, listed, h => by
    simp only [chkB, Bool.and_eq_true] at h
    exact chkB_spec jb nd a f listed h.1
  | .rest t, f, listed, h => by simp [chkB] at h

/-- where nothing that is left is asked of -/
theorem vany_free {nd : Nat → Bool} {J J' : World → Prop} {K : Env → World → Prop} : ∀ (f : Nat) (listed : Array Bool) (e : Env) (w : World), (∀ j, j < ops.size → listed.getD j true = false → nd j = false) →
    vany P ops nd J f listed e w K → vany P ops nd J' f listed e w K
  | 0, _, _, _, _, h => h
  | f + 1, listed, e, w, hn, h => ⟨h.1, fun i hi => by
      obtain ⟨o, ho, hv⟩ := h.2 i hi
      have hun := (mem_ready.1 hi).1
      have hlt := (Array.getElem?_eq_some_iff.1 ho).1
      refine ⟨o, ho, vval_mono (fun v w' hh => ⟨fun hh' => ?_, vany_free f _ _ _ (fun j hjl hj => ?_) hh.2⟩) hv⟩
      · rw [hn i hlt hun] at hh'; cases hh'
      · by_cases hij : i = j
        · subst hij; exact hn i hlt hun
        · rw [getD_set_ne true hij] at hj; exact hn j hjl hj⟩

/-- a step at one that an order begins with -/
def Begins (P : Program) (ops : Array Oper) (nd : Nat → Bool) (J : World → Prop) (K : Env → World → Prop) (f : Nat) (listed : Array Bool) (e : Env) (w : World) (i : Nat) : Prop :=
  ∃ o, ops[i]? = some o ∧ vval P ops o e w fun v w' => (nd i = true → J w') ∧ vany P ops nd J f (listed.setIfInBounds i true) (setO o.dst v e) w' K

theorem vany_of_ord {K : Env → World → Prop} (hK : Mono K) (jb : Bool) (nd : Nat → Bool) : ∀ (t : Ord) {J : World → Prop},
    (∀ (f : Nat) (listed : Array Bool) (e : Env) (w : World), Closed ops listed → chk ops jb nd t f listed = true → J w → vordJ P ops J t e w K → vany P ops nd J f listed e w K) ∧
    (∀ (f : Nat) (listed : Array Bool) (e : Env) (w : World), Closed ops listed → chkB ops jb nd t (f + 1) listed = true → J w → vordJ P ops J t e w K → ∀ i ∈ t.heads, Begins P ops nd J K f listed e w i)
  | .done, J => ⟨fun f listed e w _ hc _ h => vany_done (by simpa [chk] using hc) h f, fun f listed e w _ hc _ _ => by simp [chkB] at hc⟩
  | .op k t, J => by
    have ih := vany_of_ord hK jb nd t (J := J)
    have hup : Mono fun e w => vordJ P ops J t e w K := vordJ_le hK
    refine ⟨fun f listed e w hcl hc hJ h => ?_, fun f listed e w hcl hc hJ h i hi => ?_⟩
    · cases f with
      | zero => simp [chk] at hc
      | succ f =>
        simp only [chk, Bool.and_eq_true] at hc
        obtain ⟨⟨hr, hf⟩, hc⟩ := hc
        have hr' : k ∈ Region.ready .any ops listed := by simpa using hr
        obtain ⟨_, o, ho, _⟩ := mem_ready.1 hr'
        have hst := vordJ_op ho hJ hup h
        have hcl' := hcl.set hr'
        rw [clsAt_eq ho] at hf
        have pure0 : cls o.op = 0 → freeB ops 3 listed k = true → nd k = false → vany P ops nd J (f + 1) listed e w K := by
          intro h0 hf hn
          obtain ⟨v, ⟨g1, g1'⟩, g2⟩ := vval_pure h0 hst
          exact vany_first (A := fun _ => True) hK ho hn f listed e w hcl (fun j oj hj hne hun hd => ⟨(freeB_spec ho hf j oj hj hne hun hd).1, fun _ _ _ _ h => vval_mono (fun _ _ h => ⟨trivial, h⟩) h⟩) hr' (g2.weak fun _ _ => trivial) trivial (ih.1 f _ _ _ hcl' hc g1 g1')
        have read1 : cls o.op = 1 → freeB ops 2 listed k = true → nd k = false → vany P ops nd J (f + 1) listed e w K := by
          intro h0 hf hn
          obtain ⟨v, ⟨g1, g1'⟩, g2⟩ := vval_read h0 hst
          refine vany_first (A := fun w' => Ext w w') hK ho hn f listed e w hcl (fun j oj hj hne hun hd => ?_) hr' g2 (Ext.refl w) (ih.1 f _ _ _ hcl' hc g1 g1')
          obtain ⟨h1, h2⟩ := freeB_spec ho hf j oj hj hne hun hd
          exact ⟨h1, fun e2 w2 R hA hv => vval_ext h2 hA hv⟩
        have other : ((Region.ready .any ops listed).all fun j => Nat.beq j k) = true → vany P ops nd J (f + 1) listed e w K := by
          intro hall
          refine vany_step (by intro h0; rw [h0] at hr'; cases hr') fun i hi => ?_
          have := Nat.eq_of_beq_eq_true (List.all_eq_true.1 hall i hi)
          subst this
          exact ⟨o, ho, vval_mono (fun v w' hh => ⟨fun _ => hh.1, ih.1 f _ _ _ hcl' hc hh.1 hh.2⟩) hst⟩
        cases hcls : cls o.op with
        | zero => rw [hcls] at hf; simp only [Bool.and_eq_true, Bool.not_eq_true'] at hf; exact pure0 hcls hf.1 hf.2
        | succ n =>
          cases n with
          | zero => rw [hcls] at hf; simp only [Bool.and_eq_true, Bool.not_eq_true'] at hf; exact read1 hcls hf.1 hf.2
          | succ n => rw [hcls] at hf; exact other hf
    · simp only [Ord.heads, List.mem_singleton] at hi
      subst hi
      simp only [chkB, Bool.and_eq_true] at hc
      obtain ⟨hr, hc⟩ := hc
      have hr' : i ∈ Region.ready .any ops listed := by simpa using hr
      obtain ⟨_, o, ho, _⟩ := mem_ready.1 hr'
      exact ⟨o, ho, vval_mono (fun v w' hh => ⟨fun _ => hh.1, ih.1 f _ _ _ (hcl.set hr') hc hh.1 hh.2⟩) (vordJ_op ho hJ hup h)⟩
  | .far k t, J => by
    have ih := vany_of_ord hK jb nd t (J := J)
    refine ⟨fun f listed e w hcl hc hJ h => ?_, fun f listed e w _ hc _ _ => by simp [chkB] at hc⟩
    cases f with
    | zero => simp [chk] at hc
    | succ f =>
      simp only [chk, Bool.and_eq_true, Bool.not_eq_true'] at hc
      obtain ⟨⟨⟨⟨⟨_, hn⟩, hall⟩, hr⟩, hf⟩, hc⟩ := hc
      have hr' : k ∈ Region.ready .any ops listed := by simpa using hr
      obtain ⟨_, o, ho, _⟩ := mem_ready.1 hr'
      simp only [vordJ, ho] at h
      split at h
      · exact h.elim
      · rename_i hg
        obtain ⟨v, g1, g2⟩ := vopJ_elim h
        have hw : wants ops o e = some true := by unfold wants; rw [hg]
        refine vany_first (A := J) hK ho hn f listed e w hcl (fun j oj hj hne hun hd => ⟨(freeB_spec ho hf j oj hj hne hun hd).1, fun e2 w2 R hA hv => ?_⟩) hr' (fun w2 hJ2 R hR => .inl ⟨hw, g2 w2 hJ2 R hR⟩) hJ (ih.1 f _ _ _ (hcl.set hr') hc hJ g1)
        have hjn := List.all_eq_true.1 hall j (List.mem_range.2 (Array.getElem?_eq_some_iff.1 hj).1)
        rw [hd, clsAt_eq hj] at hjn
        simp only [Bool.or_false, Bool.or_eq_true] at hjn
        rcases hjn with hjn | hjn
        · have hle := Nat.le_of_ble_eq_true hjn
          rcases Nat.lt_or_ge (cls oj.op) 1 with h0 | h0
          · obtain ⟨v, g1, g2⟩ := vval_pure (by omega) hv
            exact g2 w2 trivial _ ⟨hA, g1⟩
          · obtain ⟨v, g1, g2⟩ := vval_read (by omega) hv
            exact g2 w2 (Ext.refl w2) _ ⟨hA, g1⟩
        · exact vval_mono (fun _ _ h => ⟨h.1 hjn, h⟩) hv
  | .or a b, J => by
    have iha := vany_of_ord hK jb nd a (J := J)
    have ihb := vany_of_ord hK jb nd b (J := J)
    have key : ∀ (f : Nat) (listed : Array Bool) (e : Env) (w : World), Closed ops listed → chkB ops jb nd a (f + 1) listed = true → chkB ops jb nd b (f + 1) listed = true → J w → vordJ P ops J (.or a b) e w K →
        ∀ i ∈ (Ord.or a b).heads, Begins P ops nd J K f listed e w i := by
      intro f listed e w hcl ha hb hJ h i hi
      simp only [Ord.heads, List.mem_append] at hi
      rcases hi with hi | hi
      · exact iha.2 f listed e w hcl ha hJ h.1 i hi
      · exact ihb.2 f listed e w hcl hb hJ h.2 i hi
    refine ⟨fun f listed e w hcl hc hJ h => ?_, fun f listed e w hcl hc hJ h => ?_⟩
    · simp only [chk, Bool.and_eq_true] at hc
      obtain ⟨⟨hall, ha⟩, hb⟩ := hc
      obtain ⟨hf, hne⟩ := chkB_spec jb nd a f listed ha
      obtain ⟨f, rfl⟩ := Nat.exists_eq_succ_of_ne_zero hf
      refine vany_step hne fun i hi => ?_
      have hin := List.all_eq_true.1 hall i hi
      exact key f listed e w hcl ha hb hJ h i (by simpa [Ord.heads] using hin)
    · simp only [chkB, Bool.and_eq_true] at hc
      exact key f listed e w hcl hc.1 hc.2 hJ h
  | .rest t, J => by
    have ih := vany_of_ord hK jb nd t (J := fun _ => True)
    refine ⟨fun f listed e w hcl hc hJ h => ?_, fun f listed e w hcl hc hJ h i hi => by simp [Ord.heads] at hi⟩
    simp only [chk, Bool.and_eq_true] at hc
    obtain ⟨hall, hc⟩ := hc
    refine vany_free (J := fun _ => True) f listed e w (fun j hlt hj => ?_) (ih.1 f listed e w hcl hc trivial (vordJ_true h))
    have := List.all_eq_true.1 hall j (List.mem_range.2 hlt)
    rw [listed_false hj] at this
    simpa using this

end
end Rx
end Go.Proofs.YtkoipeddfbeliaaGreat

/-
  Whole bodies: 'vcode' says what must hold so that a body runs to its end; 'calls_of_vcode': then the call returns.
-/
namespace Go.Proofs.YtkoipeddfbeliaaGreat
namespace Rx
open Go.RowKit

/-- a region in the order of its text -/
def vops (P : Program) (ops : Array Oper) : List Oper → Env → World → (Env → World → Prop) → Prop
  | [], e, w, K => K e w
  | o :: rest, e, w, K => vguard ops o e
      (fun e => vop P e o w fun v w' => vops P ops rest (setO o.dst v e) w' K)
      (fun e => vops P ops rest (setO o.dst undef e) w K)

structure Kont where
  n : Env → World → Prop
  x : Nat → Env → World → Prop
  r : Env → World → Prop

/-- hints beside a body: the orders of its drawn regions, where it is cut, what its loops hand on -/
inductive Ann where
  | leaf
  | ord (o : Ord)
  | ordJ (o : Ord)
  | seq (a b : Ann)
  | cut (cs : List (Nat × Ty)) (a b : Ann)
  | two (a b : Ann)
  | one (a : Ann)
  | loop (cs : List (Nat × Ty)) (a : Ann)

def wr : Code → List Nat
  | .region _ ops _ => ops.toList.filterMap (·.dst)
  | .seq a b | .cond _ a b => wr a ++ wr b
  | .block _ c | .loop c | .scope c => wr c
  | _ => []

def memb (k : Nat) : List Nat → Bool
  | [] => false
  | x :: xs => Nat.beq k x || memb k xs

def dropE (ws : List Nat) : Env → Env
  | [] => []
  | p :: e => bif memb p.1 ws then dropE ws e else p :: dropE ws e

def bindE : List (Nat × Ty) → List Value → Env → Env
  | p :: cs, v :: vs, e => (p.1, v) :: bindE cs vs e
  | _, _, e => e

def castE : List (Nat × Ty) → Env → (List Value → Prop) → Prop
  | [], _, F => F []
  | p :: cs, e, F => match e.get p.1 with
    | some v => castTo p.2 v fun v => castE cs e fun vs => F (v :: vs)
    | none => False

def vcode (P : Program) : Code → Ann → Kont → Env → World → Prop
  | .skip, _, K, e, w => K.n e w
  | .region _ ops false, _, K, e, w => vops P ops ops.toList e w K.n
  | .region _ ops true, .ord o, K, e, w => bif chk ops false (fun _ => false) o ops.size (Array.replicate ops.size false) then vord P ops o e w.drew K.n else False
  | .region _ ops true, .ordJ o, K, e, w => bif chk ops true (ndOf ops o) o ops.size (Array.replicate ops.size false) then ∃ J : World → Prop, J w.drew ∧ vordJ P ops J o e w.drew K.n else False
  | .seq a b, .seq x y, K, e, w => vcode P a x { K with n := fun e w => vcode P b y K e w } e w
  | .seq a b, .cut cs x y, K, e, w => ∃ J : List Value → World → Prop, vcode P a x { K with n := fun e w => castE cs e fun vs => J vs w } e w ∧
      tallL (cs.map (·.2)) fun vs => ∀ w', J vs w' → vcode P b y K (bindE cs vs (dropE (wr a) e)) w'
  | .cond c a b, .two x y, K, e, w => v1 e c fun v => asBool v fun t => vif t (vcode P a x K e w) (vcode P b y K e w)
  | .block id a, .one x, K, e, w => vcode P a x { K with x := fun i e w => bif Nat.beq i id then K.n e w else K.x i e w } e w
  | .loop a, .loop cs x, K, e, w => ∃ (I : List Value → World → Prop) (μ : List Value → World → Nat), (castE cs e fun vs => I vs w) ∧
      tallL (cs.map (·.2)) fun vs => ∀ w', I vs w' → vcode P a x { K with n := fun e2 w2 => castE cs e2 fun vs2 => I vs2 w2 ∧ μ vs2 w2 < μ vs w' } (bindE cs vs (dropE (wr a) e)) w'
  | .exit id, _, K, e, w => K.x id e w
  | .ret, _, K, e, w => K.r e w
  | _, _, _, _, _ => False

section
variable {P : Program} {ops : Array Oper} {o : Oper} {e : Env} {a : Act} {w : World}

/-- the exits of a region that all end well -/
def only (K : Act → World → Prop) : Exit → Act → World → Prop
  | .normal, a, w => K a w
  | _, _, _ => False

theorem put_size (a : Act) (d : Option Tmp) (v : Value) : (a.put d v).tmps.size = a.tmps.size := by
  cases d <;> simp [Act.put]
theorem put_defs (a : Act) (d : Option Tmp) (v : Value) : (a.put d v).defers = a.defers := by
  cases d <;> rfl
theorem put_other (a : Act) (d : Option Tmp) (v : Value) (k : Nat) (h : d ≠ some k) : (a.put d v).tmps[k]? = a.tmps[k]? := by
  cases d with
  | none => rfl
  | some d =>
    have : d ≠ k := fun hh => h (by rw [hh])
    simp [Act.put, Array.getElem?_setIfInBounds_ne this]

/-- what is carried along besides: the size of the frame, no deferred calls, the slots that are not written -/
structure Along (W : List Nat) (a0 a : Act) : Prop where
  size : a.tmps.size = a0.tmps.size
  defs : a.defers = a0.defers
  rest : ∀ k : Nat, k ∉ W → a.tmps[k]? = a0.tmps[k]?

theorem Along.refl (W : List Nat) (a : Act) : Along W a a := ⟨rfl, rfl, fun _ _ => rfl⟩
theorem Along.trans {W : List Nat} {a b c : Act} (h : Along W a b) (g : Along W b c) : Along W a c :=
  ⟨g.size.trans h.size, g.defs.trans h.defs, fun k hk => (g.rest k hk).trans (h.rest k hk)⟩
theorem Along.mono {W W' : List Nat} {a b : Act} (h : Along W a b) (hW : ∀ k, k ∈ W → k ∈ W') : Along W' a b := ⟨h.size, h.defs, fun k hk => h.rest k fun hh => hk (hW k hh)⟩
theorem Along.put {W : List Nat} {a b : Act} (h : Along W a b) (d : Option Tmp) (v : Value) (hd : ∀ k, d = some k → k ∈ W) : Along W a (b.put d v) :=
  ⟨(put_size b d v).trans h.size, (put_defs b d v).trans h.defs, fun k hk => by
    rw [put_other b d v k (fun hh => hk (hd k hh))]; exact h.rest k hk⟩

theorem wants_eq (hR : Rel e a) {b : Bool} (h : wants ops o e = some b) : Region.wanted o (yielded ops a.tmps) = b := by
  unfold wants at h
  unfold Region.wanted
  cases hg : o.guard with
  | none => simp [hg] at h; simp [h]
  | some jw =>
    obtain ⟨j, want⟩ := jw
    simp only [hg] at h
    cases hd : dstOf ops j with
    | none => simp [hd] at h
    | some d =>
      simp only [hd] at h
      cases hb : e.get d with
      | none => simp [hb] at h
      | some u =>
        cases u <;> simp [hb] at h
        case bool c =>
          have hy : yielded ops a.tmps j = some c := by
            unfold yielded
            unfold dstOf at hd
            rw [hd]
            simp [hR d _ hb]
          simp only [hy]
          subst h
          cases c <;> cases want <;> rfl
        case tuple l =>
          have hy : yielded ops a.tmps j = none := by
            unfold yielded
            unfold dstOf at hd
            rw [hd]
            simp [hR d _ hb]
          simp only [hy]
          subst h
          rfl

theorem wpOp_of_vval {k : Nat} {R : Value → World → Prop} {N : Act → World → Prop} {Q : Exit → Act → World → Prop} (hk : ops[k]? = some o) (hR : Rel e a) (h : vval P ops o e w R) (hN : ∀ v w', R v w' → N (a.put o.dst v) w') : wpOp P ops Q k N a w := by
  unfold wpOp
  simp only [hk]
  rcases h with ⟨h1, h2⟩ | ⟨h1, h2⟩
  · rw [if_pos (wants_eq hR h1)]
    exact .inl (vop_sound hR h2 hN)
  · rw [if_neg (by simp [wants_eq hR h1])]
    exact hN _ _ h2

theorem wpAny_of_vany {nd : Nat → Bool} {J : World → Prop} {K : Env → World → Prop} {W : List Nat} {a0 : Act} (hd : ∀ (k : Nat) (o : Oper), ops[k]? = some o → ∀ d, o.dst = some d → d < a0.tmps.size ∧ d ∈ W) :
    ∀ (f : Nat) (listed : Array Bool) (e : Env) (a : Act) (w : World), Rel e a → Along W a0 a → vany P ops nd J f listed e w K →
      wpAny P .any ops (only fun a' w' => ∃ e', Rel e' a' ∧ Along W a0 a' ∧ K e' w') f listed a w
  | 0, listed, e, a, w, hR, hA, h => ⟨h.1, e, hR, hA, h.2⟩
  | f + 1, listed, e, a, w, hR, hA, h => ⟨fun h0 => ⟨e, hR, hA, h.1 h0⟩, fun i hi => by
      obtain ⟨o, ho, hv⟩ := h.2 i hi
      refine wpOp_of_vval ho hR hv fun v w' hh => ?_
      exact wpAny_of_vany hd f _ _ _ _ (hR.put fun k hk => by rw [hA.size]; exact (hd i o ho k hk).1) (hA.put _ _ fun k hk => (hd i o ho k hk).2) hh.2⟩

theorem vguard_imp {run skip run' skip' : Env → Prop} (hr : ∀ x, run x → run' x) (hsk : ∀ x, skip x → skip' x) (h : vguard ops o e run skip) : vguard ops o e run' skip' := by
  unfold vguard at h ⊢
  split at h
  · exact hr _ h
  · rename_i j want hg
    split at h
    · exact h.elim
    · split at h
      · rename_i b hb
        cases b <;> cases want <;> simp only [vif, cond_true, cond_false] at h ⊢ <;> first | exact hr _ h | exact hsk _ h
      · exact hsk _ h
      · exact h.elim

theorem vordJ_of_vord {K K' : Env → World → Prop} (hK : ∀ e w, K e w → K' e w) : ∀ {t : Ord} {e : Env} {w : World}, vord P ops t e w K → vordJ P ops (fun _ => True) t e w K'
  | .done, _, _, h => hK _ _ h
  | .op k t, e, w, h => by
    simp only [vord] at h
    simp only [vordJ]
    split at h
    · exact h.elim
    · rename_i o ho
      refine vguard_imp (fun x hh => vop_same (fun _ _ _ hv => hv) (fun v w' hh => ?_) hh) (fun x hh => vordJ_of_vord hK hh) h
      cases hb : Nat.ble (cls o.op) 1 with
      | true => simp only [cond_true]; exact vordJ_of_vord hK hh
      | false => simp only [cond_false]; exact ⟨trivial, vordJ_of_vord hK hh⟩
  | .far _ _, _, _, h => h.elim
  | .or a b, _, _, h => ⟨vordJ_of_vord hK h.1, vordJ_of_vord hK h.2⟩
  | .rest _, _, _, h => h.elim

theorem vord_imp {K K' : Env → World → Prop} (hK : ∀ e w, K e w → K' e w) : ∀ {t : Ord} {e : Env} {w : World}, vord P ops t e w K → vord P ops t e w K'
  | .done, _, _, h => hK _ _ h
  | .op k t, e, w, h => by
    simp only [vord] at h ⊢
    split at h
    · exact h.elim
    · rename_i o ho
      exact vguard_imp (fun x hh => vop_same (fun _ _ _ hv => hv) (fun v w' hh => vord_imp hK hh) hh) (fun x hh => vord_imp hK hh) h
  | .far _ _, _, _, h => h.elim
  | .or a b, _, _, h => ⟨vord_imp hK h.1, vord_imp hK h.2⟩
  | .rest _, _, _, h => h.elim

theorem vordJ_imp {J : World → Prop} {K K' : Env → World → Prop} (hK : ∀ e w, K e w → K' e w) : ∀ {t : Ord} {e : Env} {w : World}, vordJ P ops J t e w K → vordJ P ops J t e w K'
  | .done, _, _, h => hK _ _ h
  | .op k t, e, w, h => by
    simp only [vordJ] at h ⊢
    split at h
    · exact h.elim
    · rename_i o ho
      refine vguard_imp (fun x hh => vop_same (fun _ _ _ hv => hv) (fun v w' hh => ?_) hh) (fun x hh => vordJ_imp hK hh) h
      cases hb : Nat.ble (cls o.op) 1 with
      | true => simp only [hb, cond_true] at hh ⊢; exact vordJ_imp hK hh
      | false => simp only [hb, cond_false] at hh ⊢; exact ⟨hh.1, vordJ_imp hK hh.2⟩
  | .far k t, e, w, h => by
    simp only [vordJ] at h ⊢
    split at h
    · exact h.elim
    · split at h
      · exact h.elim
      · exact vopJ_le (Le.refl e) (fun v w' hh => vordJ_imp hK hh) h
  | .or a b, _, _, h => ⟨vordJ_imp hK h.1, vordJ_imp hK h.2⟩
  | .rest _, _, _, h => vord_imp hK h

def up (K : Env → World → Prop) : Env → World → Prop := fun e w => ∃ e0, Le e0 e ∧ K e0 w
theorem up_mono (K : Env → World → Prop) : Mono (up K) := fun _ _ _ hl ⟨e0, h1, h2⟩ => ⟨e0, h1.trans hl, h2⟩
theorem up_mk {K : Env → World → Prop} (e : Env) (w : World) (h : K e w) : up K e w := ⟨e, Le.refl e, h⟩

theorem closed_none : Closed ops (Array.replicate ops.size false) := by
  intro j o _ hl
  rcases Nat.lt_or_ge j ops.size with h | h
  · simp [h] at hl
  · simp [h] at hl

/-- a drawn region -/
theorem wp_drawn {J : World → Prop} {K : Env → World → Prop} {W : List Nat} {t : Ord} {id : Nat} {jb : Bool} {nd : Nat → Bool} (hm : P.follows .mixedOrders = true) (hd : ∀ (k : Nat) (o : Oper), ops[k]? = some o → ∀ d, o.dst = some d → d < a.tmps.size ∧ d ∈ W)
    (hR : Rel e a) (hc : chk ops jb nd t ops.size (Array.replicate ops.size false) = true) (hJ : J w.drew) (h : vordJ P ops J t e w.drew K) :
    (Code.region id ops true).wp P (only fun a' w' => ∃ e', Rel e' a' ∧ Along W a a' ∧ K e' w') a w := by
  have h1 := (vany_of_ord (up_mono K) jb nd t (J := J)).1 ops.size _ e w.drew closed_none hc hJ (vordJ_imp up_mk h)
  have h2 := wpAny_of_vany hd ops.size _ e a w.drew hR (Along.refl W a) h1
  refine wp_mono (wp_region_any (id := id) hm h2) fun ex a' w' hq => ?_
  cases ex <;> simp only [only] at hq ⊢
  obtain ⟨e', h3, h4, e0, h5, h6⟩ := hq
  exact ⟨e0, h3.le h5, h4, h6⟩

theorem vops_sound {K : Env → World → Prop} {W : List Nat} {a0 : Act} (hd : ∀ (k : Nat) (o : Oper), ops[k]? = some o → ∀ d, o.dst = some d → d < a0.tmps.size ∧ d ∈ W) :
    ∀ (l : List Oper) (k : Nat) (e : Env) (a : Act) (w : World), (∀ j, l[j]? = ops[k + j]?) → Rel e a → Along W a0 a → vops P ops l e w K →
      wpOps P ops (only fun a' w' => ∃ e', Rel e' a' ∧ Along W a0 a' ∧ up K e' w') (List.range' k l.length) a w := by
  intro l
  induction l with
  | nil => intro k e a w _ hR hA h; exact ⟨e, hR, hA, up_mk e w h⟩
  | cons o l ih =>
    intro k e a w hl hR hA h
    have h0 : ops[k]? = some o := by simpa using (hl 0).symm
    simp only [List.length_cons, List.range'_succ, wpOps_cons]
    simp only [vops] at h
    have hv : vval P ops o e w fun v w' => ∃ e', Le e' e ∧ vops P ops l (setO o.dst v e') w' K :=
      vval_of_guard h (fun e' he v w' hh => ⟨e', he, hh⟩) (fun e' he hh => ⟨e', he, hh⟩)
    refine wpOp_of_vval h0 hR hv fun v w' ⟨e', he, hh⟩ => ?_
    have hR' : Rel (setO o.dst v e') (a.put o.dst v) := (hR.le he).put fun k' hk' => by rw [hA.size]; exact (hd k o h0 k' hk').1
    exact ih (k + 1) _ _ _ (fun j => by have := hl (j + 1); simpa [Nat.add_assoc, Nat.add_comm 1 j] using this) hR' (hA.put _ _ fun k' hk' => (hd k o h0 k' hk').2) hh

/-- the exits of a body -/
def post (K : Kont) (W : List Nat) (a0 : Act) : Exit → Act → World → Prop
  | .normal, a, w => ∃ e, Rel e a ∧ Along W a0 a ∧ K.n e w
  | .exit id, a, w => ∃ e, Rel e a ∧ Along W a0 a ∧ K.x id e w
  | .ret, a, w => ∃ e, Rel e a ∧ Along W a0 a ∧ K.r e w
  | _, _, _ => False

/-- values that are of these types -/
def Typed (cs : List (Nat × Ty)) (vs : List Value) : Prop := ∀ M : List Value → Prop, tallL (cs.map (·.2)) M → M vs

def valsOf (cs : List (Nat × Ty)) (a : Act) : List Value := cs.map fun p => a.tmps.getD p.1 undef

theorem castTo_elim {t : Ty} {v : Value} {K : Value → Prop} (h : castTo t v K) : K v := by
  unfold castTo at h
  split at h
  · rename_i k k' n
    cases hk : kindEq k k'
    · simp [hk] at h
    · simpa [hk] using h
  · exact h
  · exact h
  · exact h
  · exact h
  · exact h
  · exact h.2
  · exact h
  · exact h.elim

theorem castE_elim (hR : Rel e a) : ∀ {cs : List (Nat × Ty)} {F : List Value → Prop}, castE cs e F → F (valsOf cs a) ∧ Typed cs (valsOf cs a) ∧ ∀ p ∈ cs, p.1 < a.tmps.size
  | [], F, h => ⟨h, fun M hM => hM, by simp⟩
  | p :: cs, F, h => by
    simp only [castE] at h
    split at h
    · rename_i v hv
      have hat := hR _ _ hv
      have hlt : p.1 < a.tmps.size := (Array.getElem?_eq_some_iff.1 hat).1
      have hvals : valsOf (p :: cs) a = v :: valsOf cs a := by
        show a.tmps.getD p.1 undef :: _ = _
        rw [show a.tmps.getD p.1 undef = v by simp [hat]]
        rfl
      obtain ⟨g1, g2, g3⟩ := castE_elim hR (castTo_elim h)
      rw [hvals]
      refine ⟨g1, fun M hM => ?_, fun q hq => ?_⟩
      · have := (cast_tall h hM).2
        exact g2 _ this
      · rcases List.mem_cons.1 hq with rfl | hq
        · exact hlt
        · exact g3 q hq
    · exact h.elim

theorem memb_mem {k : Nat} : ∀ {l : List Nat}, memb k l = false → k ∉ l
  | [], _ => by simp
  | x :: xs, h => by
    simp only [memb, Bool.or_eq_false_iff] at h
    simp only [List.mem_cons, not_or]
    refine ⟨fun hh => ?_, memb_mem h.2⟩
    subst hh
    simp at h

theorem dropE_get {ws : List Nat} {k : Nat} {v : Value} : ∀ {e : Env}, (dropE ws e).get k = some v → e.get k = some v ∧ k ∉ ws
  | [], h => by simp [dropE, Env.get] at h
  | p :: e, h => by
    simp only [dropE] at h
    cases hm : memb p.1 ws with
    | true =>
      rw [hm] at h
      simp only [cond_true] at h
      obtain ⟨h1, h2⟩ := dropE_get h
      refine ⟨?_, h2⟩
      obtain ⟨d, u⟩ := p
      rw [Env.get_cons, if_neg]
      · exact h1
      · intro hh
        subst hh
        have : ∀ l : List Nat, memb d l = true → d ∈ l := by
          intro l
          induction l with
          | nil => simp [memb]
          | cons x xs ih =>
            simp only [memb, Bool.or_eq_true, List.mem_cons]
            rintro (h | h)
            · exact .inl (Nat.eq_of_beq_eq_true h)
            · exact .inr (ih h)
        exact h2 (this ws hm)
    | false =>
      rw [hm] at h
      simp only [cond_false] at h
      obtain ⟨d, u⟩ := p
      rw [Env.get_cons] at h ⊢
      by_cases hd : d = k
      · subst hd
        simp only [if_true] at h ⊢
        exact ⟨h, memb_mem hm⟩
      · simp only [hd, if_false] at h ⊢
        exact dropE_get h

theorem Rel.bind {a' : Act} {ws : List Nat} (hR : Rel e a) (hA : Along ws a a') : ∀ {cs : List (Nat × Ty)}, (∀ p ∈ cs, p.1 < a'.tmps.size) → Rel (bindE cs (valsOf cs a') (dropE ws e)) a'
  | [], _ => fun k v hk => by
    obtain ⟨h1, h2⟩ := dropE_get (show (dropE ws e).get k = some v from hk)
    rw [hA.rest k h2]; exact hR k v h1
  | p :: cs, hlt => by
    intro k v hk
    simp only [valsOf, List.map_cons, bindE, Env.get_cons] at hk
    by_cases hpk : p.1 = k
    · subst hpk
      simp only [if_true, Option.some.injEq] at hk
      have := hlt p (by simp)
      rw [← hk]; simp [this]
    · simp only [hpk, if_false] at hk
      exact Rel.bind hR hA (fun q hq => hlt q (by simp [hq])) k v hk

theorem vcode_sound (hm : P.follows .mixedOrders = true) : ∀ (c : Code) (an : Ann) (K : Kont) (e : Env) (a : Act) (w : World), (∀ d ∈ wr c, d < a.tmps.size) → Rel e a → vcode P c an K e w →
    c.wp P (post K (wr c) a) a w
  | .skip, _, K, e, a, w, _, hR, h => wp_skip ⟨e, hR, Along.refl _ _, by simpa [vcode] using h⟩
  | .exit id, _, K, e, a, w, _, hR, h => wp_exit ⟨e, hR, Along.refl _ _, by simpa [vcode] using h⟩
  | .ret, _, K, e, a, w, _, hR, h => wp_ret ⟨e, hR, Along.refl _ _, by simpa [vcode] using h⟩
  | .region id ops draw, an, K, e, a, w, hd, hR, h => by
    have hd' : ∀ (k : Nat) (o : Oper), ops[k]? = some o → ∀ d, o.dst = some d → d < a.tmps.size ∧ d ∈ wr (.region id ops draw) := by
      intro k o ho d hod
      have hin : d ∈ wr (.region id ops draw) := by
        simp only [wr, List.mem_filterMap]
        obtain ⟨hk, rfl⟩ := Array.getElem?_eq_some_iff.1 ho
        exact ⟨ops[k], by simp, hod⟩
      exact ⟨hd d hin, hin⟩
    have fin : ∀ {K' : Env → World → Prop}, (∀ e w, K' e w → ∃ e0, Le e0 e ∧ K.n e0 w) → (Code.region id ops draw).wp P (only fun a' w' => ∃ e', Rel e' a' ∧ Along (wr (.region id ops draw)) a a' ∧ K' e' w') a w →
        (Code.region id ops draw).wp P (post K (wr (.region id ops draw)) a) a w := by
      intro K' hK hw
      refine wp_mono hw fun ex a' w' hq => ?_
      cases ex <;> simp only [only] at hq
      obtain ⟨e', h1, h2, h3⟩ := hq
      obtain ⟨e0, h4, h5⟩ := hK _ _ h3
      exact ⟨e0, h1.le h4, h2, h5⟩
    cases draw with
    | false =>
      have h : vops P ops ops.toList e w K.n := by cases an <;> exact h
      refine fin (K' := up K.n) (fun e w h => h) (wp_region ?_)
      have := vops_sound hd' ops.toList 0 e a w (by simp) hR (Along.refl _ _) h
      rw [List.range_eq_range']
      simpa using this
    | true =>
      cases an <;> simp only [vcode] at h
      case ord o =>
        cases hc : chk ops false (fun _ => false) o ops.size (Array.replicate ops.size false) with
        | false => rw [hc] at h; exact h.elim
        | true =>
          rw [hc] at h
          exact fin (K' := K.n) (fun e w h => ⟨e, Le.refl e, h⟩) (wp_drawn (J := fun _ => True) hm hd' hR hc trivial (vordJ_of_vord (fun _ _ h => h) h))
      case ordJ o =>
        cases hc : chk ops true (ndOf ops o) o ops.size (Array.replicate ops.size false) with
        | false => rw [hc] at h; exact h.elim
        | true =>
          rw [hc] at h
          obtain ⟨J, h1, h2⟩ := h
          exact fin (K' := K.n) (fun e w h => ⟨e, Le.refl e, h⟩) (wp_drawn hm hd' hR hc h1 h2)
  | .seq b c, an, K, e, a, w, hd, hR, h => by
    have hb : ∀ d ∈ wr b, d < a.tmps.size := fun d hh => hd d (by simp [wr, hh])
    have hc : ∀ a' : Act, a'.tmps.size = a.tmps.size → ∀ d ∈ wr c, d < a'.tmps.size := fun a' hs d hh => by rw [hs]; exact hd d (by simp [wr, hh])
    cases an <;> simp only [vcode] at h
    case seq x y =>
      refine wp_seq (wp_mono (vcode_sound hm b x _ e a w hb hR h) fun ex a' w' hq => ?_)
      cases ex <;> simp only [post] at hq
      case normal =>
        obtain ⟨e', h1, h2, h3⟩ := hq
        refine wp_mono (vcode_sound hm c y K e' a' w' (hc a' h2.size) h1 h3) fun ex a2 w2 hq => ?_
        cases ex <;> simp only [post] at hq ⊢ <;> obtain ⟨e2, g1, g2, g3⟩ := hq <;>
          exact ⟨e2, g1, (h2.mono (by intro k; simp only [wr, List.mem_append]; exact .inl)).trans (g2.mono (by intro k; simp only [wr, List.mem_append]; exact .inr)), g3⟩
      all_goals
        obtain ⟨e', h1, h2, h3⟩ := hq
        exact ⟨e', h1, h2.mono (by intro k; simp only [wr, List.mem_append]; exact .inl), h3⟩
    case cut cs x y =>
      obtain ⟨J, h1, h2⟩ := h
      refine wp_seq (wp_mono (vcode_sound hm b x _ e a w hb hR h1) fun ex a' w' hq => ?_)
      cases ex <;> simp only [post] at hq
      case normal =>
        obtain ⟨e', h3, h4, h5⟩ := hq
        obtain ⟨g1, g2, g3⟩ := castE_elim h3 h5
        have hR' : Rel (bindE cs (valsOf cs a') (dropE (wr b) e)) a' := hR.bind h4 g3
        refine wp_mono (vcode_sound hm c y K _ a' w' (hc a' h4.size) hR' (g2 _ h2 w' g1)) fun ex a2 w2 hq => ?_
        cases ex <;> simp only [post] at hq ⊢ <;> obtain ⟨e2, k1, k2, k3⟩ := hq <;>
          exact ⟨e2, k1, (h4.mono (by intro k; simp only [wr, List.mem_append]; exact .inl)).trans (k2.mono (by intro k; simp only [wr, List.mem_append]; exact .inr)), k3⟩
      all_goals
        obtain ⟨e', h1, h2, h3⟩ := hq
        exact ⟨e', h1, h2.mono (by intro k; simp only [wr, List.mem_append]; exact .inl), h3⟩
  | .cond x b c, an, K, e, a, w, hd, hR, h => by
    cases an <;> simp only [vcode] at h
    case two y z =>
      obtain ⟨t, ht, h⟩ := asBool_elim (v1_elim hR h)
      refine wp_cond ht ?_
      cases t with
      | true =>
        refine wp_mono (vcode_sound hm b y K e a w (fun d hh => hd d (by simp [wr, hh])) hR h) fun ex a2 w2 hq => ?_
        cases ex <;> simp only [post] at hq ⊢ <;> obtain ⟨e2, k1, k2, k3⟩ := hq <;>
          exact ⟨e2, k1, k2.mono (by intro k; simp only [wr, List.mem_append]; exact .inl), k3⟩
      | false =>
        refine wp_mono (vcode_sound hm c z K e a w (fun d hh => hd d (by simp [wr, hh])) hR h) fun ex a2 w2 hq => ?_
        cases ex <;> simp only [post] at hq ⊢ <;> obtain ⟨e2, k1, k2, k3⟩ := hq <;>
          exact ⟨e2, k1, k2.mono (by intro k; simp only [wr, List.mem_append]; exact .inr), k3⟩
  | .block id b, an, K, e, a, w, hd, hR, h => by
    cases an <;> simp only [vcode] at h
    case one x =>
      refine wp_block (wp_mono (vcode_sound hm b x _ e a w hd hR h) fun ex a2 w2 hq => ?_)
      cases ex <;> simp only [post] at hq <;> try exact hq
      rename_i i
      obtain ⟨e2, k1, k2, k3⟩ := hq
      simp only [Exit.inBlock]
      by_cases hi : i = id
      · subst hi
        simp only [Nat.beq_refl, cond_true] at k3
        rw [if_pos rfl]
        exact ⟨e2, k1, k2, k3⟩
      · have hb : Nat.beq i id = false := by cases hb : Nat.beq i id with | false => rfl | true => exact absurd (Nat.eq_of_beq_eq_true hb) hi
        rw [hb] at k3
        rw [if_neg hi]
        exact ⟨e2, k1, k2, k3⟩
  | .loop b, an, K, e, a, w, hd, hR, h => by
    cases an <;> simp only [vcode] at h
    case loop cs x =>
      obtain ⟨I, μ, h1, h2⟩ := h
      obtain ⟨g1, g2, g3⟩ := castE_elim hR h1
      refine wp_loop (fun a' w' => I (valsOf cs a') w' ∧ Typed cs (valsOf cs a') ∧ Along (wr b) a a') (fun a' w' => μ (valsOf cs a') w') ⟨g1, g2, Along.refl _ _⟩ ?_
      rintro a' w' ⟨i1, i2, i3⟩
      have g3' : ∀ p ∈ cs, p.1 < a'.tmps.size := fun p hp => by rw [i3.size]; exact g3 p hp
      have hR' : Rel (bindE cs (valsOf cs a') (dropE (wr b) e)) a' := hR.bind i3 g3'
      refine wp_mono (vcode_sound hm b x _ _ a' w' (fun d hh => by rw [i3.size]; exact hd d hh) hR' (i2 _ h2 w' i1)) fun ex a2 w2 hq => ?_
      cases ex <;> simp only [post] at hq
      case normal =>
        obtain ⟨e2, k1, k2, k3⟩ := hq
        obtain ⟨m1, m2, m3⟩ := castE_elim k1 k3
        exact ⟨⟨m1.1, m2, i3.trans k2⟩, m1.2⟩
      all_goals
        obtain ⟨e2, k1, k2, k3⟩ := hq
        exact ⟨e2, k1, i3.trans k2, k3⟩
  | .rangeFunc .., an, K, e, a, w, _, _, h => by cases an <;> exact h.elim
  | .scope _, an, K, e, a, w, _, _, h => by cases an <;> exact h.elim
  | .label _, an, K, e, a, w, _, _, h => by cases an <;> exact h.elim
  | .goto _, an, K, e, a, w, _, _, h => by cases an <;> exact h.elim
  | .refuse _, an, K, e, a, w, _, _, h => by cases an <;> exact h.elim

end
end Rx
end Go.Proofs.YtkoipeddfbeliaaGreat

/-
  Functions: 'calls_of_vfun'.
-/
namespace Go.Proofs.YtkoipeddfbeliaaGreat
namespace Rx
open Go.RowKit

def vresL (P : Program) : List ResultVar → Env → World → (List Value → Prop) → Prop
  | [], _, _, F => F []
  | .tmp t :: rs, e, w, F => v1 e (.tmp t) fun v => vresL P rs e w fun vs => F (v :: vs)
  | .cell a t :: rs, e, w, F => v1 e (.tmp a) fun v => asAddr v fun a => known P t (vload (tyOf P t) w a fun v => vresL P rs e w fun vs => F (v :: vs))

def vret (P : Program) (rs : List ResultVar) (R : Value → World → Prop) (e : Env) (w : World) : Prop :=
  vresL P rs e w fun vs => match vs with
    | [v] => R v w
    | vs => R (.tuple vs.toArray) w

def argEnv : Nat → List Value → Env
  | _, [] => []
  | k, v :: vs => (k, v) :: argEnv (k + 1) vs

def vfun (P : Program) (fn : Func) (an : Ann) (args : List Value) (w : World) (R : Value → World → Prop) : Prop :=
  match fn.body with
  | some c => vcode P c an ⟨vret P fn.results.toList R, fun _ _ _ => False, vret P fn.results.toList R⟩ (argEnv 0 args) w
  | none => False

section
variable {P : Program} {e : Env} {a : Act} {w : World}

theorem vresL_elim (hR : Rel e a) : ∀ {rs : List ResultVar} {F : List Value → Prop}, vresL P rs e w F → ∃ vs, vs.length = rs.length ∧ (rs.mapM fun
    | .tmp t => pure (a.tmps.getD t undef)
    | .cell x t => do loadVar t (← Go.asAddr (a.tmps.getD x undef)) : Sem (List Value)).run P w = .ok vs w ∧ F vs
  | [], F, h => ⟨[], rfl, rfl, h⟩
  | .tmp t :: rs, F, h => by
    obtain ⟨v, hv, h⟩ := v1_some h
    obtain ⟨vs, h0, h1, h2⟩ := vresL_elim hR h
    have hat := hR t v hv
    have hg : a.tmps.getD t undef = v := by simp [hat]
    exact ⟨v :: vs, by simp [h0], by simp only [List.mapM_cons, Sem.run_bind, Sem.run_pure, Result.andThen_ok, h1, hg], h2⟩
  | .cell x t :: rs, F, h => by
    obtain ⟨v, hv, h⟩ := v1_some h
    obtain ⟨b, hb, h⟩ := asAddr_elim h
    obtain ⟨hd, h⟩ := known_elim h
    obtain ⟨u, h3, h4⟩ := load_sound hd h
    obtain ⟨vs, h0, h1, h2⟩ := vresL_elim hR h4
    have hat := hR x v hv
    have hg : a.tmps.getD x undef = .pointer (some b) := by simp [hat, hb]
    have ha : (Go.asAddr (a.tmps.getD x undef)).run P w = .ok b w := by rw [hg]; rfl
    exact ⟨u :: vs, by simp [h0], by simp only [List.mapM_cons, Sem.run_bind, Sem.run_pure, Result.andThen_ok, h1, ha, h3], h2⟩

theorem argEnv_get : ∀ {vs : List Value} {k t : Nat} {v : Value}, (argEnv k vs).get t = some v → k ≤ t ∧ vs[t - k]? = some v
  | [], k, t, v, h => by simp [argEnv, Env.get] at h
  | u :: vs, k, t, v, h => by
    simp only [argEnv, Env.get_cons] at h
    by_cases hk : k = t
    · subst hk; simp at h; simp [h]
    · simp only [hk, if_false] at h
      obtain ⟨h1, h2⟩ := argEnv_get h
      refine ⟨by omega, ?_⟩
      rw [show t - k = (t - (k + 1)) + 1 by omega]; simpa using h2

def belowB (n : Nat) (l : List Nat) : Bool := l.all fun k => Nat.blt k n

theorem calls_of_vfun {f : FuncId} {fn : Func} {an : Ann} {args : List Value} {R : Value → World → Prop} (hm : P.follows .mixedOrders = true) (hf : P.funcs[f]? = some fn)
    (hn : Nat.ble args.length fn.ntmps = true) (hw : belowB fn.ntmps ((fn.body.map wr).getD []) = true) (h : vfun P fn an args w R) :
    Calls P f args.toArray w fun e w' => ∃ v, e = .returned v ∧ R v w' := by
  unfold vfun at h
  split at h
  · rename_i c hc
    refine calls_of_wp hf hc ?_
    have hle := Nat.le_of_ble_eq_true hn
    have hsz : (args.toArray ++ Array.replicate (fn.ntmps - args.toArray.size) undef).size = fn.ntmps := by simp; omega
    have hR : Rel (argEnv 0 args) { tmps := args.toArray ++ Array.replicate (fn.ntmps - args.toArray.size) undef, defers := [] } := by
      intro t v ht
      obtain ⟨_, h2⟩ := argEnv_get ht
      simp only [Nat.sub_zero] at h2
      have hlt : t < args.length := (List.getElem?_eq_some_iff.1 h2).1
      show (args.toArray ++ _)[t]? = some v
      rw [Array.getElem?_append_left (by simpa using hlt)]
      simpa using h2
    have hd : ∀ d ∈ wr c, d < ({ tmps := args.toArray ++ Array.replicate (fn.ntmps - args.toArray.size) undef, defers := [] } : Act).tmps.size := by
      intro d hdd
      rw [hsz]
      rw [hc] at hw
      have := List.all_eq_true.1 hw d (by simpa using hdd)
      exact Nat.le_of_ble_eq_true this
    have fin : ∀ (a' : Act) (w' : World), a'.defers = [] → (∃ e, Rel e a' ∧ vret P fn.results.toList R e w') → a'.defers = [] ∧ ∃ v, (results fn a'.tmps).run P w' = .ok v w' ∧ ∃ u, Ending.returned v = .returned u ∧ R u w' := by
      rintro a' w' hdef ⟨e, hR', hret⟩
      obtain ⟨vs, h0, h1, h2⟩ := vresL_elim hR' hret
      have hrun : (fn.results.mapM fun
          | .tmp t => pure (a'.tmps.getD t undef)
          | .cell x t => do loadVar t (← Go.asAddr (a'.tmps.getD x undef)) : Sem (Array Value)).run P w' = .ok vs.toArray w' := by
        rw [Array.mapM_eq_mapM_toList]
        simp only [Sem.run_map, h1, Result.andThen_ok]
      refine ⟨hdef, ?_⟩
      have hres : (results fn a'.tmps).run P w' = .ok (if h : vs.toArray.size = 1 then vs.toArray[0] else .tuple vs.toArray) w' := by
        unfold results
        rw [Sem.run_bind]
        exact congrArg (fun r => Result.andThen r fun vs w => (pure (if h : vs.size = 1 then vs[0] else .tuple vs) : Sem Value).run P w) hrun
      rw [hres]
      match vs, h2 with
      | [], h2 => exact ⟨_, rfl, _, rfl, h2⟩
      | [v], h2 => exact ⟨_, rfl, _, rfl, h2⟩
      | v1 :: v2 :: vs, h2 => exact ⟨_, by simp, _, rfl, h2⟩
    refine wp_mono (vcode_sound hm c an _ _ _ w hd hR h) fun ex a' w' hq => ?_
    cases ex <;> simp only [post] at hq
    · obtain ⟨e, h1, h2, h3⟩ := hq
      exact fin a' w' h2.defs ⟨e, h1, h3⟩
    · obtain ⟨e, h1, h2, h3⟩ := hq
      exact h3.elim
    · obtain ⟨e, h1, h2, h3⟩ := hq
      exact fin a' w' h2.defs ⟨e, h1, h3⟩
  · exact h.elim

end
end Rx
end Go.Proofs.YtkoipeddfbeliaaGreat

/-
  Small helpers of the printed conditions.
-/
namespace Go.Proofs.YtkoipeddfbeliaaGreat
namespace Rx
open Go.RowKit

def vnew (w : World) (o : Obj) (K : Addr → World → Prop) : Prop := K ⟨w.heap.size, 0, none⟩ (w.alloc o)
def vput (w : World) (b : Nat) (o : Obj) (K : World → Prop) : Prop := K (w.putObj b o)
def vdraw (w : World) (K : World → Prop) : Prop := K w.drew

theorem mixed : Tryz.prog.follows .mixedOrders = true := by kernel_rfl

end Rx
end Go.Proofs.YtkoipeddfbeliaaGreat

/-
  Memory: blocks, slices, and what a call leaves as it was.
-/
namespace Go.Proofs.YtkoipeddfbeliaaGreat
namespace Rx
open Go.RowKit

/-- what the machine's surroundings show of a world -/
def osO (w : World) : Os × Array (Nat × ByteArray) := (w.os, w.output)

/-- a block of cells -/
def Blk (w : World) (b : Nat) (cs : Array Value) (ty : TypeId) : Prop := w.heap[b]? = some (.cells cs ty)

theorem Blk.lt {w : World} {b : Nat} {cs : Array Value} {ty : TypeId} (h : Blk w b cs ty) : b < w.heap.size := (Array.getElem?_eq_some_iff.1 h).1
theorem Blk.same {w : World} {b : Nat} {cs cs' : Array Value} {ty ty' : TypeId} (h : Blk w b cs ty) (h' : Blk w b cs' ty') : cs = cs' ∧ ty = ty' := by
  have := Option.some.inj (h.symm.trans h'); injection this with h1 h2; exact ⟨h1, h2⟩

@[simp] theorem add_mk (b o k : Nat) : (⟨b, o, none⟩ : Addr).add k = ⟨b, o + k, none⟩ := by
  unfold Addr.add; split
  · rename_i h; subst h; rfl
  · rfl

theorem Blk.cell {w : World} {b : Nat} {cs : Array Value} {ty : TypeId} (h : Blk w b cs ty) (i : Nat) : w.cell? ⟨b, i, none⟩ = cs[i]? := by
  unfold World.cell?
  rw [show w.heap[(⟨b, i, none⟩ : Addr).block]? = some (.cells cs ty) from h]
  rfl
theorem Blk.frozen {w : World} {b : Nat} {cs : Array Value} {ty : TypeId} (h : Blk w b cs ty) (i : Nat) : w.frozen? ⟨b, i, none⟩ = false := by
  unfold World.frozen?
  rw [show w.heap[(⟨b, i, none⟩ : Addr).block]? = some (.cells cs ty) from h]
  show (decide (0 ≤ i) && decide (i < 0)) = false
  simp

theorem ev_w {w w' : World} {b : Nat} (h : w'.heap[b]? = w.heap[b]?) {cs : Array Value} {ty : TypeId} (hb : Blk w b cs ty) : Blk w' b cs ty := h.trans hb

/-- only blocks of a list change; blocks come -/
structure Fr (M : List Nat) (w w' : World) : Prop where
  size : w.heap.size ≤ w'.heap.size
  os : osO w' = osO w
  rest : ∀ b, b < w.heap.size → b ∉ M → w'.heap[b]? = w.heap[b]?

theorem Fr.refl (M : List Nat) (w : World) : Fr M w w := ⟨Nat.le_refl _, rfl, fun _ _ _ => rfl⟩
theorem Fr.blk {M : List Nat} {w w' : World} (h : Fr M w w') {b : Nat} {cs : Array Value} {ty : TypeId} (hb : Blk w b cs ty) (hm : b ∉ M) : Blk w' b cs ty := (h.rest b hb.lt hm).trans hb
theorem Fr.mono {M M' : List Nat} {w w' : World} (h : Fr M w w') (hs : ∀ x ∈ M, x ∈ M') : Fr M' w w' := ⟨h.size, h.os, fun b hb hm => h.rest b hb fun hh => hm (hs b hh)⟩

/-- numbers and bytes stay; entries that are there stay -/
structure Keeps (w w' : World) : Prop where
  flat : ∀ b cs ty, Blk w b cs ty → (ty = 3 ∨ ty = 5) → Blk w' b cs ty
  ents : ∀ b cs, Blk w b cs 47 → ∃ cs', Blk w' b cs' 47 ∧ cs'.size = cs.size ∧ ∀ g i, cs[4 * g]? = some (.int .u64 i) → i ≠ 0 → ∀ j, j < 4 → cs'[4 * g + j]? = cs[4 * g + j]?

theorem Keeps.refl (w : World) : Keeps w w := ⟨fun _ _ _ h _ => h, fun _ cs h => ⟨cs, h, rfl, fun _ _ _ _ _ _ => rfl⟩⟩
theorem Keeps.trans {a b c : World} (h : Keeps a b) (g : Keeps b c) : Keeps a c :=
  ⟨fun k cs ty hb ht => g.flat _ _ _ (h.flat _ _ _ hb ht) ht, fun k cs hb => by
    obtain ⟨cs1, h1, h2, h3⟩ := h.ents _ _ hb
    obtain ⟨cs2, g1, g2, g3⟩ := g.ents _ _ h1
    refine ⟨cs2, g1, g2.trans h2, fun q i hq hi j hj => ?_⟩
    have h0 := h3 q i hq hi 0 (by omega)
    rw [g3 q i (by simpa [hq] using h0) hi j hj, h3 q i hq hi j hj]⟩

/-- a step: the blocks that may change, and those that may change from now on -/
structure Step (F F' : List Nat) (w w' : World) : Prop where
  fr : Fr F w w'
  keeps : Keeps w w'
  own : ∀ x ∈ F', x ∈ F ∨ w.heap.size ≤ x

theorem Step.refl (F : List Nat) (w : World) : Step F F w w := ⟨Fr.refl _ _, Keeps.refl _, fun _ h => .inl h⟩
theorem Step.trans {F F' F'' : List Nat} {a b c : World} (h : Step F F' a b) (g : Step F' F'' b c) : Step F F'' a c where
  fr := ⟨Nat.le_trans h.fr.size g.fr.size, g.fr.os.trans h.fr.os, fun k hk hm => by
    have h1 : k ∉ F' := fun hh => (h.own k hh).elim hm (fun hh => by omega)
    rw [g.fr.rest k (Nat.lt_of_lt_of_le hk h.fr.size) h1, h.fr.rest k hk hm]⟩
  keeps := h.keeps.trans g.keeps
  own := fun x hx => by
    rcases g.own x hx with h1 | h1
    · exact h.own x h1
    · exact .inr (Nat.le_trans h.fr.size h1)

/-- all that is there stays -/
structure Ex (w w' : World) : Prop where
  ext : Ext w w'
  size : w.heap.size ≤ w'.heap.size
  os : osO w' = osO w

theorem Ex.refl (w : World) : Ex w w := ⟨Ext.refl _, Nat.le_refl _, rfl⟩
theorem Ex.trans {a b c : World} (h : Ex a b) (g : Ex b c) : Ex a c := ⟨h.ext.trans g.ext, Nat.le_trans h.size g.size, g.os.trans h.os⟩
theorem Ex.blk {w w' : World} (h : Ex w w') {b : Nat} {cs : Array Value} {ty : TypeId} (hb : Blk w b cs ty) : Blk w' b cs ty := h.ext _ _ hb
theorem Ex.keeps {w w' : World} (h : Ex w w') : Keeps w w' := ⟨fun _ _ _ hb _ => h.blk hb, fun _ cs hb => ⟨cs, h.blk hb, rfl, fun _ _ _ _ _ _ => rfl⟩⟩
theorem Ex.fr {w w' : World} (h : Ex w w') (M : List Nat) : Fr M w w' := ⟨h.size, h.os, fun b hb _ => by
  obtain ⟨o, ho⟩ : ∃ o, w.heap[b]? = some o := ⟨w.heap[b], by simp [hb]⟩
  rw [h.ext b o ho, ho]⟩
theorem Ex.step {w w' : World} (h : Ex w w') (F : List Nat) : Step F F w w' := ⟨h.fr F, h.keeps, fun _ hx => .inl hx⟩
theorem Ex.drew (w : World) : Ex w w.drew := ⟨fun _ _ h => h, Nat.le_refl _, rfl⟩
theorem Ex.alloc (w : World) (o : Obj) : Ex w (w.alloc o) := ⟨Ext.alloc w o, by simp, rfl⟩
theorem Fr.ex {w w' : World} (h : Fr [] w w') : Ex w w' := ⟨fun b o hb => by
  have hlt : b < w.heap.size := (Array.getElem?_eq_some_iff.1 hb).1
  rw [h.rest b hlt (by simp), hb], h.size, h.os⟩
theorem Step.ex {F' : List Nat} {w w' : World} (h : Step [] F' w w') : Ex w w' := h.fr.ex

/-- a block that is nobody's part -/
def Box (w : World) (F : List Nat) (b : Nat) (cs : Array Value) (ty : TypeId) : Prop := Blk w b cs ty ∧ b ∉ F
theorem Step.box {F F' : List Nat} {w w' : World} (s : Step F F' w w') {b : Nat} {cs : Array Value} {ty : TypeId} (h : Box w F b cs ty) : Box w' F' b cs ty :=
  ⟨s.fr.blk h.1 h.2, fun hh => (s.own b hh).elim h.2 (fun hh => by have := h.1.lt; omega)⟩

/-- one block is written -/
structure Put (w w' : World) (b : Nat) (cs : Array Value) (ty : TypeId) : Prop where
  blk : Blk w' b cs ty
  size : w'.heap.size = w.heap.size
  os : osO w' = osO w
  rest : ∀ k, k ≠ b → w'.heap[k]? = w.heap[k]?

theorem Put.fr {w w' : World} {b : Nat} {cs : Array Value} {ty : TypeId} (h : Put w w' b cs ty) {M : List Nat} (hb : b ∈ M) : Fr M w w' :=
  ⟨Nat.le_of_eq h.size.symm, h.os, fun k _ hk => h.rest k fun hh => hk (hh ▸ hb)⟩
theorem Put.other {w w' : World} {b : Nat} {cs : Array Value} {ty : TypeId} (h : Put w w' b cs ty) {k : Nat} {ds : Array Value} {ty' : TypeId} (hk : k ≠ b) (hb : Blk w k ds ty') : Blk w' k ds ty' := (h.rest k hk).trans hb
theorem Put.keeps {w w' : World} {b : Nat} {cs cs0 : Array Value} {ty : TypeId} (h : Put w w' b cs ty) (h0 : Blk w b cs0 ty) (ht : ty ≠ 3 ∧ ty ≠ 5 ∧ ty ≠ 47) : Keeps w w' := by
  refine ⟨fun k ds ty' hk hty => h.other (fun hh => ?_) hk, fun k ds hk => ⟨ds, h.other (fun hh => ?_) hk, rfl, fun _ _ _ _ _ _ => rfl⟩⟩
  · subst hh; have := (h0.same hk).2; subst this; rcases hty with h | h
    · exact ht.1 h
    · exact ht.2.1 h
  · subst hh; exact ht.2.2 (h0.same hk).2

theorem setCell_put {w : World} {b i : Nat} {cs : Array Value} {ty : TypeId} (h : Blk w b cs ty) (v : Value) : Put w (w.setCell ⟨b, i, none⟩ v) b (cs.setIfInBounds i v) ty where
  blk := by
    show (w.heap.modify b _)[b]? = _
    rw [Array.getElem?_modify, if_pos rfl, show w.heap[b]? = some (.cells cs ty) from h]
    rfl
  size := by simp
  os := rfl
  rest := fun k hk => by
    show (w.heap.modify b _)[k]? = _
    rw [Array.getElem?_modify, if_neg (fun hh => hk hh.symm)]

/-- a store into a block -/
theorem vstore1_mk {w : World} {b i : Nat} {cs : Array Value} {ty : TypeId} {v : Value} {K : World → Prop} (h : Blk w b cs ty) (hi : i < cs.size)
    (hK : ∀ w', Put w w' b (cs.setIfInBounds i v) ty → K w') : vstore1 w ⟨b, i, none⟩ v K :=
  ⟨⟨cs[i], by rw [h.cell]; simp [hi]⟩, h.frozen i, hK _ (setCell_put h v)⟩

theorem vnew_mk {w : World} {o : Obj} {K : Addr → World → Prop} (hK : ∀ w', Ex w w' → w'.heap.size = w.heap.size + 1 → w'.heap[w.heap.size]? = some o → K ⟨w.heap.size, 0, none⟩ w') : vnew w o K :=
  hK _ (Ex.alloc w o) (by simp) (by show (w.heap.push o)[w.heap.size]? = some o; simp)

theorem vdraw_mk {w : World} {K : World → Prop} (hK : ∀ w', Ex w w' → w'.heap = w.heap → K w') : vdraw w K := hK _ (Ex.drew w) rfl

theorem vif_mk {b : Bool} {A B : Prop} (h1 : b = true → A) (h2 : b = false → B) : vif b A B := by cases b <;> simp_all [vif]
theorem vif_t {b : Bool} {A B : Prop} (hb : b = true) (h : A) : vif b A B := by subst hb; exact h
theorem vif_f {b : Bool} {A B : Prop} (hb : b = false) (h : B) : vif b A B := by subst hb; exact h

theorem vcells_mk {n : Nat} {w : World} {b i : Nat} {cs : Array Value} {ty : TypeId} {K : Array Value → Prop} (h : Blk w b cs ty) (ds : Array Value) (hs : ds.size = n) (hd : ∀ j v, ds[j]? = some v → cs[i + j]? = some v) (hK : K ds) : vcells n w ⟨b, i, none⟩ K :=
  ⟨ds, hs, fun j v hj => by rw [add_mk, h.cell]; exact hd j v (by simpa using hj), hK⟩
theorem vcells_all {w : World} {b : Nat} {cs : Array Value} {ty : TypeId} {K : Array Value → Prop} (h : Blk w b cs ty) (n : Nat) (hs : cs.size = n) (hK : K cs) : vcells n w ⟨b, 0, none⟩ K :=
  vcells_mk h cs hs (fun j v hj => by simpa using hj) hK

theorem putCells_put {ty : TypeId} {b o : Nat} : ∀ (vs : List Value) (w : World) (cs : Array Value) (i : Nat), Blk w b cs ty → Put w (putCells w ⟨b, o, none⟩ vs i) b (setMany cs.toList (o + i) vs).toArray ty
  | [], w, cs, i, h => ⟨by simpa [putCells, setMany] using h, rfl, rfl, fun _ _ => rfl⟩
  | v :: vs, w, cs, i, h => by
    have h1 := setCell_put (i := o + i) h v
    have h2 := putCells_put (o := o) vs _ _ (i + 1) h1.blk
    have he : (setMany cs.toList (o + i) (v :: vs)) = setMany (cs.setIfInBounds (o + i) v).toList (o + (i + 1)) vs := by
      simp [setMany, Nat.add_assoc]
    rw [he]
    have hp : putCells w ⟨b, o, none⟩ (v :: vs) i = putCells (w.setCell ⟨b, o + i, none⟩ v) ⟨b, o, none⟩ vs (i + 1) := by simp [putCells]
    rw [hp]
    exact ⟨h2.blk, h2.size.trans h1.size, h2.os.trans h1.os, fun k hk => (h2.rest k hk).trans (h1.rest k hk)⟩

theorem Blk.room {w : World} {b i n : Nat} {cs : Array Value} {ty : TypeId} (h : Blk w b cs ty) (hi : i + n ≤ cs.size) : Room w ⟨b, i, none⟩ n := fun j hj => by
  rw [add_mk]
  exact ⟨⟨cs[i + j]'(by omega), by rw [h.cell]; simp [show i + j < cs.size by omega]⟩, h.frozen _⟩

theorem vstoreN_mk {w : World} {b i n : Nat} {cs vs : Array Value} {ty : TypeId} {K : World → Prop} (h : Blk w b cs ty) (hv : vs.size = n) (hi : i + n ≤ cs.size) (ho : ∀ v ∈ vs.toList, isOne v = true)
    (hK : ∀ w', Put w w' b (setMany cs.toList i vs.toList).toArray ty → K w') : vstoreN w ⟨b, i, none⟩ n vs K :=
  ⟨hv, h.room hi, fun v hh => isOne_cell (ho v hh), hK _ (by simpa using putCells_put vs.toList w cs 0 h)⟩

end Rx
end Go.Proofs.YtkoipeddfbeliaaGreat

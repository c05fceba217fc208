/- A part of the abstract machine on which the proof of this claim stands: AMDraw (definitions and lemmas alone; no statement of the claim; no condition). -/
import Derived.Test.YtjcblncfehfonaaGreatDoorAMX
namespace Go.AM
open Go
section
variable {E : Env} {inv : Inv}

/-! ### frames: two settings, either first -/
theorem Fr.set_comm (t1 t2 : Nat) (v u : AV) (h : t1 ≠ t2) : ∀ fr : Fr, (Fr.set (Fr.set fr t1 v) t2 u) = (Fr.set (Fr.set fr t2 u) t1 v)
  | [] => by
    simp only [Fr.set]
    rcases Nat.lt_or_gt_of_ne h with h1 | h1
    · rw [if_neg (by omega), if_neg (by omega), if_pos h1]
    · rw [if_pos h1, if_neg (by omega), if_neg (by omega)]
  | (k, x) :: r => by
    simp only [Fr.set]
    by_cases a1 : t1 < k
    · rw [if_pos a1]
      by_cases b1 : t2 < k
      · rw [if_pos b1]
        simp only [Fr.set]
        rcases Nat.lt_or_gt_of_ne h with h1 | h1
        · rw [if_neg (by omega), if_neg (by omega), if_pos b1, if_pos h1]
        · rw [if_pos h1, if_neg (by omega), if_neg (by omega), if_pos a1]
      · rw [if_neg b1]
        by_cases b2 : k = t2
        · subst b2
          simp only [if_true, Fr.set]
          rw [if_neg (by omega), if_neg (by omega), if_neg (by omega), if_pos a1]
        · rw [if_neg b2]
          simp only [Fr.set]
          rw [if_neg (by omega), if_neg (by omega), if_neg b1, if_neg b2, if_pos a1]
    · rw [if_neg a1]
      by_cases a2 : k = t1
      · subst a2
        simp only [if_true]
        by_cases b1 : t2 < k
        · rw [if_pos b1]
          simp only [Fr.set]
          rw [if_pos b1, if_neg (by omega), if_neg (by omega)]
          simp
        · rw [if_neg b1, if_neg h]
          simp only [Fr.set]
          rw [if_neg b1, if_neg h]
          simp
      · rw [if_neg a2]
        by_cases b1 : t2 < k
        · rw [if_pos b1]
          simp only [Fr.set]
          rw [if_pos b1, if_neg (by omega), if_neg (by omega), if_neg a1, if_neg a2]
        · rw [if_neg b1]
          by_cases b2 : k = t2
          · subst b2
            simp only [if_true, Fr.set]
            rw [if_neg (by omega), if_neg (by omega)]
            simp [a2]
          · rw [if_neg b2]
            simp only [Fr.set]
            rw [if_neg b1, if_neg b2, if_neg a1, if_neg a2, Fr.set_comm t1 t2 v u h r]

theorem Fr.get_set' (fr : Fr) (t t' : Nat) (v : AV) (h : t' ≠ t) : (Fr.set fr t v).get t' = fr.get t' := by
  induction fr with
  | nil => simp only [Fr.set, Fr.get]; rw [if_neg (Ne.symm h)]
  | cons p r ih =>
    obtain ⟨k, u⟩ := p
    unfold Fr.set
    split
    · simp only [Fr.get]
      rw [if_neg (Ne.symm h)]
    · split
      · rename_i h1 h2
        subst h2
        simp only [Fr.get]
        rw [if_neg (Ne.symm h), if_neg (Ne.symm h)]
      · simp only [Fr.get, ih]

theorem Fr.eval_set (fr : Fr) (t : Nat) (v : AV) (x : Operand) (h : x ≠ .tmp t) : (Fr.set fr t v).eval x = fr.eval x := by
  cases x with
  | tmp t' => exact Fr.get_set' fr t t' v (fun e => h (e ▸ rfl))
  | _ => rfl

/-! ### an operation sees its operands alone -/
theorem evals_congr {fr fr' : Fr} {l : List Operand} (h : ∀ x ∈ l, fr.eval x = fr'.eval x) : evals fr l = evals fr' l := List.map_congr_left h
theorem parts_congr {fr fr' : Fr} {l : List (Nat × Operand)} (h : ∀ x ∈ l.map (·.2), fr.eval x = fr'.eval x) :
    (l.map fun p => (p.1, fr.eval p.2)) = l.map fun p => (p.1, fr'.eval p.2) :=
  List.map_congr_left fun p hp => by rw [h p.2 (List.mem_map_of_mem hp)]
theorem opt_congr {fr fr' : Fr} {o : Option Operand} (h : ∀ x ∈ o.toArray, fr.eval x = fr'.eval x) : o.map fr.eval = o.map fr'.eval := by
  cases o with
  | none => rfl
  | some x => simp [h x (by simp)]

theorem stepOp_congr {fr fr' : Fr} {o : Op} {m : Mem} (h : ∀ x ∈ o.operands, fr.eval x = fr'.eval x) : stepOp E inv fr o m = stepOp E inv fr' o m := by
  have hr : ready fr o = ready fr' o := by
    have : (o.operands.toList.all fun x => !(fr.eval x).isUnd) = (o.operands.toList.all fun x => !(fr'.eval x).isUnd) := by
      rw [Bool.eq_iff_iff, List.all_eq_true, List.all_eq_true]
      constructor
      · intro h1 x hx; rw [← h x (by simpa using hx)]; exact h1 x hx
      · intro h1 x hx; rw [h x (by simpa using hx)]; exact h1 x hx
    unfold ready
    split <;> first | rfl | exact this
  have hc : stepCore E inv fr o m = stepCore E inv fr' o m := by
    cases o with
    | move x => simp only [stepCore, h x (by simp [Op.operands])]
    | assign x => simp only [stepCore, h x (by simp [Op.operands])]
    | pick c a b => simp only [stepCore, h c (by simp [Op.operands]), h a (by simp [Op.operands]), h b (by simp [Op.operands])]
    | box t x => simp only [stepCore, h x (by simp [Op.operands])]
    | load t x => simp only [stepCore, h x (by simp [Op.operands])]
    | nilCheck x => simp only [stepCore, h x (by simp [Op.operands])]
    | unOp u t x => simp only [stepCore, h x (by simp [Op.operands])]
    | convert s d x => simp only [stepCore, h x (by simp [Op.operands])]
    | makeInterface t x => simp only [stepCore, h x (by simp [Op.operands])]
    | fieldAddr t x f => simp only [stepCore, h x (by simp [Op.operands])]
    | field t x f => simp only [stepCore, h x (by simp [Op.operands])]
    | extract x i => simp only [stepCore, h x (by simp [Op.operands])]
    | store t a v => simp only [stepCore, h a (by simp [Op.operands]), h v (by simp [Op.operands])]
    | binOp op t a v y => simp only [stepCore, h a (by simp [Op.operands]), h v (by simp [Op.operands])]
    | makeSlice t a v => simp only [stepCore, h a (by simp [Op.operands]), h v (by simp [Op.operands])]
    | indexAddr t a v => simp only [stepCore, h a (by simp [Op.operands]), h v (by simp [Op.operands])]
    | index t a v => simp only [stepCore, h a (by simp [Op.operands]), h v (by simp [Op.operands])]
    | lookup t a v ok => simp only [stepCore, h a (by simp [Op.operands]), h v (by simp [Op.operands])]
    | mapUpdate t a k v => simp only [stepCore, h a (by simp [Op.operands]), h k (by simp [Op.operands]), h v (by simp [Op.operands])]
    | insert t a k v => simp only [stepCore, h a (by simp [Op.operands]), h k (by simp [Op.operands]), h v (by simp [Op.operands])]
    | build t ps =>
      simp only [stepCore]
      rw [parts_congr (fun x hx => h x (by simpa [Op.operands] using hx))]
    | buildSlice t n ps =>
      simp only [stepCore]
      rw [parts_congr (fun x hx => h x (by simpa [Op.operands] using hx))]
    | makeFunc f a b =>
      simp only [stepCore]
      rw [evals_congr (l := a.toList) (fr' := fr') (fun x hx => h x (by simp [Op.operands] at hx ⊢; exact Or.inl hx)),
        evals_congr (l := b.toList) (fr' := fr') (fun x hx => h x (by simp [Op.operands] at hx ⊢; exact Or.inr hx))]
    | slice t x lo hi mx =>
      simp only [stepCore]
      rw [h x (by simp [Op.operands]), opt_congr (fun y hy => h y (by simp only [Op.operands, Array.mem_append]; exact Or.inl (Or.inl (Or.inr hy)))),
        opt_congr (o := hi) (fun y hy => h y (by simp only [Op.operands, Array.mem_append]; exact Or.inl (Or.inr hy))),
        opt_congr (o := mx) (fun y hy => h y (by simp only [Op.operands, Array.mem_append]; exact Or.inr hy))]
    | call c =>
      simp only [stepCore]
      have ha : evals fr c.args.toList = evals fr' c.args.toList := evals_congr (fun x hx => h x (by
        simp only [Op.operands, Call.operands]
        cases c.callee <;> simp at hx ⊢ <;> first | exact Or.inr hx | exact hx))
      rw [ha]
      cases hcal : c.callee with
      | value f => simp only [h f (by simp [Op.operands, Call.operands, hcal])]
      | _ => rfl
    | makeMap t r => cases r <;> simp [stepCore]
    | _ => rfl
  unfold stepOp
  rw [hr, hc]

/-! ### what an operation does to the memory -/
theorem with0_mem {m m' : Mem} {x : Option AV} {v : AV} (h : with0 m x = some (v, m')) : m' = m ∧ ∀ m2, with0 m2 x = some (v, m2) := by
  cases x with
  | none => simp [with0] at h
  | some y =>
    simp only [with0, Option.some.injEq, Prod.mk.injEq] at h
    obtain ⟨rfl, rfl⟩ := h
    exact ⟨rfl, fun _ => rfl⟩

theorem eqRes_free {t : Nat} {ti : TyI} (ht : E.ty t = some ti) (hk : (∃ k, ti.kind = .int k) ∨ ti.kind = .bool ∨ ti.kind = .str) (m m2 : Mem) (isC n : Bool) (x y : AV) :
    eqRes E m isC n t x y = eqRes E m2 isC n t x y := by
  unfold eqRes
  rw [ht]
  rcases hk with ⟨k, hk⟩ | hk | hk <;> simp only [hk]

theorem stepOp_silent {fr : Fr} {o : Op} {m m' : Mem} {v : AV} (hk : opKind E o = 0) (h : stepOp E inv fr o m = some (v, m')) :
    m' = m ∧ ∀ m2, stepOp E inv fr o m2 = some (v, m2) := by
  unfold stepOp at h ⊢
  split at h
  rotate_left
  · simp at h
  rename_i hr
  simp only [hr, if_true]
  cases o with
  | move x => exact with0_mem h
  | assign x => exact with0_mem h
  | pick c a b =>
    simp only [stepCore] at h ⊢
    split at h
    · exact with0_mem h
    · exact with0_mem h
    · simp at h
  | build t ps => exact with0_mem h
  | buildSlice t n ps => exact with0_mem h
  | nilCheck x =>
    simp only [stepCore] at h ⊢
    split at h
    · simp only [Option.some.injEq, Prod.mk.injEq] at h; obtain ⟨rfl, rfl⟩ := h; exact ⟨rfl, fun _ => rfl⟩
    · simp only [Option.some.injEq, Prod.mk.injEq] at h; obtain ⟨rfl, rfl⟩ := h; exact ⟨rfl, fun _ => rfl⟩
    · split at h
      · simp only [Option.some.injEq, Prod.mk.injEq] at h; obtain ⟨rfl, rfl⟩ := h; exact ⟨rfl, fun _ => rfl⟩
      · simp at h
    · simp only [Option.some.injEq, Prod.mk.injEq] at h; obtain ⟨rfl, rfl⟩ := h; exact ⟨rfl, fun _ => rfl⟩
    · simp only [Option.some.injEq, Prod.mk.injEq] at h; obtain ⟨rfl, rfl⟩ := h; exact ⟨rfl, fun _ => rfl⟩
    · simp at h
  | binOp op t x y yt =>
    have hf : ∀ m2, binRes E m2 (isConst x || isConst y) op t (fr.eval x) (fr.eval y) = binRes E m (isConst x || isConst y) op t (fr.eval x) (fr.eval y) := by
      intro m2
      unfold binRes
      have key : op = .eql ∨ op = .neq → ∀ n a b, eqRes E m2 (isConst x || isConst y) n t a b = eqRes E m (isConst x || isConst y) n t a b := by
        intro ho n a b
        have : ∃ ti, E.ty t = some ti ∧ ((∃ k, ti.kind = .int k) ∨ ti.kind = .bool ∨ ti.kind = .str) := by
          rcases ho with rfl | rfl
          all_goals
            simp only [opKind] at hk
            split at hk
            · rename_i ti hti
              refine ⟨ti, hti, ?_⟩
              split at hk
              · rename_i k hk'; exact Or.inl ⟨k, hk'⟩
              · rename_i hk'; exact Or.inr (Or.inl hk')
              · rename_i hk'; exact Or.inr (Or.inr hk')
              · simp at hk
            · simp at hk
        obtain ⟨ti, h1, h2⟩ := this
        exact eqRes_free h1 h2 _ _ _ _ _ _
      split
      · rfl
      · rfl
      · cases op <;> first | rfl | exact key (Or.inl rfl) _ _ _ | exact key (Or.inr rfl) _ _ _
    simp only [stepCore] at h ⊢
    obtain ⟨h1, h2⟩ := with0_mem h
    exact ⟨h1, fun m2 => by rw [hf m2]; exact h2 m2⟩
  | unOp u t x => exact with0_mem h
  | makeInterface t x => exact with0_mem h
  | makeFunc f a b =>
    simp only [stepCore] at h ⊢
    repeat' split at h
    all_goals first
      | (simp at h; done)
      | (simp only [Option.some.injEq, Prod.mk.injEq] at h; obtain ⟨rfl, rfl⟩ := h; simp [*])
  | slice t x lo hi mx => exact with0_mem h
  | fieldAddr t x f => exact with0_mem h
  | field t x f => exact with0_mem h
  | indexAddr t x i => exact with0_mem h
  | index t x i => exact with0_mem h
  | extract x i =>
    simp only [stepCore] at h ⊢
    split at h
    · exact with0_mem h
    · simp at h
  | call c =>
    simp only [opKind] at hk
    simp only [stepCore] at h ⊢
    split at h
    rotate_left
    · simp at h
    rename_i hd
    simp only [hd, if_true]
    split at hk
    · rename_i hc
      simp only [hc] at h ⊢
      unfold builtinRes at h ⊢
      split at h <;> first | contradiction | skip
      · split at h
        · rename_i hl
          simp only [Option.some.injEq, Prod.mk.injEq] at h; obtain ⟨rfl, rfl⟩ := h
          exact ⟨rfl, fun _ => by simp [*]⟩
        · simp at h
    · rename_i hc
      simp only [hc] at h ⊢
      unfold builtinRes at h ⊢
      split at h <;> first | contradiction | skip
      · split at h
        · rename_i hl
          simp only [Option.some.injEq, Prod.mk.injEq] at h; obtain ⟨rfl, rfl⟩ := h
          exact ⟨rfl, fun _ => by simp [*]⟩
        · simp at h
    · rename_i hc
      simp only [hc] at h ⊢
      unfold builtinRes at h ⊢
      split at h <;> first | contradiction | skip
      · split at h
        · rename_i hl
          simp only [Option.some.injEq, Prod.mk.injEq] at h; obtain ⟨rfl, rfl⟩ := h
          exact ⟨rfl, fun _ => by simp [*]⟩
        · simp at h
    · simp at hk
  | _ => simp [opKind] at hk

theorem stepOp_quiet {fr : Fr} {o : Op} {m m' : Mem} {v : AV} (hk : opKind E o ≤ 1) (h : stepOp E inv fr o m = some (v, m')) : m' = m := by
  by_cases h0 : opKind E o = 0
  · exact (stepOp_silent h0 h).1
  · unfold stepOp at h
    split at h
    rotate_left
    · simp at h
    cases o with
    | load t a => exact (with0_mem h).1
    | convert s d x => exact (with0_mem h).1
    | lookup t a k ok => exact (with0_mem h).1
    | binOp op t x y yt => exact (with0_mem h).1
    | call c =>
      exfalso
      simp only [opKind] at hk h0
      split at hk <;> simp_all
    | _ => simp [opKind] at hk h0

end
end Go.AM

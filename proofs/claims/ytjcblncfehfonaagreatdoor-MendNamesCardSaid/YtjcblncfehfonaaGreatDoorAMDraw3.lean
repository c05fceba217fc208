/- A part of the abstract machine on which the proof of this claim stands: AMDraw3 (definitions and lemmas alone; no statement of the claim; no condition). -/
import Derived.Test.YtjcblncfehfonaaGreatDoorAMDraw2
namespace Go.AM
open Go
section
variable {E : Env} {inv : Inv} {nt : Nat} {ops : Array Oper}

/-- those that are not listed yet, in text order -/
def restL (L : Array Bool) : List Oper → Nat → List Oper
  | [], _ => []
  | o :: os, i => if L.getD i false then restL L os (i + 1) else o :: restL L os (i + 1)

theorem restL_all (n : Nat) : ∀ (l : List Oper) (i : Nat), restL (Array.replicate n false) l i = l
  | [], _ => rfl
  | o :: os, i => by
    unfold restL
    rw [if_neg, restL_all n os (i + 1)]
    rw [Array.getD_eq_getD_getElem?, Array.getElem?_replicate]
    split <;> simp

theorem getD_set (L : Array Bool) (i j : Nat) (hi : i < L.size) : (L.setIfInBounds i true).getD j false = if j = i then true else L.getD j false := by
  simp only [Array.getD_eq_getD_getElem?, Array.getElem?_setIfInBounds]
  by_cases h : i = j
  · subst h; simp [hi]
  · rw [if_neg h, if_neg (Ne.symm h)]

theorem restL_set_above {L : Array Bool} {i : Nat} (hi : i < L.size) : ∀ (l : List Oper) (k : Nat), i < k → restL (L.setIfInBounds i true) l k = restL L l k
  | [], _, _ => rfl
  | o :: os, k, hk => by
    unfold restL
    rw [getD_set L i k hi, if_neg (show ¬ k = i by omega), restL_set_above hi os (k + 1) (by omega)]

theorem restL_mem {L : Array Bool} {q : Oper} : ∀ (l : List Oper) (k : Nat), q ∈ restL L l k → q ∈ l
  | [], _, h => h
  | o :: l, k, h => by
    unfold restL at h
    split at h
    · exact List.mem_cons_of_mem _ (restL_mem l (k + 1) h)
    · rcases List.mem_cons.1 h with rfl | h
      · exact List.mem_cons_self ..
      · exact List.mem_cons_of_mem _ (restL_mem l (k + 1) h)

theorem restL_take {L : Array Bool} {i : Nat} (hi : i < L.size) (hl : L.getD i false = false) {o : Oper} : ∀ (l : List Oper) (k : Nat), k ≤ i → l[i - k]? = some o →
    ∃ pre post, restL L l k = pre ++ o :: post ∧ restL (L.setIfInBounds i true) l k = pre ++ post ∧
      (∀ pre1 p pre2, pre = pre1 ++ p :: pre2 → ∃ j, k ≤ j ∧ j < i ∧ l[j - k]? = some p ∧ L.getD j false = false ∧ ∀ q ∈ p :: pre2 ++ o :: post, q ∈ l.drop (j - k)) ∧
      (∀ q ∈ o :: post, q ∈ l.drop (i - k))
  | [], k, _, h => by simp at h
  | p :: l, k, hk, h => by
    by_cases he : k = i
    · subst he
      simp only [Nat.sub_self, List.getElem?_cons_zero, Option.some.injEq] at h
      subst h
      refine ⟨[], restL L l (k + 1), ?_, ?_, by simp, ?_⟩
      · simp [restL, hl]
      · simp only [restL, getD_set L k k hi, if_true, List.nil_append]
        exact restL_set_above hi l (k + 1) (by omega)
      · intro q hq
        simp only [Nat.sub_self, List.drop_zero]
        rcases List.mem_cons.1 hq with rfl | hq
        · exact List.mem_cons_self ..
        · exact List.mem_cons_of_mem _ (restL_mem l _ hq)
    · have hlt : k < i := by omega
      have e : i - k = (i - (k + 1)) + 1 := by omega
      rw [e, List.getElem?_cons_succ] at h
      obtain ⟨pre, post, h1, h2, h3, h4⟩ := restL_take hi hl l (k + 1) (by omega) h
      have lift : ∀ pre1 r pre2, pre = pre1 ++ r :: pre2 → ∃ j, k ≤ j ∧ j < i ∧ (p :: l)[j - k]? = some r ∧ L.getD j false = false ∧ ∀ q ∈ r :: pre2 ++ o :: post, q ∈ (p :: l).drop (j - k) := by
        intro pre1 r pre2 hr
        obtain ⟨j, a1, a2, a3, a4, a5⟩ := h3 pre1 r pre2 hr
        refine ⟨j, by omega, a2, ?_, a4, ?_⟩
        · rw [show j - k = (j - (k + 1)) + 1 by omega, List.getElem?_cons_succ]
          exact a3
        · rw [show j - k = (j - (k + 1)) + 1 by omega, List.drop_succ_cons]
          exact a5
      have last : ∀ q ∈ o :: post, q ∈ (p :: l).drop (i - k) := by
        rw [e, List.drop_succ_cons]; exact h4
      by_cases hb : L.getD k false = true
      · refine ⟨pre, post, ?_, ?_, lift, last⟩
        · simp only [restL, hb, if_true]; exact h1
        · simp only [restL, getD_set L i k hi, if_neg he, hb, if_true]; exact h2
      · refine ⟨p :: pre, post, ?_, ?_, ?_, last⟩
        · simp only [restL, if_neg hb, h1, List.cons_append]
        · simp only [restL, getD_set L i k hi, if_neg he, if_neg hb, h2, List.cons_append]
        · intro pre1 r pre2 hr
          cases pre1 with
          | nil =>
            simp only [List.nil_append, List.cons.injEq] at hr
            obtain ⟨rfl, rfl⟩ := hr
            refine ⟨k, Nat.le_refl _, hlt, by simp, by simpa using hb, ?_⟩
            intro q hq
            simp only [Nat.sub_self, List.drop_zero]
            rw [List.cons_append] at hq
            rcases List.mem_cons.1 hq with rfl | hq
            · exact List.mem_cons_self ..
            · rw [← h1] at hq
              exact List.mem_cons_of_mem _ (restL_mem l _ hq)
          | cons r' pre1 =>
            simp only [List.cons_append, List.cons.injEq] at hr
            exact lift pre1 r pre2 hr.2

theorem restL_nil {L : Array Bool} : ∀ (l : List Oper) (k : Nat), restL L l k = [] → ∀ j, k ≤ j → j < k + l.length → L.getD j false = true
  | [], k, _, j, h1, h2 => by simp at h2; omega
  | o :: l, k, h, j, h1, h2 => by
    unfold restL at h
    split at h
    · rename_i hb
      by_cases he : j = k
      · rw [he]; exact hb
      · exact restL_nil l (k + 1) h j (by omega) (by simp at h2; omega)
    · simp at h

theorem restL_least {L : Array Bool} : ∀ (l : List Oper) (k : Nat), restL L l k ≠ [] → ∃ j, k ≤ j ∧ j < k + l.length ∧ L.getD j false = false ∧ ∀ i, k ≤ i → i < j → L.getD i false = true
  | [], _, h => by simp [restL] at h
  | o :: l, k, h => by
    unfold restL at h
    split at h
    · rename_i hb
      obtain ⟨j, h1, h2, h3, h4⟩ := restL_least l (k + 1) h
      refine ⟨j, by omega, by simp; omega, h3, fun i hi1 hi2 => ?_⟩
      by_cases he : i = k
      · rw [he]; exact hb
      · exact h4 i (by omega) hi2
    · rename_i hb
      exact ⟨k, Nat.le_refl _, by simp, by simpa using hb, fun i h1 h2 => by omega⟩

/-! ### the masks -/
theorem fold_bit {acc : List Nat} : ∀ (es : List Edge) (s j : Nat), (es.foldl (fun s e => if Region.binds .any e then s ||| 2 ^ e.on ||| acc.getD e.on 0 else s) s).testBit j = true →
    s.testBit j = true ∨ ∃ e ∈ es, Region.binds .any e = true ∧ (j = e.on ∨ (acc.getD e.on 0).testBit j = true)
  | [], s, j, h => Or.inl h
  | e :: es, s, j, h => by
    simp only [List.foldl_cons] at h
    rcases fold_bit es _ j h with h | ⟨e', he', hb', h⟩
    · split at h
      · rename_i hb
        simp only [Nat.testBit_or, Bool.or_eq_true] at h
        rcases h with (h | h) | h
        · exact Or.inl h
        · refine Or.inr ⟨e, List.mem_cons_self .., hb, Or.inl ?_⟩
          rw [Nat.testBit_two_pow] at h
          simp at h; omega
        · exact Or.inr ⟨e, List.mem_cons_self .., hb, Or.inr h⟩
      · exact Or.inl h
    · exact Or.inr ⟨e', List.mem_cons_of_mem _ he', hb', h⟩

/-- the masks lead to what is ahead and nothing else -/
def Masks (l : List Oper) (acc : List Nat) : Prop := ∀ (i : Nat) (o : Oper), l[i]? = some o → i < acc.length → ∀ D : Nat → Prop,
  (∀ (k : Nat) (o' : Oper), l[k]? = some o' → D k → ∀ e ∈ o'.after.toList, Region.binds .any e = true → D e.on) → (∀ e ∈ o.after.toList, Region.binds .any e = true → D e.on) → ∀ j, (acc.getD i 0).testBit j = true → D j

theorem ancs_masks (l : List Oper) : ∀ (os done : List Oper) (acc : List Nat), l = done ++ os → acc.length = done.length → Masks l acc → Masks l (ancs os acc)
  | [], _, _, _, _, h => h
  | o :: os, done, acc, hl, hlen, h => by
    unfold ancs
    refine ancs_masks l os (done ++ [o]) _ (by simp [hl]) (by simp [hlen]) ?_
    intro i o' ho' hi D hD hafter j hj
    by_cases hlt : i < acc.length
    · rw [List.getD_eq_getElem?_getD, List.getElem?_append_left hlt, ← List.getD_eq_getElem?_getD] at hj
      exact h i o' ho' hlt D hD hafter j hj
    · have he : i = acc.length := by simp at hi; omega
      subst he
      rw [List.getD_eq_getElem?_getD, List.getElem?_append_right (Nat.le_refl _)] at hj
      simp only [Nat.sub_self, List.getElem?_cons_zero, Option.getD_some] at hj
      have ho : o' = o := by
        rw [hl, hlen, List.getElem?_append_right (Nat.le_refl _)] at ho'
        simpa using ho'.symm
      subst ho
      rcases fold_bit _ _ _ hj with hj | ⟨e, he, hb, hj | hj⟩
      · simp at hj
      · rw [hj]; exact hafter e he hb
      · have hon : e.on < acc.length := by
          rcases Nat.lt_or_ge e.on acc.length with h | h
          · exact h
          · rw [List.getD_eq_getElem?_getD, List.getElem?_eq_none h] at hj
            simp at hj
        have hsome : ∃ o2, l[e.on]? = some o2 := by
          refine ⟨l[e.on]'?_, List.getElem?_eq_getElem _⟩
          rw [hl]; simp; omega
        obtain ⟨o2, ho2⟩ := hsome
        exact h e.on o2 ho2 hon D hD (hD e.on o2 ho2 (hafter e he hb)) j hj

/-- what the check says of operation i and an earlier one -/
def PairAt (E : Env) (ops : Array Oper) (fr : Fr) (i b j : Nat) (o p : Oper) : Prop :=
  b.testBit j = true ∨ indep E ops p o = true ∨ (Oper.apart ops p o = true ∧ dynOk fr (ops.toList.drop j) (ops.toList.drop i) p o = true)

theorem okWith_spec {fr : Fr} {o : Oper} {i b : Nat} : ∀ (ps : List Oper) (k : Nat), okWith E ops fr o i b ps k = true → ∀ (j : Nat) (p : Oper), ps[j]? = some p → PairAt E ops fr i b (k + j) o p
  | [], _, _, j, p, hp => by simp at hp
  | q :: ps, k, h, j, p, hp => by
    simp only [okWith, Bool.and_eq_true, Bool.or_eq_true] at h
    cases j with
    | zero =>
      simp only [List.getElem?_cons_zero, Option.some.injEq] at hp; subst hp
      rcases h.1 with (h | h) | h
      · exact Or.inl h
      · exact Or.inr (Or.inl h)
      · exact Or.inr (Or.inr h)
    | succ j =>
      rw [List.getElem?_cons_succ] at hp
      have := okWith_spec ps (k + 1) h.2 j p hp
      rwa [show k + 1 + j = k + (j + 1) by omega] at this

theorem okAll_spec {fr : Fr} {B : List Nat} : ∀ (os pre : List Oper) (i : Nat), pre.length = i → okAll E ops fr B pre os i = true → ∀ (k : Nat) (o : Oper), i ≤ k → (pre ++ os)[k]? = some o →
    ∀ (j : Nat) (p : Oper), j < k → (pre ++ os)[j]? = some p → PairAt E ops fr k (B.getD k 0) j o p
  | [], pre, i, hp, _, k, o, hk, ho => by
    rw [List.append_nil] at ho
    have := List.getElem?_eq_some_iff.1 ho
    obtain ⟨h, _⟩ := this
    omega
  | q :: os, pre, i, hp, h, k, o, hk, ho => by
    simp only [okAll, Bool.and_eq_true] at h
    by_cases he : k = i
    · subst he
      rw [List.getElem?_append_right (by omega)] at ho
      simp only [hp, Nat.sub_self, List.getElem?_cons_zero, Option.some.injEq] at ho
      subst ho
      intro j p hj hpj
      rw [List.getElem?_append_left (by omega)] at hpj
      have := okWith_spec pre 0 h.1 j p hpj
      simpa using this
    · have e : pre ++ q :: os = (pre ++ [q]) ++ os := by simp
      rw [e] at ho ⊢
      exact okAll_spec os (pre ++ [q]) (i + 1) (by simp [hp]) h.2 k o (by omega) ho

end
end Go.AM

/- A part of the abstract machine on which the proof of this claim stands: AMDraw2 (definitions and lemmas alone; no statement of the claim; no condition). -/
import Derived.Test.YtjcblncfehfonaaGreatDoorAMDraw
namespace Go.AM
open Go
section
variable {E : Env} {inv : Inv} {nt : Nat} {ops : Array Oper}

/-- an operation's value and memory, its guard looked at -/
def act (E : Env) (inv : Inv) (ops : Array Oper) (o : Oper) (fr : Fr) (m : Mem) : Option (AV × Mem) :=
  match wanted fr ops o with
  | some true => stepOp E inv fr o.op m
  | some false => some (.tup [], m)
  | none => none

theorem oper_act {o : Oper} {fr fr' : Fr} {m m' : Mem} : oper E inv nt ops o fr m = some (fr', m') ↔ ∃ v, act E inv ops o fr m = some (v, m') ∧ putD nt fr o.dst v = some fr' := by
  unfold oper act
  cases hw : wanted fr ops o with
  | none => simp
  | some b =>
    cases b with
    | true =>
      cases hst : stepOp E inv fr o.op m with
      | none => simp
      | some r =>
        obtain ⟨v, m1⟩ := r
        simp only
        constructor
        · intro h
          split at h
          · rename_i hp
            simp only [Option.some.injEq, Prod.mk.injEq] at h
            obtain ⟨rfl, rfl⟩ := h
            exact ⟨v, rfl, hp⟩
          · simp at h
        · rintro ⟨v', h1, h2⟩
          simp only [Option.some.injEq, Prod.mk.injEq] at h1
          obtain ⟨rfl, rfl⟩ := h1
          rw [h2]
    | false =>
      simp only
      constructor
      · intro h
        split at h
        · rename_i hp
          simp only [Option.some.injEq, Prod.mk.injEq] at h
          obtain ⟨rfl, rfl⟩ := h
          exact ⟨_, rfl, hp⟩
        · simp at h
      · rintro ⟨v', h1, h2⟩
        simp only [Option.some.injEq, Prod.mk.injEq] at h1
        obtain ⟨rfl, rfl⟩ := h1
        rw [h2]

theorem putD_cases {fr fr' : Fr} {d : Option Tmp} {v : AV} (h : putD nt fr d v = some fr') : (d = none ∧ fr' = fr) ∨ ∃ t, d = some t ∧ t < nt ∧ fr' = fr.set t v := by
  unfold putD at h
  split at h
  · split at h
    · rename_i t hlt; simp at h; exact Or.inr ⟨t, rfl, hlt, h.symm⟩
    · simp at h
  · simp at h; exact Or.inl ⟨rfl, h.symm⟩

theorem mem_looks {o : Oper} {t : Tmp} (h : Operand.tmp t ∈ o.op.operands) : t ∈ o.looksAt ops := by
  unfold Oper.looksAt
  refine List.mem_append_left _ (List.mem_filterMap.2 ⟨.tmp t, by simpa using h, rfl⟩)

theorem act_put {o : Oper} {fr fr' : Fr} {m : Mem} {d : Option Tmp} {v : AV} (hp : putD nt fr d v = some fr') (h : ∀ t, d = some t → t ∉ o.looksAt ops) :
    act E inv ops o fr' m = act E inv ops o fr m := by
  rcases putD_cases hp with ⟨_, rfl⟩ | ⟨t, rfl, _, rfl⟩
  · rfl
  · have ht := h t rfl
    have h1 : ∀ x ∈ o.op.operands, (Fr.set fr t v).eval x = fr.eval x := fun x hx => Fr.eval_set fr t v x (fun e => ht (mem_looks (e ▸ hx)))
    have h2 : wanted (Fr.set fr t v) ops o = wanted fr ops o := by
      unfold wanted
      split
      · rfl
      · rename_i j want hg
        cases hj : (ops[j]?).bind (·.dst) with
        | none => rfl
        | some t' =>
          have hne : t' ≠ t := by
            rintro rfl
            refine ht ?_
            unfold Oper.looksAt
            refine List.mem_append_right _ ?_
            rw [hg]
            simp [hj]
          simp only [Fr.get_set' fr t t' v hne]
    unfold act
    rw [h2]
    split
    · exact stepOp_congr h1
    · rfl
    · rfl

theorem act_silent {o : Oper} {fr : Fr} {m m' : Mem} {v : AV} (hk : opKind E o.op = 0) (h : act E inv ops o fr m = some (v, m')) : m' = m ∧ ∀ m2, act E inv ops o fr m2 = some (v, m2) := by
  unfold act at h ⊢
  split at h
  · exact stepOp_silent hk h
  · simp only [Option.some.injEq, Prod.mk.injEq] at h; obtain ⟨rfl, rfl⟩ := h; exact ⟨rfl, fun _ => rfl⟩
  · simp at h
theorem act_quiet {o : Oper} {fr : Fr} {m m' : Mem} {v : AV} (hk : opKind E o.op ≤ 1) (h : act E inv ops o fr m = some (v, m')) : m' = m := by
  unfold act at h
  split at h
  · exact stepOp_quiet hk h
  · simp only [Option.some.injEq, Prod.mk.injEq] at h; exact h.2.symm
  · simp at h

/-- two operations, apart in what they name: either first, if their values and the memory agree -/
theorem swap_of {a b : Oper} (ha : Oper.apart ops a b = true) {fr fr1 fr2 : Fr} {m m1 m2 : Mem} (h1 : oper E inv nt ops a fr m = some (fr1, m1)) (h2 : oper E inv nt ops b fr1 m1 = some (fr2, m2))
    (key : ∀ va vb, act E inv ops a fr m = some (va, m1) → act E inv ops b fr m1 = some (vb, m2) → ∃ m', act E inv ops b fr m = some (vb, m') ∧ act E inv ops a fr m' = some (va, m2)) :
    ∃ fr' m', oper E inv nt ops b fr m = some (fr', m') ∧ oper E inv nt ops a fr' m' = some (fr2, m2) := by
  obtain ⟨p1, p2, p3⟩ := Oper.apart_spec ha
  obtain ⟨va, a1, a2⟩ := oper_act.1 h1
  obtain ⟨vb, b1, b2⟩ := oper_act.1 h2
  rw [act_put a2 p1] at b1
  obtain ⟨m', k1, k2⟩ := key va vb a1 b1
  have hput : ∃ fr', putD nt fr b.dst vb = some fr' ∧ putD nt fr' a.dst va = some fr2 := by
    rcases putD_cases a2 with ⟨e, rfl⟩ | ⟨ta, e, hlt, rfl⟩
    · refine ⟨fr2, b2, ?_⟩
      rw [e]; rfl
    · rcases putD_cases b2 with ⟨e', rfl⟩ | ⟨tb, e', hlt', rfl⟩
      · refine ⟨fr, by rw [e']; rfl, a2⟩
      · refine ⟨fr.set tb vb, by rw [e']; simp [putD, hlt'], ?_⟩
        rw [e]
        simp only [putD, hlt, if_true, Option.some.injEq]
        exact (Fr.set_comm ta tb va vb (fun h => p2 ta e (by rw [e', h])) fr).symm
  obtain ⟨fr', q1, q2⟩ := hput
  exact ⟨fr', m', oper_act.2 ⟨vb, k1, q1⟩, oper_act.2 ⟨va, by rw [act_put q1 p3]; exact k2, q2⟩⟩

/-- two operations that have nothing to do with each other -/
theorem key_indep {a b : Oper} (hk : freeKinds (opKind E a.op) (opKind E b.op) = true) {fr : Fr} {m m1 m2 : Mem} (va vb : AV) (a1 : act E inv ops a fr m = some (va, m1)) (b1 : act E inv ops b fr m1 = some (vb, m2)) :
    ∃ m', act E inv ops b fr m = some (vb, m') ∧ act E inv ops a fr m' = some (va, m2) := by
  unfold freeKinds at hk
  simp only [Bool.or_eq_true, Bool.and_eq_true, beq_iff_eq] at hk
  rcases hk with (hk | hk) | ⟨hk1, hk2⟩
  · obtain ⟨rfl, q⟩ := act_silent hk a1
    exact ⟨m2, b1, q m2⟩
  · obtain ⟨rfl, q⟩ := act_silent hk b1
    exact ⟨m, q m, a1⟩
  · have e1 := act_quiet (by omega) a1
    subst e1
    have e2 := act_quiet (by omega) b1
    subst e2
    exact ⟨_, b1, a1⟩

/-- one object with another content -/
def touch (m : Mem) (l : Nat) : Option (Nat × AO) → Mem
  | none => m
  | some e => { m with objs := m.objs.set l e }
theorem touch_comm {m : Mem} {l l' : Nat} (h : l ≠ l') (u u' : Option (Nat × AO)) : touch (touch m l u) l' u' = touch (touch m l' u') l u := by
  cases u <;> cases u' <;> simp [touch]
  exact List.set_comm _ _ h
theorem touch_obj {m : Mem} {l l' : Nat} (h : l ≠ l') (u : Option (Nat × AO)) : (touch m l u).objs[l']? = m.objs[l']? := by
  cases u with
  | none => rfl
  | some e => simp [touch, List.getElem?_set_ne h]
theorem touch_lo {m : Mem} {l : Nat} (u : Option (Nat × AO)) : (touch m l u).lo = m.lo ∧ (touch m l u).lo2 = m.lo2 := by cases u <;> exact ⟨rfl, rfl⟩

theorem step_at {o : Op} {x : Operand} (hx : adrOf o = some x) {fr : Fr} {l st off : Nat} {p : List Nat} (hl : fr.eval x = .ref l st p off) {m m1 : Mem} {v : AV} (h : stepOp E inv fr o m = some (v, m1)) :
    ∃ u, m1 = touch m l u ∧ ∀ m2 : Mem, m2.objs[l]? = m.objs[l]? → m2.lo = m.lo → m2.lo2 = m.lo2 → stepOp E inv fr o m2 = some (v, touch m2 l u) := by
  unfold stepOp at h ⊢
  split at h
  rotate_left
  · simp at h
  rename_i hr
  simp only [hr, if_true]
  have htree : ∀ m2 : Mem, m2.objs[l]? = m.objs[l]? → m2.tree l st = m.tree l st := by
    intro m2 h2
    unfold Mem.tree Mem.obj
    rw [h2]
  cases o with
  | load t a =>
    simp only [adrOf, Option.some.injEq] at hx
    subst hx
    simp only [stepCore, hl] at h ⊢
    obtain ⟨rfl, _⟩ := with0_mem h
    refine ⟨none, rfl, fun m2 h2 _ _ => ?_⟩
    have e : load E m2 t (.ref l st p off) = load E m1 t (.ref l st p off) := by
      simp only [load, htree m2 h2]
    rw [e]
    exact (with0_mem h).2 m2
  | store t a w =>
    simp only [adrOf, Option.some.injEq] at hx
    subst hx
    simp only [stepCore, hl] at h ⊢
    split at h
    rotate_left
    · simp at h
    rename_i m3 hs
    simp only [Option.some.injEq, Prod.mk.injEq] at h
    obtain ⟨rfl, rfl⟩ := h
    simp only [store] at hs ⊢
    split at hs
    · simp at hs
    rename_i ti hti
    split at hs
    · simp at hs
    rename_i v0 hv0
    split at hs
    · simp at hs
    rename_i u0 o0 hres
    split at hs
    rotate_left
    · simp at hs
    rename_i hc
    unfold Mem.setTree at hs
    split at hs
    rotate_left
    · simp at hs
    rename_i hc2
    simp only [Option.some.injEq] at hs
    subst hs
    refine ⟨some (st, .tree (v0.put p (fr.eval w))), rfl, fun m2 h2 h3 h4 => ?_⟩
    simp only [htree m2 h2, hv0, hres, hc, and_self, if_true, Mem.setTree, h3, h4, hc2, touch]
  | _ => simp [adrOf] at hx

theorem act_at {o : Oper} {x : Operand} (hx : adrOf o.op = some x) {fr : Fr} {l st off : Nat} {p : List Nat} (hl : fr.eval x = .ref l st p off) {m m1 : Mem} {v : AV} (h : act E inv ops o fr m = some (v, m1)) :
    ∃ u, m1 = touch m l u ∧ ∀ m2 : Mem, m2.objs[l]? = m.objs[l]? → m2.lo = m.lo → m2.lo2 = m.lo2 → act E inv ops o fr m2 = some (v, touch m2 l u) := by
  unfold act at h ⊢
  split at h
  · exact step_at hx hl h
  · simp only [Option.some.injEq, Prod.mk.injEq] at h; obtain ⟨rfl, rfl⟩ := h; exact ⟨none, rfl, fun _ _ _ _ => rfl⟩
  · simp at h

theorem key_far {a b : Oper} {x y : Operand} (hx : adrOf a.op = some x) (hy : adrOf b.op = some y) {fr : Fr} (hf : farApart fr x y = true) {m m1 m2 : Mem} (va vb : AV)
    (a1 : act E inv ops a fr m = some (va, m1)) (b1 : act E inv ops b fr m1 = some (vb, m2)) :
    ∃ m', act E inv ops b fr m = some (vb, m') ∧ act E inv ops a fr m' = some (va, m2) := by
  unfold farApart at hf
  split at hf
  rotate_left
  · simp at hf
  rename_i l st p off l' st' p' off' h1 h2
  have hne : l ≠ l' := by simpa using hf
  obtain ⟨u, rfl, ka⟩ := act_at hx h1 a1
  obtain ⟨u', rfl, kb⟩ := act_at hy h2 b1
  refine ⟨touch m l' u', kb m (touch_obj hne u).symm (touch_lo u).1.symm (touch_lo u).2.symm, ?_⟩
  rw [touch_comm hne]
  exact ka _ (touch_obj (Ne.symm hne) u') (touch_lo u').1 (touch_lo u').2

/-- what is not written stays -/
theorem execOps_stay {x : Operand} : ∀ (l : List Oper) {fr : Fr} {m : Mem} {R : Fr × Mem}, noWrite l x = true → execOps E inv nt ops l fr m = some R → R.1.eval x = fr.eval x
  | [], fr, m, R, _, h => by simp only [execOps, Option.some.injEq] at h; rw [← h]
  | o :: l, fr, m, R, hn, h => by
    unfold execOps at h
    split at h
    · rename_i fr1 m1 ho
      have hn2 : noWrite l x = true := by
        unfold noWrite at hn ⊢
        split
        · simp only [List.all_cons, Bool.and_eq_true] at hn; exact hn.2
        · rfl
      rw [execOps_stay l hn2 h]
      obtain ⟨v, _, hp⟩ := oper_act.1 ho
      rcases putD_cases hp with ⟨_, rfl⟩ | ⟨t, hd, _, rfl⟩
      · rfl
      · refine Fr.eval_set fr t v x ?_
        rintro rfl
        simp only [noWrite, List.all_cons, Bool.and_eq_true] at hn
        simp [hd] at hn
    · simp at h

theorem noWrite_mem {l l' : List Oper} {x : Operand} (h : noWrite l x = true) (hm : ∀ q ∈ l', q ∈ l) : noWrite l' x = true := by
  unfold noWrite at h ⊢
  split
  · simp only [List.all_eq_true] at h ⊢
    intro q hq; exact h q (hm q hq)
  · rfl

theorem noWrite_append {l l' : List Oper} {x : Operand} (h : noWrite l x = true) (h' : noWrite l' x = true) : noWrite (l ++ l') x = true := by
  unfold noWrite at h h' ⊢
  split
  · simp only [List.all_append, Bool.and_eq_true]; exact ⟨h, h'⟩
  · rfl

theorem noWrite_apart {p o : Oper} {y : Operand} (hy : adrOf o.op = some y) (ha : Oper.apart ops p o = true) : noWrite [p] y = true := by
  obtain ⟨p1, _, _⟩ := Oper.apart_spec ha
  unfold noWrite
  split
  · rename_i t
    simp only [List.all_cons, List.all_nil, Bool.and_true]
    have hmem : t ∈ o.looksAt ops := mem_looks (by
      cases ho : o.op <;> rw [ho] at hy <;> simp [adrOf] at hy <;> subst hy <;> simp [Op.operands])
    cases hd : p.dst with
    | none => simp
    | some d =>
      have : d ≠ t := by rintro rfl; exact p1 d hd hmem
      simp [this]
  · rfl

/-- an operation and one ahead of it, in a run that ends in the frame fr' -/
def Pair (E : Env) (ops : Array Oper) (fr' : Fr) (post : List Oper) (o p : Oper) (pre2 : List Oper) : Prop :=
  indep E ops p o = true ∨ (Oper.apart ops p o = true ∧ ∃ x y, adrOf p.op = some x ∧ adrOf o.op = some y ∧ farApart fr' x y = true ∧ noWrite (p :: pre2 ++ o :: post) x = true ∧ noWrite (o :: post) y = true)

/-- an operation that has nothing to do with those ahead of it may go first -/
theorem ops_front {o : Oper} {post : List Oper} {R : Fr × Mem} : ∀ (pre : List Oper) (fr : Fr) (m : Mem), (∀ pre1 p pre2, pre = pre1 ++ p :: pre2 → Pair E ops R.1 post o p pre2) → execOps E inv nt ops (pre ++ o :: post) fr m = some R →
    ∃ fr1 m1, oper E inv nt ops o fr m = some (fr1, m1) ∧ execOps E inv nt ops (pre ++ post) fr1 m1 = some R
  | [], fr, m, _, h => by
    simp only [List.nil_append] at h ⊢
    unfold execOps at h
    split at h
    · rename_i fr1 m1 ho; exact ⟨fr1, m1, ho, h⟩
    · simp at h
  | p :: pre, fr, m, hi, h => by
    have h0 := h
    simp only [List.cons_append] at h
    unfold execOps at h
    split at h
    · rename_i fr1 m1 ho
      have hi' : ∀ pre1 q pre2, pre = pre1 ++ q :: pre2 → Pair E ops R.1 post o q pre2 := fun pre1 q pre2 he => hi (p :: pre1) q pre2 (by rw [he]; rfl)
      obtain ⟨fr2, m2, h1, h2⟩ := ops_front pre fr1 m1 hi' h
      have hsw : ∃ fr' m', oper E inv nt ops o fr m = some (fr', m') ∧ oper E inv nt ops p fr' m' = some (fr2, m2) := by
        rcases hi [] p pre rfl with hp | ⟨ha, x, y, hx, hy, hfar, n1, n2⟩
        · unfold indep at hp
          rw [Bool.and_eq_true] at hp
          exact swap_of hp.1 ho h1 (fun va vb => key_indep hp.2 va vb)
        · refine swap_of ha ho h1 (fun va vb => key_far hx hy ?_ va vb)
          have e1 : R.1.eval x = fr.eval x := execOps_stay _ n1 h0
          have n3 : noWrite (p :: pre ++ o :: post) y = true := by
            refine noWrite_append ?_ n2
            have hall : ∀ q ∈ p :: pre, noWrite [q] y = true := by
              intro q hq
              obtain ⟨a1, a2, he⟩ := List.append_of_mem hq
              rcases hi a1 q a2 he with hp | ⟨ha', _⟩
              · unfold indep at hp; rw [Bool.and_eq_true] at hp; exact noWrite_apart hy hp.1
              · exact noWrite_apart hy ha'
            unfold noWrite at hall ⊢
            split
            · simp only [List.all_cons, List.all_nil, Bool.and_true] at hall
              exact List.all_eq_true.2 hall
            · rfl
          have e2 : R.1.eval y = fr.eval y := execOps_stay _ n3 h0
          unfold farApart at hfar ⊢
          rw [← e1, ← e2]
          exact hfar
      obtain ⟨fr', m', k1, k2⟩ := hsw
      refine ⟨fr', m', k1, ?_⟩
      simp only [List.cons_append]
      unfold execOps
      rw [k2]
      exact h2
    · simp at h

end
end Go.AM

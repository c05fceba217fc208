/- A part of the abstract machine on which the proof of this claim stands: AMOps5 (definitions and lemmas alone; no statement of the claim; no condition). -/
import Derived.Test.YtjcblncfehfonaaGreatDoorAMOps4
import Derived.Laws.Strings
import Derived.Laws.StructEq
import Derived.ChangeKeysEq
namespace Go.AM
open Go Go.RowKit
section
variable {P : Program} {E : Env} {m : Mem} {X : Cx}

theorem run_intRes {op : BinOp} {t : Nat} {k j : IntKind} {a b : Int} {v : AV} {w : World}
    (h : (match op with | .shl => shiftRes .shl k a b | .shr => shiftRes .shr k a b | op => if k = j then intRes op k a b else none) = some v) :
    ∃ z, (binOp op t (.int k a) (.int j b)).run P w = .ok z w ∧ VT X v z := by
  have done : ∀ (k : IntKind) (n : Int), VT X (.int k n) (.int k n) := fun k n => VT.of_one (.int k n) rfl rfl
  have doneb : ∀ b : Bool, VT X (.bool b) (.bool b) := fun b => VT.of_one (.bool b) rfl rfl
  cases op with
  | shl =>
    simp only [shiftRes] at h
    split at h
    · simp at h
    · rename_i hb
      simp at h; subst h
      exact ⟨_, by simp [binOp, Op.shift, hb], done _ _⟩
  | shr =>
    simp only [shiftRes] at h
    split at h
    · simp at h
    · rename_i hb
      simp at h; subst h
      exact ⟨_, by simp [binOp, Op.shift, hb], done _ _⟩
  | quo =>
    simp only [intRes] at h
    split at h
    · rename_i hk
      subst hk
      split at h
      · simp at h
      · rename_i hb
        simp at h; subst h
        exact ⟨_, by simp [binOp, Op.intDiv, hb], done _ _⟩
    · simp at h
  | rem =>
    simp only [intRes] at h
    split at h
    · rename_i hk
      subst hk
      split at h
      · simp at h
      · rename_i hb
        simp at h; subst h
        exact ⟨_, by simp [binOp, Op.intDiv, hb], done _ _⟩
    · simp at h
  | add | sub | mul =>
    simp only [intRes] at h
    split at h
    · rename_i hk
      subst hk
      simp at h; subst h
      exact ⟨_, by simp [binOp, Op.intArith], done _ _⟩
    · simp at h
  | and | or | xor | andNot =>
    simp only [intRes, bitsRes] at h
    split at h
    · rename_i hk
      subst hk
      simp at h; subst h
      exact ⟨_, by simp [binOp, Op.intBits], done _ _⟩
    · simp at h
  | eql | neq | lss | leq | gtr | geq =>
    simp only [intRes, cmpRes] at h
    split at h
    · rename_i hk
      subst hk
      simp at h; subst h
      exact ⟨_, by simp [binOp, Op.intCmp], doneb _⟩
    · simp at h

theorem ba_beq (a b : ByteArray) : (a == b) = (a.data == b.data) := rfl

theorem run_elems_sound {e sz d : Nat} {i : TypeInfo} {de : TypeDesc} (hie : P.info? e = some i) (hsz : i.size = sz) (hde : P.underlying e = some de) {f : AV → AV → Option Bool} {cs cs' : Array Value} {css css' : List (List Value)}
    (hf : ∀ (x y : AV) r cx cy, f x y = some r → VT X x cx → VT X y cy → (Op.equalIn d e cx cy).run P X.w = .ok r X.w)
    (hcs : cs.toList = css.flatten) (hcs' : cs'.toList = css'.flatten) (he : ∀ (i : Nat) (c : List Value), css[i]? = some c → c.length = sz) (he' : ∀ (i : Nat) (c : List Value), css'[i]? = some c → c.length = sz) :
    ∀ (xs ys : List AV) (j : Nat) (r : Bool), eqL f xs ys = some r →
      (∀ (i : Nat) (a : AV), xs[i]? = some a → ∃ c, css[j + i]? = some c ∧ VR X a c ∧ a.bad = false ∧ a.isAgg = aggD de) → (∀ (i : Nat) (a : AV), ys[i]? = some a → ∃ c, css'[j + i]? = some c ∧ VR X a c ∧ a.bad = false ∧ a.isAgg = aggD de) →
      (Op.eqItems d e sz cs cs' (List.range' j xs.length)).run P X.w = .ok r X.w
  | [], [], j, r, h, _, _ => by simp [eqL] at h; subst h; simp [Op.eqItems]
  | [], _ :: _, _, _, h, _, _ => by simp [eqL] at h
  | _ :: _, [], _, _, h, _, _ => by simp [eqL] at h
  | x :: xs, y :: ys, j, r, h, hx, hy => by
    simp only [eqL] at h
    obtain ⟨c, c1, c2, c3, c4⟩ := hx 0 x rfl
    obtain ⟨c', c1', c2', c3', c4'⟩ := hy 0 y rfl
    simp only [Nat.add_zero] at c1 c1'
    have hj := flat_uni sz css j he (by have := lt_of_some c1; omega)
    have hj' := flat_uni sz css' j he' (by have := lt_of_some c1'; omega)
    obtain ⟨vx, p1, q1⟩ := part_sound (X := X) hde hie hcs c1 c2 hj (by rw [hsz]; exact he _ _ c1) c4 c3
    obtain ⟨vy, p2, q2⟩ := part_sound (X := X) hde hie hcs' c1' c2' hj' (by rw [hsz]; exact he' _ _ c1') c4' c3'
    simp only [List.length_cons, List.range'_succ, Op.eqItems, Sem.run_bind, p1, p2, Result.andThen_ok]
    split at h
    · rename_i hq
      rw [hf x y true vx vy hq q1 q2]
      simp only [Result.andThen_ok, Bool.not_true, Bool.false_eq_true, if_false]
      exact run_elems_sound hie hsz hde hf hcs hcs' he he' xs ys (j + 1) r h
        (fun i a ha => by have := hx (i + 1) a (by simpa using ha); rwa [Nat.add_right_comm, Nat.add_assoc])
        (fun i a ha => by have := hy (i + 1) a (by simpa using ha); rwa [Nat.add_right_comm, Nat.add_assoc])
    · cases hq : f x y with
      | none => rw [hq] at h; simp at h
      | some q =>
        rw [hq] at h
        cases q with
        | true => rename_i hn; exact absurd hq hn
        | false =>
          simp at h; subst h
          rw [hf x y false vx vy hq q1 q2]
          rfl

theorem run_fields_sound {d : Nat} {f : Nat → AV → AV → Option Bool} {cs cs' : Array Value}
    (hf : ∀ (t : Nat) (x y : AV) r cx cy, f t x y = some r → VT X x cx → VT X y cy → (Op.equalIn d t cx cy).run P X.w = .ok r X.w) :
    ∀ (fs : List Field) (xs ys : List AV) (css css' pre pre' : List (List Value)) (r : Bool),
      (∀ fd ∈ fs, fd.name ≠ "_" ∧ szOf P fd.type ≠ 0 ∧ ∃ d, P.underlying fd.type = some d) →
      eqF f (fs.map fun f => (f.offset, szOf P f.type, aggOf P f.type, f.type)) pre.flatten.length xs ys = some r →
      cs.toList = (pre ++ css).flatten → cs'.toList = (pre' ++ css').flatten → pre.flatten.length = pre'.flatten.length →
      (∀ (i : Nat) (a : AV), xs[i]? = some a → ∃ c, css[i]? = some c ∧ VR X a c ∧ a.bad = false) → (∀ (i : Nat) (a : AV), ys[i]? = some a → ∃ c, css'[i]? = some c ∧ VR X a c ∧ a.bad = false) →
      (Op.eqFields d cs cs' fs).run P X.w = .ok r X.w
  | [], [], [], _, _, _, _, r, _, h, _, _, _, _, _ => by simp [eqF] at h; subst h; simp [Op.eqFields]
  | [], _ :: _, _, _, _, _, _, _, _, h, _, _, _, _, _ => by simp [eqF] at h
  | [], [], _ :: _, _, _, _, _, _, _, h, _, _, _, _, _ => by simp [eqF] at h
  | _ :: _, [], _, _, _, _, _, _, _, h, _, _, _, _, _ => by simp [eqF] at h
  | _ :: _, _ :: _, [], _, _, _, _, _, _, h, _, _, _, _, _ => by simp [eqF] at h
  | fd :: fs, x :: xs, y :: ys, css, css', pre, pre', r, hfd, h, hcs, hcs', hpp, hx, hy => by
    simp only [List.map_cons, eqF] at h
    split at h
    · rename_i hc
      obtain ⟨ho, z1, z2, g1, g2⟩ := hc
      obtain ⟨n1, n2, dd, n3⟩ := hfd fd (by simp)
      obtain ⟨i, hi⟩ : ∃ i, P.info? fd.type = some i := by
        cases hh : P.info? fd.type with
        | none => simp [szOf, hh] at n2
        | some i => exact ⟨i, rfl⟩
      obtain ⟨c, c1, c2, c3⟩ := hx 0 x rfl
      obtain ⟨c', c1', c2', c3'⟩ := hy 0 y rfl
      cases css with
      | nil => simp at c1
      | cons cc css =>
      cases css' with
      | nil => simp at c1'
      | cons cc' css' =>
      simp only [List.getElem?_cons_zero, Option.some.injEq] at c1 c1'
      subst c1; subst c1'
      have s1 : cc.length = szOf P fd.type := by rw [c2.size]; exact z1
      have s2 : cc'.length = szOf P fd.type := by rw [c2'.size]; exact z2
      have e1 : (pre ++ cc :: css)[pre.length]? = some cc := by simp
      have e2 : (pre' ++ cc' :: css')[pre'.length]? = some cc' := by simp
      have ag : aggOf P fd.type = aggD dd := by simp [aggOf, n3]
      have iz : szOf P fd.type = i.size := by simp [szOf, hi]
      obtain ⟨vx, p1, q1⟩ := part_sound (X := X) n3 hi hcs e1 c2 (o := fd.offset) (by rw [List.take_left]; exact ho.symm) (by rw [s1, iz]) (by rw [g1, ag]) c3
      obtain ⟨vy, p2, q2⟩ := part_sound (X := X) n3 hi hcs' e2 c2' (o := fd.offset) (by rw [List.take_left, ← hpp]; exact ho.symm) (by rw [s2, iz]) (by rw [g2, ag]) c3'
      simp only [Op.eqFields, n1, ne_eq, not_false_eq_true, if_true, Sem.run_bind, p1, p2, Result.andThen_ok]
      split at h
      · rename_i hq
        rw [hf _ x y true vx vy hq q1 q2]
        simp only [Result.andThen_ok, Bool.not_true, Bool.false_eq_true, if_false]
        refine run_fields_sound hf fs xs ys css css' (pre ++ [cc]) (pre' ++ [cc']) r (fun g hg => hfd g (by simp [hg])) ?_ ?_ ?_ ?_
          (fun i a ha => by simpa using hx (i + 1) a (by simpa using ha)) (fun i a ha => by simpa using hy (i + 1) a (by simpa using ha))
        · have : (pre ++ [cc]).flatten.length = pre.flatten.length + szOf P fd.type := by simp [s1]
          rw [this]; exact h
        · rw [hcs]; simp
        · rw [hcs']; simp
        · simp [s1, s2]; simpa using hpp
      · cases hq : f fd.type x y with
        | none => rw [hq] at h; simp at h
        | some q =>
          rw [hq] at h
          cases q with
          | true => rename_i hn; exact absurd hq hn
          | false =>
            simp at h; subst h
            rw [hf _ x y false vx vy hq q1 q2]
            rfl
    · simp at h

theorem eqT_sound (hE : Tys E P) : ∀ (n t : Nat) (x y : AV) (r : Bool) (cx cy : Value), eqT E n t x y = some r → VT X x cx → VT X y cy → ∀ d, n ≤ d → (Op.equalIn d t cx cy).run P X.w = .ok r X.w
  | 0, _, _, _, _, _, _, h, _, _, _, _ => by simp [eqT] at h
  | n + 1, t, x, y, r, cx, cy, h, hx, hy, d, hd => by
    obtain ⟨d, rfl⟩ : ∃ k, d = k + 1 := ⟨d - 1, by omega⟩
    simp only [eqT] at h
    split at h
    · simp at h
    · rename_i ti hti
      have hti := hE _ _ hti
      split at h
      · rename_i k hk
        have hu := kind_int hti hk
        split at h
        · cases hx.int; cases hy.int
          split at h
          · rename_i hkk; subst hkk
            simp at h; subst h
            simp [Op.equalIn, run_underlying hu]
          · simp at h
        · simp at h
      · rename_i hk
        obtain ⟨i, dd, h1, h2, _, _, h5⟩ := tyI_info hti
        have hu : P.underlying t = some .bool := by
          rw [hk] at h5
          unfold kindOf at h5
          (repeat' split at h5) <;> (try (cases h5; done))
          exact h2
        split at h
        · cases hx.bool; cases hy.bool
          simp at h; subst h
          simp [Op.equalIn, run_underlying hu]
        · simp at h
      · rename_i hk
        have hu := kind_str hti hk
        split at h
        · cases hx.str; cases hy.str
          simp at h; subst h
          simp [Op.equalIn, run_underlying hu]
          rfl
        · simp at h
      · rename_i fs hk
        obtain ⟨fa, hu, rfl, hz⟩ := kind_struct hti hk
        split at h
        · rename_i n1 xs n2 ys
          split at h
          · rename_i heq
            obtain ⟨cs, rfl, hv⟩ := hx.agg rfl
            obtain ⟨cs', rfl, hv'⟩ := hy.agg rfl
            have heq' : eqOK P t (.struct fa) = true := by rw [← tyI_eq hti hu]; exact heq
            simp only [eqOK, Bool.and_eq_true, Bool.not_eq_true', List.all_eq_true, bne_iff_ne] at heq'
            have hfo : P.fieldsOf t = fa := by simp [Program.fieldsOf, hu]
            rw [run_equalIn_struct X.w _ _ _ _ (by rw [hfo]; exact hu) heq'.2.1, hfo]
            generalize hcl : cs.toList = l at hv
            generalize hcl' : cs'.toList = l' at hv'
            cases hv with
            | agg _ _ css hl h2 hbk hn =>
            cases hv' with
            | agg _ _ css' hl' h2' hbk' hn' =>
              refine run_fields_sound (fun t x y r cx cy he hx hy => eqT_sound hE n t x y r cx cy he hx hy d (by omega)) fa.toList xs ys css css' [] [] r
                (fun fd hfd => ⟨heq'.2.2 fd hfd, hz fd hfd⟩) h (by simpa using hcl) (by simpa using hcl') rfl ?_ ?_
              · intro i a ha
                obtain ⟨c, hc⟩ := some_of_len hl ha
                exact ⟨c, hc, h2 i a c ha hc, hbk a (mem_of_get ha)⟩
              · intro i a ha
                obtain ⟨c, hc⟩ := some_of_len hl' ha
                exact ⟨c, hc, h2' i a c ha hc, hbk' a (mem_of_get ha)⟩
          · simp at h
        · simp at h
      · rename_i len e z g hk
        obtain ⟨i, hu, hie, hsz, de, hde, hg⟩ := kind_array hti hk
        split at h
        · rename_i n1 e1 xs n2 e2 ys
          split at h
          · rename_i hc
            obtain ⟨k1, k2, k3, k4, k5, k6⟩ := hc
            obtain ⟨cs, rfl, hv⟩ := hx.agg rfl
            obtain ⟨cs', rfl, hv'⟩ := hy.agg rfl
            rw [run_equalIn_array _ _ _ _ hu hie]
            generalize hcl : cs.toList = l at hv
            generalize hcl' : cs'.toList = l' at hv'
            cases hv with
            | arr _ _ _ css hl h2 he2 hbk hn =>
            cases hv' with
            | arr _ _ _ css' hl' h2' he2' hbk' hn' =>
              have hce : P.cellsOf e = i.size := by simp [Program.cellsOf, hie]
              rw [hce, List.range_eq_range', ← k1]
              simp only [allSize, List.all_eq_true, Bool.and_eq_true, beq_iff_eq] at k5 k6
              refine run_elems_sound hie rfl hde (fun x y r cx cy he hx hy => eqT_sound hE n e x y r cx cy he hx hy d (by omega)) hcl hcl' (fun i c hc => by rw [he2 i c hc, k3, hsz]) (fun i c hc => by rw [he2' i c hc, k4, hsz]) xs ys 0 r h ?_ ?_
              · intro i a ha
                obtain ⟨c, hc⟩ := some_of_len hl ha
                exact ⟨c, by rw [Nat.zero_add]; exact hc, h2 i a c ha hc, hbk a (mem_of_get ha), by rw [(k5 a (mem_of_get ha)).2, hg]⟩
              · intro i a ha
                obtain ⟨c, hc⟩ := some_of_len hl' ha
                exact ⟨c, by rw [Nat.zero_add]; exact hc, h2' i a c ha hc, hbk' a (mem_of_get ha), by rw [(k6 a (mem_of_get ha)).2, hg]⟩
          · simp at h
        · simp at h
      · simp at h

end
end Go.AM

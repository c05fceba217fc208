/- A part of the abstract machine on which the proof of this claim stands: AMOps6 (definitions and lemmas alone; no statement of the claim; no condition). -/
import Derived.Test.YtjcblncfehfonaaGreatDoorAMOps5
import Derived.Laws.IdiomCopy
import Derived.Laws.BytesString
import Derived.Laws.Concat
namespace Go.AM
open Go Go.RowKit
section
variable {P : Program} {E : Env} {m : Mem} {X : Cx}

theorem VT.mkbool (b : Bool) : VT X (.bool b) (.bool b) := VT.of_one (.bool b) rfl rfl
theorem VT.mkint (k : IntKind) (n : Int) : VT X (.int k n) (.int k n) := VT.of_one (.int k n) rfl rfl
theorem VT.mkstr (s : ByteArray) : VT X (.str s) (.string s) := VT.of_one (.str s) rfl rfl

theorem run_eqGuard_plain {op : BinOp} {t : Nat} {ox oy : Operand} {a b : Value} {w : World} (h1 : ¬ (a = .nilIface ∧ b = .nilIface)) (h2 : isAggV a = false) : (eqGuard op t ox oy a b).run P w = .ok () w := by
  cases op <;> (cases a <;> first | (simp [isAggV] at h2; done) | rfl | (cases b <;> first | (exact absurd ⟨rfl, rfl⟩ h1) | rfl))
theorem run_eqGuard_agg {op : BinOp} {t : Nat} {ox oy : Operand} {a b : Array Value} {w : World} (h : P.eqGuardType P.depth t = false) : (eqGuard op t ox oy (.agg a) (.agg b)).run P w = .ok () w := by
  cases op <;> simp [eqGuard, h]
theorem run_eqGuard_nil {op : BinOp} {t : Nat} {ox oy : Operand} {w : World} (h : (isConst ox || isConst oy) = true) : (eqGuard op t ox oy .nilIface .nilIface).run P w = .ok () w := by
  cases op <;> simp [eqGuard] <;> cases ox <;> cases oy <;> simp_all [isConst]

theorem equal_of {t : Nat} {x y : Value} {r : Bool} {w : World} (h : ∀ d, (Op.equalIn (d + 1) t x y).run P w = .ok r w) : (Op.equal t x y).run P w = .ok r w := h 9999

theorem kind_bool {t : Nat} {ti : TyI} (h : tyI P t = some ti) (hk : ti.kind = .bool) : P.underlying t = some .bool := by
  obtain ⟨i, d, h1, h2, _, _, h5⟩ := tyI_info h
  rw [hk] at h5
  unfold kindOf at h5
  (repeat' split at h5) <;> (try (cases h5; done))
  exact h2
theorem kind_func {t : Nat} {ti : TyI} (h : tyI P t = some ti) (hk : ti.kind = .func) : ∃ a b c, P.underlying t = some (.func a b c) := by
  obtain ⟨i, d, h1, h2, _, _, h5⟩ := tyI_info h
  rw [hk] at h5
  unfold kindOf at h5
  (repeat' split at h5) <;> (try (cases h5; done))
  exact ⟨_, _, _, h2⟩
theorem kind_iface {t : Nat} {ti : TyI} (h : tyI P t = some ti) (hk : ti.kind = .iface) : ∃ ms, P.underlying t = some (.interface ms) := by
  obtain ⟨i, d, h1, h2, _, _, h5⟩ := tyI_info h
  rw [hk] at h5
  unfold kindOf at h5
  (repeat' split at h5) <;> (try (cases h5; done))
  exact ⟨_, h2⟩

theorem liveRef_some {l st : Nat} {p : List Nat} {off : Nat} (h : liveRef m l st p off = true) : ∃ v u, m.tree l st = some v ∧ v.resolve p = some (u, off) ∧ 0 < u.size := by
  unfold liveRef at h
  split at h
  · rename_i v hv
    split at h
    · rename_i u o hu
      simp at h
      exact ⟨v, u, hv, by rw [hu, h.1], h.2⟩
    · simp at h
  · simp at h

theorem run_sameAddr_apart {w : World} {b o b' o' : Nat} {c c' : Value} {cs : Array Value} {T : TypeId} (hne : b ≠ b') (h1 : w.cell? ⟨b, o, none⟩ = some c)
    (h2 : w.heap[b']? = some (.cells cs T (0, 0))) (h3 : cs[o']? = some c') : (sameAddr ⟨b, o, none⟩ ⟨b', o', none⟩).run P w = .ok false w := by
  obtain ⟨cs1, T1, f1, hb1, hc1⟩ : ∃ cs1 T1 f1, w.heap[b]? = some (.cells cs1 T1 f1) ∧ cs1[o]? = some c := by
    unfold World.cell? at h1
    simp only at h1
    split at h1
    · rename_i c1 T1 f1 hb; exact ⟨c1, T1, f1, hb, by simpa using h1⟩
    · simp at h1
  have hs1 : w.shape? b = some (T1, cs1.size) := by simp [World.shape?, hb1]
  have hs2 : w.shape? b' = some (T, cs.size) := by simp [World.shape?, h2]
  have n1 : cs1.size ≠ 0 := by intro h; have := Array.eq_empty_of_size_eq_zero h; subst this; simp at hc1
  have n2 : cs.size ≠ 0 := by intro h; have := Array.eq_empty_of_size_eq_zero h; subst this; simp at h3
  have hf2 : ∀ k, w.frozen? ⟨b', k, none⟩ = false := by intro k; simp [World.frozen?, h2]
  have hne' : (b == b') = false := by simpa using hne
  have hv1 : (viewAt b).run P w = .ok none w := by simp [viewAt, hs1]
  have hv2 : (viewAt b').run P w = .ok none w := by simp [viewAt, hs2]
  have hst2 : (stringish ⟨b', o', none⟩).run P w = .ok false w := by simp [stringish, hf2, hs2]
  obtain ⟨r, hst1⟩ : ∃ r, (stringish ⟨b, o, none⟩).run P w = .ok r w := by
    unfold stringish
    rw [Sem.run_bind, run_frozen, Result.andThen_ok]
    split
    · exact ⟨true, rfl⟩
    · simp [hs1]
  have hmb : (mayBeOne ⟨b, o, none⟩ ⟨b', o', none⟩).run P w = .ok false w := by
    unfold mayBeOne
    simp only [Sem.run_bind, hst1, hst2, Result.andThen_ok, run_shape, hs1, hs2, Sem.run_pure, Bool.and_false, Bool.false_and, Bool.or_false, Bool.false_or]
    simp
    cases r <;> simp_all
  unfold sameAddr
  simp [hne', hf2, noView, hv1, hv2, hmb]

theorem eqT_agg (hE : Tys E P) {n t : Nat} {x y : AV} {r : Bool} {ti : TyI} (hti : tyI P t = some ti) (hk : (match ti.kind with | .struct _ => true | .array _ _ _ _ => true | _ => false) = true)
    (hr : eqT E n t x y = some r) : x.isAgg = true ∧ y.isAgg = true := by
  cases n with
  | zero => simp [eqT] at hr
  | succ n =>
    simp only [eqT] at hr
    split at hr
    · simp at hr
    · rename_i ti' hti'
      have h2 := hE _ _ hti'
      rw [hti] at h2; cases h2
      split at hr
      · rename_i h; rw [h] at hk; simp at hk
      · rename_i h; rw [h] at hk; simp at hk
      · rename_i h; rw [h] at hk; simp at hk
      · split at hr
        · exact ⟨rfl, rfl⟩
        · simp at hr
      · split at hr
        · exact ⟨rfl, rfl⟩
        · simp at hr
      · simp at hr

theorem eqRes_sound (hE : Tys E P) (hs : Sim m X) {t : Nat} {ox oy : Operand} {n : Bool} {x y v : AV} {cx cy : Value} (hx : VT X x cx) (hy : VT X y cy)
    (h : eqRes E m (isConst ox || isConst oy) n t x y = some v) :
    ∃ r, v = .bool (if n then !r else r) ∧ (∀ op, (eqGuard op t ox oy cx cy).run P X.w = .ok () X.w) ∧ (Op.equal t cx cy).run P X.w = .ok r X.w ∧
      ((∃ a b, cx = .int a b) → False) ∧ ((∃ s, cx = .string s) → False) := by
  unfold eqRes at h
  split at h
  · simp at h
  · rename_i ti hti
    have hti := hE _ _ hti
    have neg' : ∀ r, AM.neg n r = some v → v = .bool (if n then !r else r) := by
      intro r hr; simp [AM.neg] at hr; rw [← hr]
    split at h
    · rename_i hk
      have hu := kind_bool hti hk
      split at h
      · cases hx.bool; cases hy.bool
        exact ⟨_, neg' _ h, fun op => run_eqGuard_plain (by simp) rfl, equal_of fun d => by simp [Op.equalIn, run_underlying hu], by simp, by simp⟩
      · simp at h
    · rename_i e hk
      have hu := kind_ptr hti hk
      split at h
      · cases hx.nilp; cases hy.nilp
        exact ⟨_, neg' _ h, fun op => run_eqGuard_plain (by simp) rfl, equal_of fun d => by simp [Op.equalIn, run_underlying hu], by simp, by simp⟩
      · obtain ⟨b, o, cs, rfl, _⟩ := hy.vptr
        cases hx.nilp
        exact ⟨_, neg' _ h, fun op => run_eqGuard_plain (by simp) rfl, equal_of fun d => by simp [Op.equalIn, run_underlying hu], by simp, by simp⟩
      · obtain ⟨rfl, _⟩ := hy.ref
        cases hx.nilp
        exact ⟨_, neg' _ h, fun op => run_eqGuard_plain (by simp) rfl, equal_of fun d => by simp [Op.equalIn, run_underlying hu], by simp, by simp⟩
      · obtain ⟨b, o, cs, rfl, _⟩ := hx.vptr
        cases hy.nilp
        exact ⟨_, neg' _ h, fun op => run_eqGuard_plain (by simp) rfl, equal_of fun d => by simp [Op.equalIn, run_underlying hu], by simp, by simp⟩
      · obtain ⟨rfl, _⟩ := hx.ref
        cases hy.nilp
        exact ⟨_, neg' _ h, fun op => run_eqGuard_plain (by simp) rfl, equal_of fun d => by simp [Op.equalIn, run_underlying hu], by simp, by simp⟩
      · rename_i vv l st p o
        split at h
        · rename_i te hte'
          split at h
          · rename_i hc
            simp only [Bool.and_eq_true, decide_eq_true_eq] at hc
            obtain ⟨⟨hl, hsz⟩, hte⟩ := hc
            obtain ⟨i, d, i1, i2, i3, _⟩ := tyI_info (hE _ _ hte')
            have hne : i.size ≠ 0 := by rw [i3]; simpa using hte
            obtain ⟨b, ob, cs, rfl, hv, hvb, hc1, hc2⟩ := hx.vptr
            obtain ⟨rfl, hst⟩ := hy.ref
            obtain ⟨tr, u, g1, g2, g3⟩ := liveRef_some hl
            obtain ⟨oc, T, pre, cu, post, k1, k2, k3, k4, k5, k6, _⟩ := hs.part g1 g2
            have hlen := hv.size
            have hlen' := k4.size
            have him : X.imm b ob := by have := hc2 0 (by omega); simpa using this
            have hbne : b ≠ X.blk st := by
              intro hbe
              exact (hs.objs l st _ (tree_obj g1)).2.2.2.1 _ (hbe ▸ him)
            have hcell : X.w.cell? ⟨b, ob, none⟩ = some (cs[0]'(by omega)) := by
              have := hc1 0 _ (List.getElem?_eq_getElem (by omega)); simpa [Cx.cell] using this
            have hcell2 : oc[o]? = some (cu[0]'(by omega)) := by
              have := k6 0 _ (List.getElem?_eq_getElem (by omega))
              simp only [Nat.add_zero, Cx.cell] at this
              rwa [cell_of_block k1] at this
            refine ⟨false, neg' _ h, fun op => run_eqGuard_plain (by simp) rfl, ?_, by simp, by simp⟩
            have := run_sameAddr_apart (P := P) hbne hcell k1 hcell2
            exact equal_of fun d => by simp [Op.equalIn, run_underlying hu, run_sizeOf' i1, hne, this]
          · simp at h
        · simp at h
      · simp at h
    · rename_i e sz eb hk
      obtain ⟨i, hu, _, _, _⟩ := kind_slice hti hk
      split at h
      · cases hx.nils; cases hy.nils
        exact ⟨_, neg' _ h, fun op => run_eqGuard_plain (by simp) rfl, equal_of fun d => by simp [Op.equalIn, run_underlying hu], by simp, by simp⟩
      · obtain ⟨b, o, cap, css, rfl, _⟩ := hx.vsl
        cases hy.nils
        exact ⟨_, neg' _ h, fun op => run_eqGuard_plain (by simp) rfl, equal_of fun d => by simp [Op.equalIn, run_underlying hu], by simp, by simp⟩
      · obtain ⟨b, o, cap, rfl, _⟩ := hx.sref
        cases hy.nils
        exact ⟨_, neg' _ h, fun op => run_eqGuard_plain (by simp) rfl, equal_of fun d => by simp [Op.equalIn, run_underlying hu], by simp, by simp⟩
      · simp at h
    · rename_i hk
      obtain ⟨a1, a2, a3, hu⟩ := kind_func hti hk
      split at h
      · cases hx.nilf; cases hy.nilf
        exact ⟨_, neg' _ h, fun op => run_eqGuard_plain (by simp) rfl, equal_of fun d => by simp [Op.equalIn, run_underlying hu], by simp, by simp⟩
      · have h1 := hx.one rfl
        cases hy.nilf
        cases h1
        exact ⟨_, neg' _ h, fun op => run_eqGuard_plain (by simp) rfl, equal_of fun d => by simp [Op.equalIn, run_underlying hu], by simp, by simp⟩
      · have h1 := hx.one rfl
        cases hy.nilf
        cases h1
        exact ⟨_, neg' _ h, fun op => run_eqGuard_plain (by simp) rfl, equal_of fun d => by simp [Op.equalIn, run_underlying hu], by simp, by simp⟩
      · simp at h
    · rename_i hk
      obtain ⟨ms, hu⟩ := kind_iface hti hk
      split at h
      · cases hx.nili; cases hy.nili
        split at h
        · rename_i hc
          exact ⟨_, neg' _ h, fun op => run_eqGuard_nil hc, equal_of fun d => by simp [Op.equalIn, run_underlying hu], by simp, by simp⟩
        · simp at h
      · obtain ⟨z, rfl, _⟩ := hx.iface
        cases hy.nili
        exact ⟨_, neg' _ h, fun op => run_eqGuard_plain (by simp) rfl, equal_of fun d => by simp [Op.equalIn, run_underlying hu], by simp, by simp⟩
      · obtain ⟨z, rfl, _⟩ := hy.iface
        cases hx.nili
        exact ⟨_, neg' _ h, fun op => run_eqGuard_plain (by simp) rfl, equal_of fun d => by simp [Op.equalIn, run_underlying hu], by simp, by simp⟩
      · simp at h
    · rename_i fs hk
      split at h
      · rename_i heq
        split at h
        · rename_i r hr
          obtain ⟨fa, hu, _, _⟩ := kind_struct hti hk
          rw [tyI_eq hti hu] at heq
          simp only [eqOK, Bool.and_eq_true, Bool.not_eq_true'] at heq
          have hxa := eqT_agg hE hti (by rw [hk]) hr
          obtain ⟨cs, rfl, _⟩ := hx.agg hxa.1
          obtain ⟨cs', rfl, _⟩ := hy.agg hxa.2
          exact ⟨r, neg' _ h, fun op => run_eqGuard_agg heq.1, eqT_sound hE _ _ _ _ _ _ _ hr hx hy _ (by decide), by simp, by simp⟩
        · simp at h
      · simp at h
    · rename_i len e z g hk
      split at h
      · rename_i heq
        split at h
        · rename_i r hr
          obtain ⟨i, hu, _⟩ := kind_array hti hk
          rw [tyI_eq hti hu] at heq
          simp only [eqOK, Bool.and_eq_true, Bool.not_eq_true'] at heq
          have hxa := eqT_agg hE hti (by rw [hk]) hr
          obtain ⟨cs, rfl, _⟩ := hx.agg hxa.1
          obtain ⟨cs', rfl, _⟩ := hy.agg hxa.2
          exact ⟨r, neg' _ h, fun op => run_eqGuard_agg heq.1, eqT_sound hE _ _ _ _ _ _ _ hr hx hy _ (by decide), by simp, by simp⟩
        · simp at h
      · simp at h
    · simp at h

end
end Go.AM

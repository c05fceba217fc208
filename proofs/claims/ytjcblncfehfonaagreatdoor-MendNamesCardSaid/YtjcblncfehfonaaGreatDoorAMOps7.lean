/- A part of the abstract machine on which the proof of this claim stands: AMOps7 (definitions and lemmas alone; no statement of the claim; no condition). -/
import Derived.Test.YtjcblncfehfonaaGreatDoorAMOps6
namespace Go.AM
open Go Go.RowKit
section
variable {P : Program} {E : Env} {m : Mem} {X : Cx}

theorem strRes_sound {op : BinOp} {t : Nat} {a b : ByteArray} {v : AV} {w : World} (h : strRes op a b = some v) :
    ∃ z, (binOp op t (.string a) (.string b)).run P w = .ok z w ∧ VT X v z := by
  unfold strRes at h
  split at h
  · split at h
    · rename_i hc
      simp at h; subst h
      exact ⟨_, by simp [binOp, Op.stringOp]; omega, VT.mkstr _⟩
    · simp at h
  · simp at h; subst h
    exact ⟨_, by simp [binOp, Op.stringOp, ByteArray.toList_eq], VT.mkbool _⟩
  · simp at h; subst h
    exact ⟨_, by simp [binOp, Op.stringOp, ByteArray.toList_eq], VT.mkbool _⟩
  · simp at h

theorem binOp_other_eql {t : Nat} {cx cy : Value} (h1 : (∃ a b, cx = .int a b) → False) (h2 : (∃ s, cx = .string s) → False) (h3 : (∃ k b, cx = .float k b) → False) (h4 : (∃ k a b, cx = .complex k a b) → False)
    (h5 : (∃ a b, cy = .int a b) → False) : binOp .eql t cx cy = (do pure (.bool (← Op.equal t cx cy))) := by
  cases cx <;> (try (exact absurd ⟨_, _, rfl⟩ h1)) <;> (try (exact absurd ⟨_, rfl⟩ h2)) <;> (try (exact absurd ⟨_, _, rfl⟩ h3)) <;> (try (exact absurd ⟨_, _, _, rfl⟩ h4)) <;>
    cases cy <;> (try (exact absurd ⟨_, _, rfl⟩ h5)) <;> rfl

theorem binOp_other_neq {t : Nat} {cx cy : Value} (h1 : (∃ a b, cx = .int a b) → False) (h2 : (∃ s, cx = .string s) → False) (h3 : (∃ k b, cx = .float k b) → False) (h4 : (∃ k a b, cx = .complex k a b) → False)
    (h5 : (∃ a b, cy = .int a b) → False) : binOp .neq t cx cy = (do pure (.bool (!(← Op.equal t cx cy)))) := by
  cases cx <;> (try (exact absurd ⟨_, _, rfl⟩ h1)) <;> (try (exact absurd ⟨_, rfl⟩ h2)) <;> (try (exact absurd ⟨_, _, rfl⟩ h3)) <;> (try (exact absurd ⟨_, _, _, rfl⟩ h4)) <;>
    cases cy <;> (try (exact absurd ⟨_, _, rfl⟩ h5)) <;> rfl

def AV.num : AV → Bool
  | .int _ _ => true
  | .str _ => true
  | .flt _ _ => true
  | _ => false

theorem eqT_num {n t : Nat} {x y : AV} {r : Bool} {ti : TyI} (hti : E.ty t = some ti) (hk : (match ti.kind with | .struct _ => true | .array _ _ _ _ => true | _ => false) = true)
    (hr : eqT E n t x y = some r) : x.num = false ∧ y.num = false := by
  cases n with
  | zero => simp [eqT] at hr
  | succ n =>
    simp only [eqT, hti] at hr
    split at hr
    · rename_i h; rw [h] at hk; simp at hk
    · rename_i h; rw [h] at hk; simp at hk
    · rename_i h; rw [h] at hk; simp at hk
    · split at hr
      · exact ⟨rfl, rfl⟩
      · simp at hr
    · split at hr
      · exact ⟨rfl, rfl⟩
      · simp at hr
    · simp at hr

/-- what '==' is asked of is neither a number nor a text -/
theorem eqRes_num {isC n : Bool} {t : Nat} {x y v : AV} (h : eqRes E m isC n t x y = some v) : x.num = false ∧ y.num = false := by
  unfold eqRes at h
  split at h
  · simp at h
  · rename_i ti hti
    split at h
    · split at h
      · exact ⟨rfl, rfl⟩
      · simp at h
    · split at h <;> (first | (simp at h; done) | exact ⟨rfl, rfl⟩)
    · split at h <;> (first | (simp at h; done) | exact ⟨rfl, rfl⟩)
    · split at h <;> (first | (simp at h; done) | exact ⟨rfl, rfl⟩)
    · split at h <;> (first | (simp at h; done) | exact ⟨rfl, rfl⟩)
    · rename_i hk
      split at h
      · split at h
        · rename_i r hr; exact eqT_num hti (by rw [hk]) hr
        · simp at h
      · simp at h
    · rename_i hk
      split at h
      · split at h
        · rename_i r hr; exact eqT_num hti (by rw [hk]) hr
        · simp at h
      · simp at h
    · simp at h

theorem VT.num {x : AV} {cx : Value} (h : VT X x cx) (hn : x.num = false) : ((∃ a b, cx = .int a b) → False) ∧ ((∃ s, cx = .string s) → False) ∧ ((∃ k b, cx = .float k b) → False) ∧ ((∃ k a b, cx = .complex k a b) → False) := by
  obtain ⟨h1, h2⟩ := h
  cases x with
  | int k n => simp [AV.num] at hn
  | str s => simp [AV.num] at hn
  | flt k b => simp [AV.num] at hn
  | agg n ks =>
    cases cx <;> simp [isAggV, AV.isAgg] at h2
    exact ⟨by simp, by simp, by simp, by simp⟩
  | arr n e ks =>
    cases cx <;> simp [isAggV, AV.isAgg] at h2
    exact ⟨by simp, by simp, by simp, by simp⟩
  | und => cases h1
  | _ =>
    rw [cells_one (by rw [h2]; rfl)] at h1
    cases h1
    exact ⟨by simp, by simp, by simp, by simp⟩

theorem bin_sound (hE : Tys E P) (hs : Sim m X) {op : BinOp} {t : Nat} {ox oy : Operand} {x y v : AV} {cx cy : Value} (hx : VT X x cx) (hy : VT X y cy)
    (h : binRes E m (isConst ox || isConst oy) op t x y = some v) :
    ∃ z, (do eqGuard op t ox oy cx cy; binOp op t cx cy : Sem Value).run P X.w = .ok z X.w ∧ VT X v z := by
  unfold binRes at h
  split at h
  · cases hx.int; cases hy.int
    obtain ⟨z, hz, hv⟩ := run_intRes (P := P) (X := X) (t := t) (w := X.w) h
    exact ⟨z, by rw [Sem.run_bind, run_eqGuard_plain (by simp) rfl, Result.andThen_ok]; exact hz, hv⟩
  · cases hx.str; cases hy.str
    obtain ⟨z, hz, hv⟩ := strRes_sound (P := P) (X := X) (t := t) (w := X.w) h
    exact ⟨z, by rw [Sem.run_bind, run_eqGuard_plain (by simp) rfl, Result.andThen_ok]; exact hz, hv⟩
  · split at h
    · obtain ⟨r, rfl, hg, he, _, _⟩ := eqRes_sound hE hs hx hy h
      obtain ⟨n1, n2⟩ := eqRes_num h
      obtain ⟨a1, a2, a3, a4⟩ := hx.num n1
      obtain ⟨b1, _⟩ := hy.num n2
      refine ⟨_, ?_, VT.mkbool _⟩
      rw [Sem.run_bind, hg, Result.andThen_ok, binOp_other_eql a1 a2 a3 a4 b1, Sem.run_bind, he]
      rfl
    · obtain ⟨r, rfl, hg, he, _, _⟩ := eqRes_sound hE hs hx hy h
      obtain ⟨n1, n2⟩ := eqRes_num h
      obtain ⟨a1, a2, a3, a4⟩ := hx.num n1
      obtain ⟨b1, _⟩ := hy.num n2
      refine ⟨_, ?_, VT.mkbool _⟩
      rw [Sem.run_bind, hg, Result.andThen_ok, binOp_other_neq a1 a2 a3 a4 b1, Sem.run_bind, he]
      rfl
    · simp at h

theorem un_sound {op : UnOp} {x v : AV} {cx : Value} (hx : VT X x cx) (h : unRes op x = some v) : ∃ z, (Op.unary op cx).run P X.w = .ok z X.w ∧ VT X v z := by
  unfold unRes at h
  split at h
  · cases hx.int; simp at h; subst h; exact ⟨_, by simp [Op.unary, Op.intArith], VT.mkint _ _⟩
  · cases hx.bool; simp at h; subst h; exact ⟨_, by simp [Op.unary], VT.mkbool _⟩
  · cases hx.int
    simp [bitsRes] at h; subst h
    exact ⟨_, by simp [Op.unary, Op.intBits], VT.mkint _ _⟩
  · simp at h

theorem len_sound (hE : Tys E P) {t ty : Nat} {x v : AV} {cx : Value} (hx : VT X x cx) (h : lenOf E t x = some v) : ∃ z, (Builtin.len_ #[t] ty #[cx]).run P X.w = .ok z X.w ∧ VT X v z := by
  unfold lenOf at h
  split at h
  · rename_i hti
    have hu := kind_str (hE _ _ hti) rfl
    split at h
    · cases hx.str; simp at h; subst h
      exact ⟨_, by simp [Builtin.len_, run_underlying hu, goInt], VT.mkint _ _⟩
    · simp at h
  · rename_i hti
    obtain ⟨i, hu, _, _, _⟩ := kind_slice (hE _ _ hti) rfl
    split at h
    · cases hx.nils; simp at h; subst h
      exact ⟨_, by simp [Builtin.len_, run_underlying hu, goInt], VT.mkint _ _⟩
    · obtain ⟨b, o, cap, css, rfl, _⟩ := hx.vsl
      simp at h; subst h
      exact ⟨_, by simp [Builtin.len_, run_underlying hu, goInt], VT.mkint _ _⟩
    · obtain ⟨b, o, cap, rfl, _⟩ := hx.sref
      simp at h; subst h
      exact ⟨_, by simp [Builtin.len_, run_underlying hu, goInt], VT.mkint _ _⟩
    · simp at h
  · rename_i hti
    obtain ⟨i, hu, _⟩ := kind_array (hE _ _ hti) rfl
    simp at h; subst h
    exact ⟨_, by simp [Builtin.len_, run_underlying hu, goInt], VT.mkint _ _⟩
  · rename_i hti
    have hu := kind_ptr (hE _ _ hti) rfl
    split at h
    · rename_i hta
      obtain ⟨i, hu', _⟩ := kind_array (hE _ _ hta) rfl
      simp at h; subst h
      exact ⟨_, by simp [Builtin.len_, run_underlying hu, run_underlying hu', goInt], VT.mkint _ _⟩
    · simp at h
  · simp at h

theorem foldMM_sound (mx : Bool) : ∀ (l : List AV) (x v : AV) (cx : Value) (cs : List Value), VT X x cx → l.length = cs.length → (∀ (i : Nat) a c, l[i]? = some a → cs[i]? = some c → VT X a c) → foldMM mx x l = some v →
    ∃ z, (cs.foldlM (if mx then Builtin.max2 else Builtin.min2) cx).run P X.w = .ok z X.w ∧ VT X v z
  | [], x, v, cx, cs, hx, hl, _, h => by
    cases cs with
    | cons => simp at hl
    | nil =>
      simp [foldMM] at h; subst h
      exact ⟨cx, rfl, hx⟩
  | y :: l, x, v, cx, cs, hx, hl, hr, h => by
    cases cs with
    | nil => simp at hl
    | cons c cs =>
      unfold foldMM at h
      split at h
      · simp at *
      · rename_i hq
        simp only [List.cons.injEq] at hq
        obtain ⟨rfl, rfl⟩ := hq
        split at h
        · rename_i hk; subst hk
          cases hx.int
          have hc := hr 0 _ c rfl rfl
          cases hc.int
          rw [List.foldlM_cons, Sem.run_bind]
          cases mx with
          | true =>
            obtain ⟨z, hz, hv⟩ := foldMM_sound true l _ v _ cs (VT.mkint _ _) (by simpa using hl) (fun i a c ha hc => hr (i + 1) a c (by simpa using ha) (by simpa using hc)) h
            exact ⟨z, by simpa [Builtin.max2] using hz, hv⟩
          | false =>
            obtain ⟨z, hz, hv⟩ := foldMM_sound false l _ v _ cs (VT.mkint _ _) (by simpa using hl) (fun i a c ha hc => hr (i + 1) a c (by simpa using ha) (by simpa using hc)) h
            exact ⟨z, by simpa [Builtin.min2] using hz, hv⟩
        · simp at h
      · simp at h

/-- lists of values -/
def VTs (X : Cx) (vs : List AV) (xs : List Value) : Prop := vs.length = xs.length ∧ ∀ (i : Nat) (a : AV) (x : Value), vs[i]? = some a → xs[i]? = some x → VT X a x

theorem minMax_sound (mx : Bool) {t : Array Nat} {ty : Nat} {l : List AV} {v : AV} {cs : List Value} (h : VTs X l cs) (hm : minMax mx l = some v) :
    ∃ z, (if mx then Builtin.max_ t ty cs.toArray else Builtin.min_ t ty cs.toArray).run P X.w = .ok z X.w ∧ VT X v z := by
  obtain ⟨hl, hr⟩ := h
  cases l with
  | nil => simp [minMax] at hm
  | cons x l =>
    cases cs with
    | nil => simp at hl
    | cons c cs =>
      obtain ⟨z, hz, hv⟩ := foldMM_sound (P := P) mx l x v c cs (hr 0 x c rfl rfl) (by simpa using hl) (fun i a c ha hc => hr (i + 1) a c (by simpa using ha) (by simpa using hc)) hm
      refine ⟨z, ?_, hv⟩
      cases mx <;> simpa [Builtin.max_, Builtin.min_] using hz

end
end Go.AM

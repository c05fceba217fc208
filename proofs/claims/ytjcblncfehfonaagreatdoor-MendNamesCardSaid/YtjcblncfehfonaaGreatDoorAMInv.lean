/- A part of the abstract machine on which the proof of this claim stands: AMInv (definitions and lemmas alone; no statement of the claim; no condition). -/
import Derived.Test.YtjcblncfehfonaaGreatDoorAMCall
import Derived.Test.YtjcblncfehfonaaGreatDoorAMRound
import Derived.Test.YtjcblncfehfonaaGreatDoorAMDraw4
namespace Go.AM
open Go Go.RowKit
section
variable {P : Program} {E : Env}

theorem VTs.append {X : Cx} {as bs : List AV} {xs ys : List Value} (h : VTs X as xs) (k : VTs X bs ys) : VTs X (as ++ bs) (xs ++ ys) := by
  refine ⟨by simp [h.1, k.1], ?_⟩
  intro i a x ha hx
  rcases Nat.lt_or_ge i as.length with hi | hi
  · rw [List.getElem?_append_left hi] at ha
    rw [List.getElem?_append_left (by have := h.1; omega)] at hx
    exact h.2 i a x ha hx
  · rw [List.getElem?_append_right hi] at ha
    rw [List.getElem?_append_right (by have := h.1; omega), ← h.1] at hx
    exact k.2 _ a x ha hx

/-- every call by the machine is a call of the program: functions that keep what they make, no primitives -/
theorem invN_ok (hE : Tys E P) (hF : Fns E P) (hK : ∀ g i, E.fn g = some i → i.ann.mode = .keep) (hP : ∀ g, E.prim g = none) : ∀ n, InvOK P E (invN E n) := by
  intro n
  induction n with
  | zero => intro m X fv args v m' cf cargs _ _ _ h; simp [invN] at h
  | succ n ih =>
    have hdraw : ∀ r n' ann, DrawOK P E r n' (invN E n) ann := fun r n' ann => draw_ok hE ih r n' ann
    intro m X fv args v m' cf cargs hs hcf hargs h
    unfold invN at h
    split at h
    · rename_i g first cap
      rw [hP g] at h
      simp only at h
      obtain ⟨fs', cs', rfl, h1, h2⟩ := hcf.fnv
      unfold callFn at h
      split at h
      · simp at h
      rename_i i hi
      rw [hK g i hi] at h
      simp only at h
      obtain ⟨fn, f1, f2, f3, f4, f5⟩ := hF g i hi
      have hrun : (callSem (.func (.func g) fs'.toArray cs'.toArray) cargs.toArray).run P X.w = .ok (.enter g (fs' ++ cargs ++ cs').toArray) X.w := by
        have e : fs'.toArray ++ cargs.toArray ++ cs'.toArray = (fs' ++ cargs ++ cs').toArray := by simp
        simp only [callSem, Deferred.ofValue, Sem.run_bind, Sem.run_pure, Result.andThen_ok, invoke, e, callFunc, run_program, f1, f5, f2, Option.isNone_some, Bool.false_eq_true, if_false]
      refine ⟨?_, fun _ => ⟨_, _, _, hrun⟩⟩
      refine ⟨_, _, hrun, ?_⟩
      simp only
      exact enter_sound hE ih hdraw f1 f2 f3 f4 hs ((h1.append hargs).append h2) h
    · rename_i l st
      split at h
      · rename_i L ho
        exact ⟨round_sound hE ih hdraw hs hcf hargs ho h, by simp [isFn]⟩
      · simp at h
    · simp at h

end
end Go.AM

/- A part of the abstract machine on which the proof of this claim stands: AMRange (definitions and lemmas alone; no statement of the claim; no condition). -/
import Derived.Test.YtjcblncfehfonaaGreatDoorAMExec
namespace Go.AM
open Go Go.RowKit
section
variable {P : Program} {E : Env} {r : Option Nat} {n : Nat}

theorem run_getLoop {w : World} {l : Nat} {C : Loop} (h : w.heap[l]? = some (.loop C)) : (Instr.getLoop l).run P w = .ok C w := by
  simp [Instr.getLoop, getObj, Sem.run, h, Sem.run_bind, Result.andThen]
theorem run_setLoop {w : World} {l : Nat} {C : Loop} (o : Obj) (h : w.heap[l]? = some (.loop C)) : (setObj l o).run P w = .ok () { w with heap := w.heap.setIfInBounds l o } := by simp [setObj, Sem.run, h]

/-- a block that nobody touches -/
def Cx.fixed (X : Cx) (o : Obj) : Cx := { X with w := X.w.alloc o, fix := fun r => X.fix r ∨ r = X.w.heap.size }
theorem fixed_ok {m : Mem} {X : Cx} (hs : Sim m X) (o : Obj) : X.le (X.fixed o) ∧ Sim m (X.fixed o) := by
  have hlt : ∀ b, b < X.w.heap.size → (X.w.alloc o).heap[b]? = X.w.heap[b]? := fun b hb => heap_alloc_lt _ _ hb
  have hle : X.le (X.fixed o) :=
    ⟨rfl, Nat.le_refl _, fun _ h => h, fun _ _ => rfl, fun _ _ => rfl, fun b k h => ⟨h, cell_eq (hlt b (cell_block (hs.immB b k h)))⟩, fun _ _ _ h => h, fun r h => ⟨.inl h, hlt r (hs.fixB r h)⟩,
      ⟨rfl, rfl, rfl, by show X.w.heap.size ≤ (X.w.heap.push _).size; rw [Array.size_push]; omega, fun k hk => hlt k (Nat.lt_of_lt_of_le hk hs.B)⟩⟩
  refine ⟨hle, hs.same hle rfl (fun _ h => h) hlt (fun _ _ h => .inl h) ?_ ?_ ?_⟩
  · rintro r (h | rfl)
    · exact .inl h
    · exact .inr (Nat.le_refl _)
  · intro b k hk
    have := hs.immB b k hk
    show ((X.w.alloc o).cell? ⟨b, k, none⟩).isSome = true
    rw [cell_eq (hlt b (cell_block this))]; exact this
  · rintro r (h | rfl)
    · have := hs.fixB r h
      show r < (X.w.heap.push o).size
      rw [Array.size_push]; omega
    · show _ < (X.w.heap.push o).size
      rw [Array.size_push]; omega

theorem VTs.one {X : Cx} {v : AV} {x : Value} (h : VT X v x) : VTs X [v] [x] := by
  refine ⟨rfl, ?_⟩
  intro i a y ha hy
  match i with
  | 0 => simp at ha hy; subst ha hy; exact h
  | i + 1 => simp at ha

theorem range_ok {inv : Inv} {ann : Ann} (hinv : InvOK P E inv) : RangeOK P E none n inv ann := by
  intro g ps assign body iter jmp fid bid X fr m a ctl fr' m' hs hf hn h
  simp only [exec] at h
  split at h
  · simp at h
  rename_i hc
  simp only [Bool.or_eq_true, Bool.not_eq_true', not_or, Bool.not_eq_true, Bool.not_eq_false] at hc
  obtain ⟨_, hfn⟩ := hc
  split at h
  rotate_left
  · simp at h
  rename_i rv m1 he
  split at h
  rotate_left
  · simp at h
  rename_i L ho
  split at h
  · simp at h
  rename_i hbusy
  have hgv : VT X (fr.eval g) (a.eval g) := by
    rw [ev_eq]
    refine eval_sound hf ?_
    cases hfe : fr.eval g <;> rw [hfe] at hfn <;> simp_all [isFn, AV.isUnd]
  apply wpIn_rangeFunc
  intro fn _
  obtain ⟨hle1, hs1⟩ := fixed_ok hs (.deferred (some []))
  have hD : (X.fixed (.deferred (some []))).w.heap.size = X.w.heap.size + 1 := by show (X.w.heap.push _).size = _; rw [Array.size_push]
  generalize hX1 : X.fixed (.deferred (some [])) = X1 at hle1 hs1 hD
  have hw1 : X1.w = X.w.alloc (.deferred (some [])) := by rw [← hX1]; rfl
  have hfix1 : X1.fix X.w.heap.size := by rw [← hX1]; exact .inr rfl
  have hdef1 : X1.w.heap[X.w.heap.size]? = some (.deferred (some [])) := by rw [hw1]; exact heap_alloc_new _ _
  let C : Loop := { state := .ready, pending := none, fn := fn, tmps := a.tmps, params := ps, assign := assign, body := body, defers := X.w.heap.size }
  have hle2 := X1.le_push (.loop C) hs1.lv hs1.B hs1.immB hs1.fixB
  have hs2 : Sim (m.new (.loop { state := .ready, pending := none, fn := fid, ann := ann, frame := fr, params := ps.toList, assign := assign, body := body })).2.2 (X1.push (.loop C)) :=
    hs1.push (.loop C) _ ⟨C, heap_alloc_new _ _, rfl, rfl, hn, rfl, rfl, rfl, (hf.mono hle1).mono hle2⟩
  have hblk2 : (X1.push (.loop C)).blk m.clk = X.w.heap.size + 1 := by rw [hs1.clk]; simp [Cx.push, hD]
  have hlive2 : (X1.push (.loop C)).live m.clk := by rw [hs1.clk]; exact .inr rfl
  have hyld : VT (X1.push (.loop C)) (.yld m.objs.length m.clk) (.func (.yield (X.w.heap.size + 1)) #[] #[]) := by
    have key := VR.yld (X := X1.push (.loop C)) m.objs.length m.clk hlive2
    rw [hblk2] at key
    exact VT.of_one key rfl rfl
  obtain ⟨⟨nx, w2, hrun, hgo⟩, hent⟩ := hinv hs2 ((hgv.mono hle1).mono hle2) (VTs.one hyld) he
  obtain ⟨g2, as, w3, hrun2⟩ := hent hfn
  rw [hrun] at hrun2
  simp only [Result.ok.injEq] at hrun2
  obtain ⟨rfl, rfl⟩ := hrun2
  simp only at hgo
  obtain ⟨gg, fs, cs, hfe⟩ : ∃ gg fs cs, fr.eval g = .fn (.func gg) fs cs := by
    cases hfe : fr.eval g with
    | fn f fs cs => cases f with
      | func gg => exact ⟨gg, fs, cs, rfl⟩
      | _ => rw [hfe] at hfn; simp [isFn] at hfn
    | _ => rw [hfe] at hfn; simp [isFn] at hfn
  rw [hfe] at hgv
  obtain ⟨fs', cs', hag, _, _⟩ := hgv.fnv
  have hwl : (X1.push (.loop C)).w = (X.w.alloc (.deferred (some []))).alloc (.loop C) := by rw [← hw1]; rfl
  refine ⟨X.w.heap.size + 1, [mark X.w.heap.size], (X1.push (.loop C)).w, { target := .fn (.func gg) cs'.toArray, args := fs'.toArray ++ #[.func (.yield (X.w.heap.size + 1)) #[] #[]] }, (X1.push (.loop C)).w, g2, as, w2, ?_, ?_, fun _ _ => trivial, ?_, fun hh => by simp [WF, Fence.wide] at hh, ?_⟩
  · rw [hwl]
    have : (WF none).round = none := rfl
    rw [this]
    have hsz : (X.w.alloc (.deferred (some []))).heap.size = X.w.heap.size + 1 := by show (X.w.heap.push _).size = _; rw [Array.size_push]
    simp [Instr.enterLoop, mark, C, hsz]
  · have hcst : ∀ v, a.eval (.const v) = v := fun _ => rfl
    simp [resolve, hag, Deferred.ofValue, hcst]
  · have := hrun
    rw [hag] at this
    simpa [callSem, Deferred.ofValue] using this
  · refine CallsIn.mono (CallsIn.wide_more hgo) ?_
    rintro e w' ⟨cv, Z, rfl, h1, rfl, h3, h4⟩
    have hoz := h3.objs _ _ _ (obj_obj ho rfl)
    obtain ⟨k1, k2, ⟨C', q1, q2, q3, q4, q5, q6, q7, q8⟩, k4, k5⟩ := hoz
    have hbz : Z.blk m.clk = X.w.heap.size + 1 := (h1.blk _ hlive2).trans hblk2
    rw [hbz] at q1
    have hlt := heap_lt q1
    let w4 : World := { Z.w with heap := Z.w.heap.setIfInBounds (X.w.heap.size + 1) (.loop { C' with state := .exhausted }) }
    have hend : (Instr.endLoop (X.w.heap.size + 1)).run P Z.w = .ok L.pending w4 := by
      have hnb : ¬ C'.state = LoopState.busy := by
        rw [q2]; exact hbusy
      simp [Instr.endLoop, run_getLoop q1, hnb, run_setLoop _ q1, w4, q3]
    have hoth : ∀ b, b ≠ Z.blk m.clk → w4.heap[b]? = Z.w.heap[b]? := by
      rw [hbz]; exact put_block Z.w _ _
    have hle4 : Z.le (Z.at w4) := Cx.le_block h3 (obj_obj ho rfl) hoth (by simp [w4]) rfl rfl rfl
    have hs4 : Sim { m1 with objs := m1.objs.set m.objs.length (m.clk, .loop { L with state := .exhausted }) } (Z.at w4) := by
      refine h3.setBlock (obj_obj ho rfl) hoth (by simp [w4]) rfl rfl rfl ?_
      refine ⟨{ C' with state := .exhausted }, ?_, rfl, q3, q4, q5, q6, q7, q8.mono hle4⟩
      rw [hbz]
      show (Z.w.heap.setIfInBounds _ _)[_]? = _
      simp [hlt]
    have hleA : X.le (Z.at w4) := hle1.trans (hle2.trans (h1.trans hle4))
    have hfx := (hle2.trans (h1.trans hle4)).fix _ hfix1
    have hat : At X a { m1 with objs := m1.objs.set m.objs.length (m.clk, .loop { L with state := .exhausted }) } fr { a with defers := [mark X.w.heap.size] ++ a.defers } w4 :=
      ⟨Z.at w4, [X.w.heap.size], hleA, rfl, hs4, hf.mono hleA, rfl, rfl, by simp, by
        intro D hDm
        simp at hDm; subst hDm
        exact ⟨Nat.le_refl _, hfx.1, hfx.2.trans hdef1⟩⟩
    refine ⟨L.pending, w4, hend, ?_⟩
    split at h
    · rename_i hp
      simp only [Option.some.injEq, Prod.mk.injEq] at h
      obtain ⟨rfl, rfl, rfl⟩ := h
      rw [hp] at hat ⊢
      exact ⟨rfl, hat⟩
    · rename_i hp
      simp only [Option.some.injEq, Prod.mk.injEq] at h
      obtain ⟨rfl, rfl, rfl⟩ := h
      rw [hp] at hat ⊢
      exact wpIn_ret ⟨rfl, hat⟩
    · rename_i id hp
      simp only [Option.some.injEq, Prod.mk.injEq] at h
      obtain ⟨rfl, rfl, rfl⟩ := h
      rw [hp] at hat ⊢
      exact wpIn_exit ⟨rfl, hat⟩
    · simp at h

end
end Go.AM

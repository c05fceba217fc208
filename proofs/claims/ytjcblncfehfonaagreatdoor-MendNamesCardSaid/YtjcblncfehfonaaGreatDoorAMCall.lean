/- A part of the abstract machine on which the proof of this claim stands: AMCall (definitions and lemmas alone; no statement of the claim; no condition). -/
import Derived.Test.YtjcblncfehfonaaGreatDoorAMLeave
namespace Go.AM
open Go Go.RowKit
section
variable {P : Program} {E : Env} {m : Mem} {X : Cx}

theorem startFr_get : ∀ (args : List AV) (i t : Nat), (startFr i args).get t = if i ≤ t then (args[t - i]?).getD .und else .und
  | [], i, t => by simp [startFr, Fr.get]
  | v :: vs, i, t => by
    simp only [startFr, Fr.get]
    split
    · rename_i h; subst h; simp
    · rename_i hne
      rw [startFr_get vs (i + 1) t]
      by_cases h1 : i + 1 ≤ t
      · rw [if_pos h1, if_pos (by omega)]
        have : t - i = (t - (i + 1)) + 1 := by omega
        rw [this]; simp
      · rw [if_neg h1, if_neg (by omega)]

theorem start_FR {args : List AV} {cargs : List Value} (h : VTs X args cargs) (k : Nat) : FR X (startFr 0 args) (cargs.toArray ++ Array.replicate k undef) := by
  intro t ht
  rw [startFr_get] at ht ⊢
  simp only [Nat.zero_le, if_true, Nat.sub_zero] at ht ⊢
  cases ha : args[t]? with
  | none => rw [ha] at ht; simp [AV.isUnd] at ht
  | some a =>
    obtain ⟨x, hx⟩ := some_of_len h.1 ha
    have hlt := lt_of_some hx
    refine ⟨by simp; omega, ?_⟩
    have : (cargs.toArray ++ Array.replicate k undef).getD t undef = x := by
      rw [Array.getD_eq_getD_getElem?, Array.getElem?_append, if_pos (by simpa using hlt)]
      simp [hx]
    rw [this]
    exact h.2 t a x ha hx

/-- the program's functions, as the machine is told of them -/
def Fns (E : Env) (P : Program) : Prop := ∀ g i, E.fn g = some i → ∃ fn, P.funcs[g]? = some fn ∧ fn.body = some i.body ∧ fn.results.toList = i.results ∧ i.ann.ntmps ≤ fn.ntmps ∧ (fn.name == "runtime.NumGoroutine") = false

theorem enter_sound (hE : Tys E P) {inv : Inv} (hinv : InvOK P E inv) (hdraw : ∀ r n ann, DrawOK P E r n inv ann) {k g : Nat} {i : FnI} {fn : Func} (hf : P.funcs[g]? = some fn) (hb : fn.body = some i.body) (hr : fn.results.toList = i.results) (hn : i.ann.ntmps ≤ fn.ntmps)
    {args : List AV} {cargs : List Value} (hs : Sim m X) (hargs : VTs X args cargs) {v : AV} {m' : Mem} (h : enter E inv (iterN k) g i args m = some (v, m')) :
    CallsIn (WF none) 0 P g cargs.toArray X.w (CallPost X m' v) := by
  have hex : ExecOK P none 0 i.ann.ntmps (exec E inv (iterN k) (jmpN E inv (iterN k) g i.ann 8) g i.ann i.body 0) i.body := exec_sound (r := none) (n := 0) hE hinv (k := k) (fid := g) (ann := i.ann) rfl (hdraw _ _ _) (range_ok hinv) (fun c rest b => jmpN_ok (n := 0) hE hinv (hdraw _ _ _) (range_ok hinv) 8 c rest b) i.body 0
  have hfr := start_FR hargs (fn.ntmps - cargs.toArray.size)
  have hsz : i.ann.ntmps ≤ (cargs.toArray ++ Array.replicate (fn.ntmps - cargs.toArray.size) undef).size := by
    simp only [Array.size_append, Array.size_replicate]; omega
  have fin : ∀ {fr : Fr} {m1 : Mem} {a : Act} {w : World}, At X { tmps := cargs.toArray ++ Array.replicate (fn.ntmps - cargs.toArray.size) undef, defers := [] } m1 fr a w →
      (match resultsOf E fr m1 i.results with | some vs => some (tupOf vs, m1) | none => none) = some (v, m') →
      LeavesInM (WF none) 0 P fn a.tmps (CallPost X m' v) a.defers .returning w := by
    rintro fr m1 a w ⟨Y, Ds, hle, rfl, hs1, hf1, hz1, hd, hnd, hD⟩ hres
    rw [hd]
    simp only [List.append_nil]
    split at hres
    · rename_i vs hvs
      simp only [Option.some.injEq, Prod.mk.injEq] at hres
      obtain ⟨rfl, rfl⟩ := hres
      refine leave_marks (lo := X.w.heap.size) Ds hs1 hf1 hnd hD ?_
      intro Z q1 q2 q3 q4 q5 q6 q7 q8 q9 q10 q11 q12
      rw [← hr] at hvs
      obtain ⟨x, r1, r2⟩ := results_sound hE q1 q2 hvs
      refine ⟨x, r1, x, Z, rfl, ?_, rfl, q1, r2⟩
      refine ⟨q4.trans hle.B, by rw [q5]; exact hle.clk, fun st h => q3.live st (hle.live st h), fun st h => (q3.blk st (hle.live st h)).trans (hle.blk st h), fun st h => (q3.sp st (hle.live st h)).trans (hle.sp st h), fun b o h => ?_, fun b o hfx hi => ?_, fun b hfx => ?_, ?_⟩
      · have e1 := hle.imm b o h
        have e2 := q3.imm b o e1.1
        exact ⟨e2.1, e2.2.trans e1.2⟩
      · rw [q7] at hi
        exact hle.immFix b o hfx hi
      · have e1 := hle.fix b hfx
        refine ⟨by rw [q6]; exact e1.1, (q12 b (hs.fixB b hfx)).trans e1.2⟩
      · refine ⟨q8.trans hle.below.os, q9.trans hle.below.tape, q10.trans hle.below.output, by rw [q11]; exact hle.below.size, fun b hb => (q12 b (Nat.lt_of_lt_of_le hb hs.B)).trans (hle.below.block b hb)⟩
    · simp at hres
  refine callsIn_of_wp_marks hf hb trivial ?_
  unfold enter at h
  split at h
  · rename_i fr m1 he
    refine wpIn_mono (hex hs hfr hsz he) ?_
    rintro e a w ⟨rfl, hat⟩
    exact fin hat h
  · rename_i fr m1 he
    refine wpIn_mono (hex hs hfr hsz he) ?_
    rintro e a w ⟨rfl, hat⟩
    exact fin hat h
  · simp at h

end
end Go.AM

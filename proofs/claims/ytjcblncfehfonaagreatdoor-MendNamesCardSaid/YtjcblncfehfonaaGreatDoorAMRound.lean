/- A part of the abstract machine on which the proof of this claim stands: AMRound (definitions and lemmas alone; no statement of the claim; no condition). -/
import Derived.Test.YtjcblncfehfonaaGreatDoorAMRange
namespace Go.AM
open Go Go.RowKit
section
variable {P : Program} {E : Env} {r : Option Nat} {n : Nat}

theorem range_none {inv : Inv} {ann : Ann} : RangeOK P E r n inv (inRound ann) := by
  intro g ps assign body iter jmp fid bid X fr m a ctl fr' m' hs hf hn h
  simp [exec, inRound] at h

def loopPut (w : World) (b : Nat) (C : Loop) (s : LoopState) (p : Option (Option Code)) : World := { w with heap := w.heap.setIfInBounds b (.loop { C with state := s, pending := pend p C.pending }) }

theorem setLoop_sound {m m2 : Mem} {Y : Cx} (hs : Sim m Y) {l st : Nat} {s : LoopState} {p : Option (Option Code)} (h : setLoop m l st s p = some m2) :
    ∃ C L, m.obj l st = some (.loop L) ∧ Y.live st ∧ Y.w.heap[Y.blk st]? = some (.loop C) ∧ C.state = L.state ∧ C.pending = L.pending ∧
      Y.le (Y.at (loopPut Y.w (Y.blk st) C s p)) ∧ Sim m2 (Y.at (loopPut Y.w (Y.blk st) C s p)) := by
  unfold setLoop at h
  split at h
  · rename_i L ho
    split at h
    rotate_left
    · simp at h
    simp only [Option.some.injEq] at h
    subst h
    obtain ⟨k1, k2, ⟨C, q1, q2, q3, q4, q5, q6, q7, q8⟩, k4, k5⟩ := hs.objs _ _ _ (obj_obj ho rfl)
    refine ⟨C, L, ho, k1, q1, q2, q3, ?_⟩
    have hlt := heap_lt q1
    have hle : Y.le (Y.at (loopPut Y.w (Y.blk st) C s p)) := Cx.le_block hs (obj_obj ho rfl) (put_block Y.w (Y.blk st) _) (by simp [loopPut]) rfl rfl rfl
    refine ⟨hle, hs.setBlock (obj_obj ho rfl) (put_block Y.w _ _) (by simp [loopPut]) rfl rfl rfl ?_⟩
    refine ⟨{ C with state := s, pending := pend p C.pending }, ?_, rfl, by simp [q3], q4, q5, q6, q7, q8.mono hle⟩
    show (Y.w.heap.setIfInBounds _ _)[_]? = _
    simp [hlt]
  · simp at h

theorem setAll_FR {X : Cx} {nt : Nat} : ∀ (ps : List Nat) (args : List AV) (cargs : List Value) {fr : Fr} {tmps : Array Value}, args.length = ps.length → VTs X args cargs → FR X fr tmps → nt ≤ tmps.size → ps.all (fun t => decide (t < nt)) = true →
    FR X (setAll fr ps args) ((ps.zip cargs).foldl (fun tmps p => tmps.setIfInBounds p.1 p.2) tmps) ∧ ((ps.zip cargs).foldl (fun tmps p => tmps.setIfInBounds p.1 p.2) tmps).size = tmps.size
  | [], args, cargs, fr, tmps, hl, hv, hf, hn, hp => by
    have : args = [] := List.length_eq_zero_iff.1 hl
    subst this
    exact ⟨hf, rfl⟩
  | p :: ps, [], cargs, fr, tmps, hl, hv, hf, hn, hp => by simp at hl
  | p :: ps, v :: vs, [], fr, tmps, hl, hv, hf, hn, hp => by have := hv.1; simp at this
  | p :: ps, v :: vs, c :: cs, fr, tmps, hl, hv, hf, hn, hp => by
    simp only [List.all_cons, Bool.and_eq_true, decide_eq_true_eq] at hp
    have h0 := hv.2 0 _ _ rfl rfl
    have hput := FR.put (a := { tmps := tmps, defers := [] }) hf hn (d := some p) h0 (fr' := fr.set p v) (by simp [putD, hp.1])
    have hrest := setAll_FR ps vs cs (fr := fr.set p v) (tmps := tmps.setIfInBounds p c) (by simpa using hl)
      ⟨by simpa using hv.1, fun i a x ha hx => hv.2 (i + 1) a x (by simpa using ha) (by simpa using hx)⟩ hput.1 (by simpa using hn) hp.2
    refine ⟨hrest.1, ?_⟩
    have := hrest.2
    simp only [List.zip_cons_cons, List.foldl_cons]
    rw [this]; simp

theorem round_sound (hE : Tys E P) {inv : Inv} (hinv : InvOK P E inv) (hdraw : ∀ r n ann, DrawOK P E r n inv ann) {k : Nat} {m m' : Mem} {X : Cx} {l st : Nat} {L : ALoop} {args : List AV} {v : AV} {cf : Value} {cargs : List Value}
    (hs : Sim m X) (hcf : VT X (.yld l st) cf) (hargs : VTs X args cargs) (ho : m.obj l st = some (.loop L)) (h : round E inv k l st L args m = some (v, m')) :
    Goes P X m' v ((callSem cf cargs.toArray).run P X.w) := by
  obtain ⟨rfl, hlive⟩ := hcf.yld
  obtain ⟨_, k2, ⟨C, q1, q2, q3, q4, q5, q6, q7, q8⟩, k4, k5⟩ := hs.objs _ _ _ (obj_obj ho rfl)
  unfold round at h
  split at h
  rotate_left
  · simp at h
  rename_i hc
  obtain ⟨hc1, hc2, hc3⟩ := hc
  have hfr := setAll_FR L.params args cargs hc1 hargs q8 q4 hc2
  have hcl : cargs.length = C.params.size := by
    rw [← hargs.1, hc1, ← q5, Array.length_toList]
  have hz : (C.params.zip cargs.toArray).foldl (fun tmps (t, a) => tmps.setIfInBounds t a) C.tmps = (L.params.zip cargs).foldl (fun tmps p => tmps.setIfInBounds p.1 p.2) C.tmps := by
    rw [← Array.foldl_toList, Array.toList_zip, q5]
  refine ⟨.round (X.blk st) C.fn ((L.params.zip cargs).foldl (fun tmps p => tmps.setIfInBounds p.1 p.2) C.tmps) L.assign L.body, X.w, ?_, ?_⟩
  · have hg := run_getLoop (P := P) q1
    have hy : (Instr.yield (X.blk st) cargs.toArray).run P X.w = .ok (.round (X.blk st) C.fn ((L.params.zip cargs).foldl (fun tmps p => tmps.setIfInBounds p.1 p.2) C.tmps) L.assign L.body) X.w := by
      unfold Instr.yield
      rw [Sem.run_bind, hg, Result.andThen_ok]
      have hne : ¬ cargs.toArray.size ≠ C.params.size := by simp [hcl]
      rw [if_neg hne, hz, q6, q7]
      rfl
    simp only [callSem, Deferred.ofValue, Sem.run_bind, Sem.run_pure, Result.andThen_ok, invoke, Array.empty_append, hy]
  · show RoundIn (WF none) 0 P _ _ _ _ _ _ _
    split at h
    rotate_left
    · simp at h
    rename_i fr1 m1 he1
    split at h
    rotate_left
    · simp at h
    rename_i hready
    split at h
    rotate_left
    · simp at h
    rename_i m2 hset
    refine roundIn_of_wpIn (F := WF none) trivial ?_
    rw [WF_round]
    have hex : ∀ (c : Code), ExecOK P (some (X.blk st)) 0 L.ann.ntmps (exec E inv (iterN k) (jmpN E inv (iterN k) L.fn (inRound L.ann) 8) L.fn (inRound L.ann) c 0) c := fun c =>
      exec_sound hE hinv (ann := inRound L.ann) rfl (hdraw _ _ _) range_none (fun c rest b => jmpN_ok (n := 0) hE hinv (hdraw _ _ _) range_none 8 c rest b) c 0
    refine wpIn_mono (hex L.assign (a := { tmps := _, defers := [] }) hs hfr.1 (by show _ ≤ Array.size _; rw [hfr.2]; exact q4) he1) ?_
    rintro e a1 w1 ⟨rfl, Y, Ds, hle, rfl, hs1, hf1, hz1, _⟩
    obtain ⟨C1, L1, ho1, hl1, p1, p2, p3, hle2, hs2⟩ := setLoop_sound hs1 hset
    have hb1 : Y.blk st = X.blk st := hle.blk _ hlive
    have hrd : C1.state = .ready := by
      unfold loopReady at hready
      rw [ho1] at hready
      simp only at hready
      rw [p2]
      simpa using hready
    rw [hb1] at p1 hle2 hs2
    refine ⟨loopPut Y.w (X.blk st) C1 .busy none, ?_, ?_⟩
    · simp [Instr.beginRound, run_getLoop p1, run_setLoop _ p1, hrd, loopPut, pend]
    · have hsz1 : L.ann.ntmps ≤ a1.tmps.size := by rw [hz1]; show _ ≤ Array.size _; rw [hfr.2]; exact q4
      have hlive2 : Y.live st := hl1
      -- the end of a round
      have fin : ∀ {m3 m4 : Mem} {fr3 : Fr} {a3 : Act} {w3 : World} {s : LoopState} {p : Option Code} {b : Bool}, At (Y.at (loopPut Y.w (X.blk st) C1 .busy none)) a1 m3 fr3 a3 w3 →
          setLoop m3 l st s (some p) = some m4 → s = (if p.isNone then .ready else .done) → b = p.isNone → ∃ cv w4, (Instr.endRound (X.blk st) p).run P w3 = .ok cv w4 ∧ CallPost X m4 (.bool b) (.returned cv) w4 := by
        rintro m3 m4 fr3 a3 w3 s p b ⟨Z, Es, hle3, rfl, hs3, _⟩ hset3 rfl rfl
        obtain ⟨C3, L3, ho3, hl3, r1, r2, r3, hle4, hs4⟩ := setLoop_sound hs3 hset3
        have hb3 : Z.blk st = X.blk st := (hle3.blk st hlive2).trans hb1
        rw [hb3] at r1 hle4 hs4
        refine ⟨.bool p.isNone, _, ?_, .bool p.isNone, _, rfl, hle.trans (hle2.trans (hle3.trans hle4)), rfl, hs4, VT.of_one (.bool _) rfl rfl⟩
        simp [Instr.endRound, run_getLoop r1, run_setLoop _ r1, Cx.at, loopPut, pend]
      split at h
      · rename_i fr3 m3 he3
        split at h
        · rename_i m4 hset3
          simp only [Option.some.injEq, Prod.mk.injEq] at h
          obtain ⟨rfl, rfl⟩ := h
          refine wpIn_mono (hex L.body hs2 (hf1.mono hle2) hsz1 he3) ?_
          rintro e a3 w3 ⟨rfl, hat⟩
          exact fin hat hset3 rfl rfl
        · simp at h
      · rename_i fr3 m3 he3
        split at h
        · rename_i m4 hset3
          simp only [Option.some.injEq, Prod.mk.injEq] at h
          obtain ⟨rfl, rfl⟩ := h
          refine wpIn_mono (hex L.body hs2 (hf1.mono hle2) hsz1 he3) ?_
          rintro e a3 w3 ⟨rfl, hat⟩
          exact fin hat hset3 rfl rfl
        · simp at h
      · rename_i id fr3 m3 he3
        split at h
        · rename_i m4 hset3
          simp only [Option.some.injEq, Prod.mk.injEq] at h
          obtain ⟨rfl, rfl⟩ := h
          refine wpIn_mono (hex L.body hs2 (hf1.mono hle2) hsz1 he3) ?_
          rintro e a3 w3 ⟨rfl, hat⟩
          exact fin hat hset3 rfl rfl
        · simp at h
      · simp at h

end
end Go.AM

/- A part of the abstract machine on which the proof of this claim stands: AMLeave (definitions and lemmas alone; no statement of the claim; no condition). -/
import Derived.Test.YtjcblncfehfonaaGreatDoorAMRound
namespace Go.AM
open Go Go.RowKit
section
variable {P : Program} {E : Env} {m : Mem} {X : Cx}

/-- what values look at -/
structure Cx.le0 (X Y : Cx) : Prop where
  live : ∀ st, X.live st → Y.live st
  blk : ∀ st, X.live st → Y.blk st = X.blk st
  sp : ∀ st, X.live st → Y.sp st = X.sp st
  imm : ∀ b o, X.imm b o → Y.imm b o ∧ Y.cell b o = X.cell b o

theorem TokOK.mono0 {X Y : Cx} (hle : X.le0 Y) {tok : Tok} {b o len cap e : Nat} (h : TokOK X tok b o len cap e) : TokOK Y tok b o len cap e := by
  cases tok with
  | no => trivial
  | exact => exact h
  | live t st =>
    obtain ⟨hs, h⟩ := h
    refine ⟨hle.live _ hs, ?_⟩
    rw [hle.blk st hs, hle.sp st hs]
    exact h

theorem VR.mono0 {X Y : Cx} (hle : X.le0 Y) {v : AV} {cs : List Value} (h : VR X v cs) : VR Y v cs := by
  induction h with
  | int k n => exact .int k n
  | bool b => exact .bool b
  | str s => exact .str s
  | flt k b => exact .flt k b
  | nilp => exact .nilp
  | nils => exact .nils
  | nilm => exact .nilm
  | nilf => exact .nilf
  | nili => exact .nili
  | vptr v b o cs h hb hc hi ih =>
    refine .vptr v b o cs ih hb (fun i c hic => ?_) (fun i hlt => (hle.imm _ _ (hi i hlt)).1)
    rw [(hle.imm _ _ (hi i (lt_of_some hic))).2]; exact hc i c hic
  | ref l st p off hs => rw [← hle.blk st hs]; exact .ref l st p off (hle.live _ hs)
  | vsl e es tok b o cap css hl h he hb hc hi hcap ht ih =>
    refine .vsl e es tok b o cap css hl ih he hb (fun i c hic => ?_) (fun i hlt => (hle.imm _ _ (hi i hlt)).1) hcap (ht.mono0 hle)
    rw [(hle.imm _ _ (hi i (lt_of_some hic))).2]; exact hc i c hic
  | sref e l st p off lo len b o cap hs hcap ha =>
    exact .sref e l st p off lo len b o cap (hle.live _ hs) hcap (by rw [hle.blk st hs]; exact ha)
  | map l st hs => rw [← hle.blk st hs]; exact .map l st (hle.live _ hs)
  | yld l st hs => rw [← hle.blk st hs]; exact .yld l st (hle.live _ hs)
  | fn g fs cs fs' cs' hf hc h1 h1' h2 h2' i1 i2 => exact .fn g fs cs fs' cs' hf hc i1 h1' i2 h2'
  | iface t v x h ha hb ih => exact .iface t v x ih ha hb
  | agg n ks css hl h hb hn ih => exact .agg n ks css hl ih hb hn
  | arr n e ks css hl h he hb hn ih => exact .arr n e ks css hl ih he hb hn
  | tup vs xs hl h ha ih => exact .tup vs xs hl ih ha

theorem VT.mono0 {X Y : Cx} (hle : X.le0 Y) {v : AV} {x : Value} (h : VT X v x) : VT Y v x := ⟨h.1.mono0 hle, h.2⟩
theorem FR.mono0 {X Y : Cx} (hle : X.le0 Y) {fr : Fr} {tmps : Array Value} (h : FR X fr tmps) : FR Y fr tmps :=
  fun t ht => ⟨(h t ht).1, (h t ht).2.mono0 hle⟩
theorem OR.mono0 {X Y : Cx} (hle : X.le0 Y) {b : Nat} {o : AO} (hb : Y.w.heap[b]? = X.w.heap[b]?) (h : OR X b o) : OR Y b o := by
  cases o with
  | tree v =>
    obtain ⟨h0, cs, T, h1, h2⟩ := h
    exact ⟨h0, cs, T, by rw [hb]; exact h1, h2.mono0 hle⟩
  | map es =>
    obtain ⟨ents, clock, h1, h2, h3⟩ := h
    exact ⟨ents, clock, by rw [hb]; exact h1, h2, fun i e en he hen => ⟨(h3 i e en he hen).1.mono0 hle, (h3 i e en he hen).2.mono0 hle⟩⟩
  | loop L =>
    obtain ⟨C, h1, h2, h3, h4, h5, h6, h7, h8⟩ := h
    exact ⟨C, by rw [hb]; exact h1, h2, h3, h4, h5, h6, h7, h8.mono0 hle⟩
  | hole => exact h

/-- a block that nobody owns is turned -/
def Cx.shut (Y : Cx) (D : Nat) (o : Obj) : Cx := Y.at { Y.w with heap := Y.w.heap.setIfInBounds D o }

theorem shut_le0 {Y : Cx} {D : Nat} {o o' : Obj} (hD : Y.w.heap[D]? = some o') (hn : ∀ cs T f, o' ≠ .cells cs T f) (hs : Sim m Y) : Y.le0 (Y.shut D o) := by
  refine ⟨fun _ h => h, fun _ _ => rfl, fun _ _ => rfl, fun b k h => ⟨h, ?_⟩⟩
  refine cell_eq (put_block Y.w D o b ?_)
  rintro rfl
  have := hs.immB b k h
  unfold Cx.cell World.cell? at this
  simp only [hD] at this
  cases o' <;> first | exact hn _ _ _ rfl | simp at this

theorem shut_sim {Y : Cx} {D : Nat} {o o' : Obj} (hs : Sim m Y) (hf : Y.fix D) (hD : Y.w.heap[D]? = some o') (hn : ∀ cs T f, o' ≠ .cells cs T f) : Sim m (Y.shut D o) := by
  have hle := shut_le0 (o := o) hD hn hs
  have hh : ∀ b, b ≠ D → (Y.shut D o).w.heap[b]? = Y.w.heap[b]? := put_block Y.w D o
  refine ⟨hs.clk, hs.lv, ?_, ?_, ?_, hs.oo, hs.tt, hs.ot, ?_, ?_⟩
  · show Y.B ≤ (Y.w.heap.setIfInBounds D o).size; simp; exact hs.B
  · intro l st ao e
    obtain ⟨h1, h2, h3, h4, h5⟩ := hs.objs l st ao e
    exact ⟨h1, h2, h3.mono0 hle (hh _ (fun e => h5 (by have e' : Y.blk st = D := e; rw [e']; exact hf))), h4, h5⟩
  · intro t st e
    obtain ⟨h1, h2, h3, h4, cs, T, h5, h6⟩ := hs.toks t st e
    exact ⟨h1, h2, h3, h4, cs, T, (hh _ (fun e => h4 (by have e' : Y.blk st = D := e; rw [e']; exact hf))).trans h5, h6⟩
  · intro b k hk
    have := hs.immB b k hk
    rw [(hle.imm b k hk).2]; exact this
  · intro r hr
    show r < (Y.w.heap.setIfInBounds D o).size
    simp; exact hs.fixB r hr

theorem run_take {w : World} {D : Nat} (h : w.heap[D]? = some (.deferred (some []))) : (Instr.takeDeferred D).run P w = .ok [] { w with heap := w.heap.setIfInBounds D (.deferred none) } := by
  simp [Instr.takeDeferred, Sem.run_bind, getObj, setObj, Sem.run, h, Result.andThen]

/-- on the way out the marks are taken off -/
theorem leave_marks {fn : Func} {tmps : Array Value} {R : Ending → World → Prop} {fr : Fr} {r : Option Nat} {n : Nat} {lo : Nat} : ∀ (Ds : List Nat) {Y : Cx}, Sim m Y → FR Y fr tmps → Ds.Nodup →
    (∀ D ∈ Ds, lo ≤ D ∧ Y.fix D ∧ Y.w.heap[D]? = some (.deferred (some []))) →
    (∀ Z : Cx, Sim m Z → FR Z fr tmps → Y.le0 Z → Z.B = Y.B → Z.clk = Y.clk → Z.fix = Y.fix → Z.imm = Y.imm → Z.w.os = Y.w.os → Z.w.tape = Y.w.tape → Z.w.output = Y.w.output → Z.w.heap.size = Y.w.heap.size → (∀ b, b < lo → Z.w.heap[b]? = Y.w.heap[b]?) →
      ∃ v, (results fn tmps).run P Z.w = .ok v Z.w ∧ R (.returned v) Z.w) →
    LeavesInM (WF r) n P fn tmps R (Ds.map mark) .returning Y.w
  | [], Y, hs, hf, _, _, hR => by
    exact hR Y hs hf ⟨fun _ h => h, fun _ _ => rfl, fun _ _ => rfl, fun _ _ h => ⟨h, rfl⟩⟩ rfl rfl rfl rfl rfl rfl rfl rfl (fun _ _ => rfl)
  | D :: Ds, Y, hs, hf, hnd, hD, hR => by
    obtain ⟨h1, h2, h3⟩ := hD D (by simp)
    have hn : ∀ cs T f, (Obj.deferred (some [])) ≠ .cells cs T f := by simp
    have hle := shut_le0 (o := .deferred none) h3 hn hs
    have hs' := shut_sim (o := .deferred none) hs h2 h3 hn
    rw [List.nodup_cons] at hnd
    refine ⟨by simp, .inl ⟨D, (Y.shut D (.deferred none)).w, rfl, run_take h3, ?_⟩⟩
    refine leave_marks (lo := lo) Ds hs' (hf.mono0 hle) hnd.2 ?_ ?_
    · intro D' hD'
      obtain ⟨k1, k2, k3⟩ := hD D' (by simp [hD'])
      exact ⟨k1, k2, (put_block Y.w D _ D' (fun e => hnd.1 (e ▸ hD'))).trans k3⟩
    · intro Z q1 q2 q3 q4 q5 q6 q7 q8 q9 q10 q11 q12
      refine hR Z q1 q2 ⟨fun st h => q3.live st (hle.live st h), fun st h => (q3.blk st (hle.live st h)).trans (hle.blk st h), fun st h => (q3.sp st (hle.live st h)).trans (hle.sp st h), fun b k h => ?_⟩ q4 q5 q6 q7 q8 q9 q10 ?_ ?_
      · have e1 := hle.imm b k h
        have e2 := q3.imm b k e1.1
        exact ⟨e2.1, e2.2.trans e1.2⟩
      · rw [q11]; show (Y.w.heap.setIfInBounds D _).size = _; simp
      · intro b hb
        exact (q12 b hb).trans (put_block Y.w D _ b (by omega))

def resSem (tmps : Array Value) : ResultVar → Sem Value
  | .tmp t => pure (tmps.getD t undef)
  | .cell a t => do loadVar t (← asAddr (tmps.getD a undef))

theorem resultOf_sound (hE : Tys E P) (hs : Sim m X) {fr : Fr} {tmps : Array Value} (hf : FR X fr tmps) {r : ResultVar} {v : AV} (h : resultOf E fr m r = some v) :
    ∃ x, (resSem tmps r).run P X.w = .ok x X.w ∧ VT X v x := by
  cases r with
  | tmp t =>
    obtain ⟨rfl, hu⟩ := def_some h
    exact ⟨_, rfl, (hf t hu).2⟩
  | cell a t =>
    simp only [resultOf] at h
    have hu : (fr.get a).isUnd = false := by
      cases hg : fr.get a with
      | und => rw [hg] at h; unfold load at h; split at h <;> simp at h
      | _ => rfl
    have hv := (hf a hu).2
    obtain ⟨x, h1, h2⟩ := load_sound hE hs hv h
    refine ⟨x, ?_, h2⟩
    have hp : ∃ ad : Nat × Nat, tmps.getD a undef = .pointer (some ⟨ad.1, ad.2, none⟩) := by
      unfold load at h
      split at h
      · simp at h
      · split at h
        · rename_i w hg
          rw [hg] at hv
          obtain ⟨b, o, _, hh, _⟩ := hv.vptr
          exact ⟨(b, o), hh⟩
        · rename_i hg
          rw [hg] at hv
          exact ⟨(_, _), hv.ref.1⟩
        · simp at h
    obtain ⟨ad, hp⟩ := hp
    rw [hp] at h1
    simp only [resSem, hp]
    simpa [Instr.loadAt, Instr.sureAddr, asAddr] using h1

theorem resultsOf_sound (hE : Tys E P) (hs : Sim m X) {fr : Fr} {tmps : Array Value} (hf : FR X fr tmps) : ∀ (rs : List ResultVar) {vs : List AV}, resultsOf E fr m rs = some vs →
    ∃ xs : List Value, (rs.mapM (resSem tmps)).run P X.w = .ok xs X.w ∧ VTs X vs xs
  | [], vs, h => by
    simp [resultsOf] at h; subst h
    exact ⟨[], by simp, rfl, by simp⟩
  | r :: rs, vs, h => by
    unfold resultsOf at h
    split at h
    · rename_i v hv
      split at h
      · rename_i vs' hvs
        simp at h; subst h
        obtain ⟨xs, h1, h2⟩ := resultsOf_sound hE hs hf rs hvs
        obtain ⟨x, hx1, hx2⟩ := resultOf_sound hE hs hf hv
        refine ⟨x :: xs, ?_, by simp [h2.1], ?_⟩
        · rw [List.mapM_cons]
          simp only [Sem.run_bind, hx1, Result.andThen_ok, h1, Sem.run_pure]
        · intro i a y ha hy
          match i with
          | 0 => simp at ha hy; subst ha hy; exact hx2
          | i + 1 => exact h2.2 i a y (by simpa using ha) (by simpa using hy)
      · simp at h
    · simp at h

theorem results_sound (hE : Tys E P) (hs : Sim m X) {fr : Fr} {tmps : Array Value} (hf : FR X fr tmps) {fn : Func} {vs : List AV} (h : resultsOf E fr m fn.results.toList = some vs) :
    ∃ x, (results fn tmps).run P X.w = .ok x X.w ∧ VT X (tupOf vs) x := by
  obtain ⟨xs, h1, h2⟩ := resultsOf_sound hE hs hf _ h
  have hm : (fn.results.mapM (resSem tmps)).run P X.w = .ok xs.toArray X.w := by
    rw [Array.mapM_eq_mapM_toList]
    simp [h1]
  have hr : results fn tmps = (do let vs ← fn.results.mapM (resSem tmps); pure (if h : vs.size = 1 then vs[0] else .tuple vs)) := by
    unfold results
    congr 1
  rw [hr]
  simp only [Sem.run_bind, hm, Result.andThen_ok, Sem.run_pure]
  refine ⟨_, rfl, ?_⟩
  match vs, xs, h2 with
  | [], [], _ => exact VT.of_one (.tup [] [] rfl (by simp) (by simp)) rfl rfl
  | [v], [x], h2 => exact h2.2 0 v x rfl rfl
  | v :: v2 :: vs, x :: x2 :: xs, h2 =>
    exact VT.of_one (.tup _ _ h2.1 (fun i a y ha hy => (h2.2 i a y ha hy).1) (fun i a y ha hy => (h2.2 i a y ha hy).2)) rfl rfl
  | [], _ :: _, h2 => exact absurd h2.1 (by simp)
  | [_], [], h2 => exact absurd h2.1 (by simp)
  | [_], _ :: _ :: _, h2 => exact absurd h2.1 (by simp)
  | _ :: _ :: _, [], h2 => exact absurd h2.1 (by simp)
  | _ :: _ :: _, [_], h2 => exact absurd h2.1 (by simp)

end
end Go.AM

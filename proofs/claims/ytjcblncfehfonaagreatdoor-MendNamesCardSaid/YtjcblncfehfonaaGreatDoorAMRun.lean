/- A part of the abstract machine on which the proof of this claim stands: AMRun (definitions and lemmas alone; no statement of the claim; no condition). -/
import Derived.Test.YtjcblncfehfonaaGreatDoorAMInv
namespace Go.AM
open Go Go.RowKit
section
variable {P : Program}

/-- the machine for a program as it stands: every function keeps what it makes -/
def fnOf (P : Program) (ann : Nat → Func → Ann) (g : Nat) : Option FnI :=
  match P.funcs[g]? with
  | some fn =>
    (match fn.body with
    | some b => some { body := b, nparams := fn.params.size, results := fn.results.toList, ann := { ann g fn with mode := .keep, ntmps := fn.ntmps } }
    | none => none)
  | none => none
def envOf (P : Program) (ann : Nat → Func → Ann) : Env := { ty := tyI P, fn := fnOf P ann, prim := fun _ => none }

theorem envOf_tys (ann : Nat → Func → Ann) : Tys (envOf P ann) P := fun _ _ h => h
theorem envOf_fns (ann : Nat → Func → Ann) (hN : P.funcs.all (fun fn => !(fn.name == "runtime.NumGoroutine")) = true) : Fns (envOf P ann) P := by
  intro g i h
  simp only [envOf, fnOf] at h
  split at h
  · rename_i fn hfn
    split at h
    · rename_i b hb
      simp only [Option.some.injEq] at h
      subst h
      refine ⟨fn, hfn, hb, rfl, Nat.le_refl _, ?_⟩
      have := Array.all_eq_true_iff_forall_mem.1 hN fn (Array.mem_of_getElem? hfn)
      simpa using this
    · simp at h
  · simp at h
theorem envOf_keep (ann : Nat → Func → Ann) : ∀ g i, (envOf P ann).fn g = some i → i.ann.mode = .keep := by
  intro g i h
  simp only [envOf, fnOf] at h
  split at h
  · split at h
    · simp only [Option.some.injEq] at h; subst h; rfl
    · simp at h
  · simp at h

def m0 : Mem := { objs := [], toks := [], clk := 0 }
def Cx.start (W : World) : Cx := { w := W, B := W.heap.size, clk := 0, live := fun _ => False, blk := fun _ => 0, sp := fun _ => (0, 0), imm := fun _ _ => False, fix := fun _ => False }
theorem sim_start (W : World) : Sim m0 (Cx.start W) where
  clk := rfl
  lv := fun _ h => h.elim
  B := Nat.le_refl _
  objs := fun l st o h => by have := h.1; simp [m0] at this
  toks := fun t st h => by simp [m0] at h
  oo := fun l _ st _ o _ h => by have := h.1; simp [m0] at this
  tt := fun t _ _ _ h => by simp [m0] at h
  ot := fun l _ st _ o h => by have := h.1; simp [m0] at this
  immB := fun _ _ h => h.elim
  fixB := fun _ h => h.elim

/-- did the run answer so? -/
def answers (b : Bool) : Option (AV × Mem) → Bool
  | some (.bool x, _) => x == b
  | _ => false
/-- A CLOSED RUN: the machine's answer is the program's. -/
theorem run_closed (ann : Nat → Func → Ann) (hN : P.funcs.all (fun fn => !(fn.name == "runtime.NumGoroutine")) = true) {n g : Nat} {b : Bool}
    (h : answers b (invN (envOf P ann) (n + 1) (.fn (.func g) [] []) [] m0) = true) (W : World) :
    Calls P g #[] W fun e w' => e = .returned (.bool b) ∧ Below W.heap.size W w' := by
  have hE := envOf_tys (P := P) ann
  have hF := envOf_fns ann hN
  have hK := envOf_keep (P := P) ann
  have ih : InvOK P (envOf P ann) (invN (envOf P ann) n) := invN_ok hE hF hK (fun _ => rfl) n
  unfold answers at h
  split at h
  rotate_left
  · simp at h
  rename_i x m' hr
  obtain rfl : x = b := by simpa using h
  simp only [invN, List.nil_append] at hr
  have hp : (envOf P ann).prim g = none := rfl
  rw [hp] at hr
  simp only at hr
  unfold callFn at hr
  split at hr
  · simp at hr
  rename_i i hi
  rw [hK g i hi] at hr
  simp only at hr
  obtain ⟨fn, f1, f2, f3, f4, _⟩ := hF g i hi
  have hc := enter_sound hE ih (fun r n' ann' => draw_ok hE ih r n' ann') f1 f2 f3 f4 (sim_start W) (args := []) (cargs := []) ⟨rfl, by simp⟩ hr
  have hc' := callsIn_wide.1 (WF_none ▸ hc)
  refine Calls.mono hc' ?_
  rintro e w' ⟨cv, Y, rfl, hle, rfl, _, hv⟩
  exact ⟨by rw [hv.bool], hle.below⟩

end
end Go.AM

/- A part of the abstract machine on which the proof of this claim stands: AMReg (definitions and lemmas alone; no statement of the claim; no condition). -/
import Derived.Test.YtjcblncfehfonaaGreatDoorAMStep
import Derived.RangeFuncLeaves
import Derived.TacticsIn
namespace Go.AM
open Go Go.RowKit
section
variable {P : Program} {E : Env} {m : Mem} {X : Cx}

/-- the wide fence, in a round or not -/
def WF (r : Option Nat) : Fence := { Fence.wide with round := r }
theorem WF_none : WF none = Fence.wide := rfl
theorem WF_round (r : Option Nat) (l : Nat) : (WF r).inRound l = WF (some l) := rfl
theorem WF_room (r : Option Nat) (n : Nat) : (WF r).room n := fun _ h => by simp [WF, Fence.wide] at h
theorem WF_depth (r : Option Nat) : (WF r).depth.isSome = true → 1 ≤ 0 := by simp [WF, Fence.wide]

def CallPost (X : Cx) (m' : Mem) (v : AV) : Ending → World → Prop := fun e w' => ∃ cv Y, e = .returned cv ∧ X.le Y ∧ Y.w = w' ∧ Sim m' Y ∧ VT Y v cv

/-- a call, as the machine takes it -/
def callSem (cf : Value) (cargs : Array Value) : Sem Next := do let d ← Deferred.ofValue cf cargs; invoke d.target d.args

def Goes (P : Program) (X : Cx) (m' : Mem) (v : AV) (r : Result Next) : Prop :=
  ∃ nx w1, r = .ok nx w1 ∧ match nx with
    | .value cv => ∃ Y, X.le Y ∧ Y.w = w1 ∧ Sim m' Y ∧ VT Y v cv
    | .enter f args => CallsIn (WF none) 0 P f args w1 (CallPost X m' v)
    | .round l f tmps assign body => RoundIn (WF none) 0 P l f tmps assign body w1 (CallPost X m' v)
    | _ => False

def InvOK (P : Program) (E : Env) (inv : Inv) : Prop := ∀ {m : Mem} {X : Cx} {fv : AV} {args : List AV} {v : AV} {m' : Mem} {cf : Value} {cargs : List Value},
  Sim m X → VT X fv cf → VTs X args cargs → inv fv args m = some (v, m') →
  Goes P X m' v ((callSem cf cargs.toArray).run P X.w) ∧ (isFn E fv = true → ∃ g as w1, (callSem cf cargs.toArray).run P X.w = .ok (.enter g as) w1)

theorem RoundIn.wide_more {n : Nat} {l : Nat} {f : FuncId} {tmps : Array Value} {assign body : Code} {w : World} {R : Ending → World → Prop} {r : Option Nat}
    (h : RoundIn (WF none) 0 P l f tmps assign body w R) : RoundIn (WF r) n P l f tmps assign body w R :=
  ⟨h.1, fun c cs _ => h.2 c cs (WF_room _ _)⟩
theorem CallsIn.wide_more {n : Nat} {f : FuncId} {args : Array Value} {w : World} {R : Ending → World → Prop} {r : Option Nat}
    (h : CallsIn (WF none) 0 P f args w R) : CallsIn (WF r) n P f args w R :=
  ⟨h.1, fun cs _ => h.2 cs (WF_room _ _)⟩

theorem Fr.get_set (fr : Fr) (t t' : Nat) (v : AV) : (Fr.set fr t v).get t' = if t' = t then v else fr.get t' := by
  induction fr with
  | nil => simp only [Fr.set, Fr.get]; split <;> rename_i h <;> split <;> rename_i h' <;> first | rfl | omega
  | cons p r ih =>
    obtain ⟨k, u⟩ := p
    unfold Fr.set
    split
    · rename_i hlt
      simp only [Fr.get]
      by_cases h1 : t' = t
      · subst h1; simp
      · rw [if_neg (Ne.symm h1), if_neg h1]
    · split
      · rename_i h1 h2
        subst h2
        simp only [Fr.get]
        by_cases h1 : t' = k
        · subst h1; simp
        · rw [if_neg (Ne.symm h1), if_neg h1, if_neg (Ne.symm h1)]
      · rename_i h1 h2
        simp only [Fr.get, ih]
        by_cases h3 : t' = t
        · subst h3; simp [h2]
        · simp [h3]

theorem FR.put {fr : Fr} {a : Act} (hf : FR X fr a.tmps) {nt : Nat} (hn : nt ≤ a.tmps.size) {d : Option Tmp} {v : AV} {cv : Value} (hv : VT X v cv) {fr' : Fr} (h : putD nt fr d v = some fr') :
    FR X fr' (a.put d cv).tmps ∧ (a.put d cv).tmps.size = a.tmps.size ∧ (a.put d cv).defers = a.defers := by
  unfold putD at h
  cases d with
  | none => simp at h; subst h; exact ⟨hf, rfl, rfl⟩
  | some t =>
    simp only at h
    split at h
    · rename_i hlt
      simp at h; subst h
      refine ⟨?_, by simp [Act.put], rfl⟩
      intro t' ht'
      rw [Fr.get_set] at ht' ⊢
      simp only [Act.put, Array.size_setIfInBounds]
      split
      · rename_i h1
        subst h1
        have : t' < a.tmps.size := Nat.lt_of_lt_of_le hlt hn
        refine ⟨this, ?_⟩
        simpa [Array.getD_eq_getD_getElem?, Array.getElem?_setIfInBounds, this] using hv
      · rename_i h1
        rw [if_neg h1] at ht'
        have := hf t' ht'
        refine ⟨this.1, ?_⟩
        simpa [Array.getD_eq_getD_getElem?, Array.getElem?_setIfInBounds, Ne.symm h1] using this.2
    · simp at h

theorem wanted_sound {fr : Fr} {a : Act} (hf : FR X fr a.tmps) {ops : Array Oper} {o : Oper} {b : Bool} (h : wanted fr ops o = some b) : Region.wanted o (yielded ops a.tmps) = b := by
  unfold wanted at h
  unfold Region.wanted
  split at h
  · rename_i hg
    simp at h; subst h
    simp [hg]
  · rename_i j want hg
    rw [hg]
    simp only
    unfold yielded
    split at h
    · rename_i t ht
      split at h
      · rename_i c hc
        simp at h; subst h
        have := hf t (by rw [hc]; rfl)
        rw [hc] at this
        have hb := this.2.bool
        rw [Array.getD_eq_getD_getElem?, Array.getElem?_eq_getElem this.1] at hb
        simp only [Option.getD_some] at hb
        simp [ht, Array.getElem?_eq_getElem this.1, hb]
      · rename_i hc
        simp at h; subst h
        have := hf t (by rw [hc]; rfl)
        rw [hc] at this
        obtain ⟨xs, hx, hl, _⟩ := this.2.tup
        rw [Array.getD_eq_getD_getElem?, Array.getElem?_eq_getElem this.1] at hx
        simp only [Option.getD_some] at hx
        simp [ht, Array.getElem?_eq_getElem this.1, hx]
      · simp at h
    · rename_i ht
      simp at h; subst h
      simp [ht]

theorem oper_notDefer {inv : Inv} {fr : Fr} {o : Oper} {r : AV × Mem} (h : stepOp E inv fr o.op m = some r) : ∀ c, o.op ≠ .defer c := by
  intro c hc
  rw [hc] at h
  unfold stepOp at h
  split at h
  · simp [stepCore] at h
  · simp at h

/-- one operation of a region -/
theorem oper_sound (hE : Tys E P) {inv : Inv} (hinv : InvOK P E inv) {r : Option Nat} {n nt : Nat} {ops : Array Oper} {Q : Exit → Act → World → Prop} {o : Oper} {fr fr' : Fr} {m' : Mem} {a : Act}
    (hs : Sim m X) (hf : FR X fr a.tmps) (hn : nt ≤ a.tmps.size) (h : oper E inv nt ops o fr m = some (fr', m')) {K : Act → World → Prop}
    (hK : ∀ (a' : Act) (Y : Cx), X.le Y → Sim m' Y → FR Y fr' a'.tmps → a'.tmps.size = a.tmps.size → a'.defers = a.defers → K a' Y.w) :
    if Region.wanted o (yielded ops a.tmps) then o.wpIn (WF r) n P a X.w K Q
      else (∀ f, o.about P X.w a.eval = some f → (WF r).fn f) ∧ K (a.put o.dst undef) X.w := by
  unfold oper at h
  split at h
  · rename_i hw
    rw [wanted_sound hf hw, if_pos rfl]
    split at h
    · rename_i v m1 hst
      split at h
      · rename_i fr1 hput
        simp only [Option.some.injEq, Prod.mk.injEq] at h
        obtain ⟨rfl, rfl⟩ := h
        have hnd := oper_notDefer hst
        refine ⟨fun _ _ => trivial, ?_⟩
        rw [Oper.semAt_eq _ _ _ hnd]
        have fin : ∀ (Y : Cx) (cv : Value), X.le Y → Sim m1 Y → VT Y v cv → K (a.put o.dst cv) Y.w := by
          intro Y cv hle hs' hv
          obtain ⟨k1, k2, k3⟩ := (hf.mono hle).put hn hv hput
          exact hK _ Y hle hs' k1 k2 k3
        by_cases hc : ∃ c f, o.op = .call c ∧ c.callee = .value f
        · obtain ⟨c, f, hc1, hc2⟩ := hc
          have hst' := hst
          unfold stepOp at hst'
          split at hst'
          rotate_left
          · simp at hst'
          rw [hc1] at hst'
          simp only [stepCore, hc2] at hst'
          split at hst'
          · rename_i hd
            have hargs := VTs_map hf c.args.toList hd
            split at hst'
            · simp at hst'
            · rename_i hfu
              have hfv := eval_sound hf (x := f) (by simpa using hfu)
              obtain ⟨⟨nx, w1, hrun, hm⟩, _⟩ := hinv hs hfv hargs hst'
              have he : (execOp a.eval o).run P X.w = .ok nx w1 := by
                rw [ev_eq, ← hrun]
                have e : (c.args.toList.map (ev a.tmps)).toArray = c.args.map (ev a.tmps) := by apply Array.ext'; simp
                simp only [execOp, hc1, resolve, hc2, callSem, e]
              rw [he]
              cases nx with
              | value cv =>
                obtain ⟨Y, h1, h2, h3, h4⟩ := hm
                subst h2
                exact fin Y cv h1 h3 h4
              | enter g args =>
                refine ⟨fun hh => by simp [WF, Fence.wide] at hh, ?_⟩
                refine CallsIn.mono (CallsIn.wide_more hm) ?_
                rintro e w' ⟨cv, Y, rfl, h1, rfl, h3, h4⟩
                exact fin Y cv h1 h3 h4
              | round l g tmps assign body =>
                refine ⟨fun hh => by simp [WF, Fence.wide] at hh, ?_⟩
                refine RoundIn.mono (RoundIn.wide_more hm) ?_
                rintro e w' ⟨cv, Y, rfl, h1, rfl, h3, h4⟩
                exact fin Y cv h1 h3 h4
              | _ => exact hm.elim
          · simp at hst'
        · obtain ⟨nx, Y, h1, h2, h3, cv, h4, h5⟩ := stepOp_sound hE hs hf o (fun c f hc1 hc2 => hc ⟨c, f, hc1, hc2⟩) hst
          rw [h3]
          rcases h5 with rfl | ⟨rfl, rfl⟩
          · exact fin Y cv h1 h2 h4
          · exact fin Y undef h1 h2 h4
      · simp at h
    · simp at h
  · rename_i hw
    rw [wanted_sound hf hw]
    simp only [Bool.false_eq_true, if_false]
    split at h
    · rename_i fr1 hput
      simp only [Option.some.injEq, Prod.mk.injEq] at h
      obtain ⟨rfl, rfl⟩ := h
      obtain ⟨k1, k2, k3⟩ := hf.put hn VT.undef hput
      exact ⟨fun _ _ => trivial, hK _ X (Cx.le.refl X) hs k1 k2 k3⟩
    · simp at h
  · simp at h

theorem ops_sound (hE : Tys E P) {inv : Inv} (hinv : InvOK P E inv) {r : Option Nat} {n nt : Nat} {ops : Array Oper} {Q : Exit → Act → World → Prop} : ∀ (rest : List Oper) {m : Mem} {X : Cx} {fr fr' : Fr} {m' : Mem} {a : Act},
    Sim m X → FR X fr a.tmps → nt ≤ a.tmps.size → execOps E inv nt ops rest fr m = some (fr', m') →
    (∀ (a' : Act) (Y : Cx), X.le Y → Sim m' Y → FR Y fr' a'.tmps → a'.tmps.size = a.tmps.size → a'.defers = a.defers → Q .normal a' Y.w) →
    wpListIn (WF r) n P ops Q rest a X.w
  | [], m, X, fr, fr', m', a, hs, hf, hn, h, hQ => by
    simp [execOps] at h
    obtain ⟨rfl, rfl⟩ := h
    exact hQ a X (Cx.le.refl X) hs hf rfl rfl
  | o :: rest, m, X, fr, fr', m', a, hs, hf, hn, h, hQ => by
    unfold execOps at h
    split at h
    · rename_i fr1 m1 ho
      exact oper_sound hE hinv hs hf hn ho (fun a' Y hle hs' hf' hz hd =>
        ops_sound hE hinv rest hs' hf' (by omega) h (fun a'' Z hle' hs'' hf'' hz' hd' => hQ a'' Z (hle.trans hle') hs'' hf'' (hz'.trans hz) (hd'.trans hd)))
    · simp at h

end
end Go.AM

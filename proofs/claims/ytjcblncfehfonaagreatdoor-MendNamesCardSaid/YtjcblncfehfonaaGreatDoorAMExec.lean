/- A part of the abstract machine on which the proof of this claim stands: AMExec (definitions and lemmas alone; no statement of the claim; no condition). -/
import Derived.Test.YtjcblncfehfonaaGreatDoorAMReg
namespace Go.AM
open Go Go.RowKit
section
variable {P : Program} {E : Env}

def ctlEx : Ctl → Exit
  | .normal => .normal
  | .exit id => .exit id
  | .goto l => .goto l
  | .ret => .ret

def mark (D : Nat) : Deferred := { target := .collected D, args := #[] }

/-- where a run has come to -/
def At (X0 : Cx) (a0 : Act) (m : Mem) (fr : Fr) (a : Act) (w : World) : Prop :=
  ∃ (Y : Cx) (Ds : List Nat), X0.le Y ∧ Y.w = w ∧ Sim m Y ∧ FR Y fr a.tmps ∧ a.tmps.size = a0.tmps.size ∧ a.defers = Ds.map mark ++ a0.defers ∧ Ds.Nodup ∧
    ∀ D ∈ Ds, X0.w.heap.size ≤ D ∧ Y.fix D ∧ Y.w.heap[D]? = some (.deferred (some []))

theorem At.here {X : Cx} {a : Act} {m : Mem} {fr : Fr} (hs : Sim m X) (hf : FR X fr a.tmps) : At X a m fr a X.w :=
  ⟨X, [], Cx.le.refl X, rfl, hs, hf, rfl, rfl, List.nodup_nil, by simp⟩
theorem At.of {X Y : Cx} {a a' : Act} {m : Mem} {fr : Fr} (hle : X.le Y) (hs : Sim m Y) (hf : FR Y fr a'.tmps) (hz : a'.tmps.size = a.tmps.size) (hd : a'.defers = a.defers) : At X a m fr a' Y.w :=
  ⟨Y, [], hle, rfl, hs, hf, hz, by simpa using hd, List.nodup_nil, by simp⟩

theorem At.trans {X0 : Cx} {a0 a : Act} {m : Mem} {fr : Fr} {w : World} (h : At X0 a0 m fr a w) :
    ∃ Y, Y.w = w ∧ Sim m Y ∧ FR Y fr a.tmps ∧ a.tmps.size = a0.tmps.size ∧ ∀ {m' : Mem} {fr' : Fr} {a' : Act} {w' : World}, At Y a m' fr' a' w' → At X0 a0 m' fr' a' w' := by
  obtain ⟨Y, Ds, h1, h2, h3, h4, h5, h6, h7, h8⟩ := h
  refine ⟨Y, h2, h3, h4, h5, ?_⟩
  rintro m' fr' a' w' ⟨Z, Es, k1, k2, k3, k4, k5, k6, k7, k8⟩
  refine ⟨Z, Es ++ Ds, h1.trans k1, k2, k3, k4, k5.trans h5, by rw [k6, h6]; simp, ?_, ?_⟩
  · rw [List.nodup_append]
    refine ⟨k7, h7, ?_⟩
    intro x hx y hy hxy
    subst hxy
    have e1 := (k8 x hx).1
    have e2 := h3.fixB x (h8 x hy).2.1
    omega
  · intro D hD
    rcases List.mem_append.1 hD with hD | hD
    · have := k8 D hD
      have hsz := h1.below.size
      exact ⟨Nat.le_trans hsz this.1, this.2⟩
    · have := h8 D hD
      have hfx := k1.fix D this.2.1
      exact ⟨this.1, hfx.1, hfx.2.trans this.2.2⟩

theorem At.weak {X0 : Cx} {a0 a : Act} {m m' : Mem} {fr fr' : Fr} {w : World} (h : At X0 a0 m fr a w) (hm : ∀ X, Sim m X → Sim m' X) (hf : ∀ t, (fr'.get t).isUnd = false → fr'.get t = fr.get t) : At X0 a0 m' fr' a w := by
  obtain ⟨Y, Ds, h1, h2, h3, h4, h5⟩ := h
  refine ⟨Y, Ds, h1, h2, hm Y h3, ?_, h5⟩
  intro t ht
  have e := hf t ht
  rw [e] at ht ⊢
  exact h4 t ht

abbrev Exe := Fr → Mem → Option (Ctl × Fr × Mem)
def ExecOK (P : Program) (r : Option Nat) (n nt : Nat) (f : Exe) (c : Code) : Prop :=
  ∀ {X : Cx} {fr : Fr} {m : Mem} {a : Act} {ctl : Ctl} {fr' : Fr} {m' : Mem}, Sim m X → FR X fr a.tmps → nt ≤ a.tmps.size → f fr m = some (ctl, fr', m') →
    c.wpIn (WF r) n P (fun e a' w' => e = ctlEx ctl ∧ At X a m' fr' a' w') a X.w

variable {r : Option Nat} {n nt : Nat}

theorem ok_seq {fx fy : Exe} {x y : Code} (hx : ExecOK P r n nt fx x) (hy : ExecOK P r n nt fy y) :
    ExecOK P r n nt (fun fr m => match fx fr m with | some (.normal, fr, m) => fy fr m | r => r) (.seq x y) := by
  intro X fr m a ctl fr' m' hs hf hn h
  apply wpIn_seq
  simp only at h
  split at h
  · rename_i fr1 m1 he
    refine wpIn_mono (hx hs hf hn he) ?_
    rintro e a1 w1 ⟨rfl, hat⟩
    obtain ⟨Y, rfl, h3, h4, h5, h6⟩ := hat.trans
    show (y.wpIn (WF r) n P _ a1 Y.w)
    refine wpIn_mono (hy h3 h4 (by omega) h) ?_
    rintro e a2 w2 ⟨rfl, hat2⟩
    exact ⟨rfl, h6 hat2⟩
  · rename_i hne
    refine wpIn_mono (hx hs hf hn h) ?_
    rintro e a1 w1 ⟨rfl, hat⟩
    cases ctl with
    | normal => exact (hne _ _ h).elim
    | _ => exact ⟨rfl, hat⟩

theorem ok_block {f : Exe} {c : Code} {id : Nat} (hc : ExecOK P r n nt f c) :
    ExecOK P r n nt (fun fr m => match f fr m with | some (.exit j, fr, m) => if j = id then some (.normal, fr, m) else some (.exit j, fr, m) | r => r) (.block id c) := by
  intro X fr m a ctl fr' m' hs hf hn h
  apply wpIn_block
  simp only at h
  split at h
  · rename_i j fr1 m1 he
    refine wpIn_mono (hc hs hf hn he) ?_
    rintro e a1 w1 ⟨rfl, hat⟩
    simp only [ctlEx, Exit.inBlock]
    split at h
    · rename_i hj
      simp only [Option.some.injEq, Prod.mk.injEq] at h
      obtain ⟨rfl, rfl, rfl⟩ := h
      rw [if_pos hj]
      exact ⟨rfl, hat⟩
    · rename_i hj
      simp only [Option.some.injEq, Prod.mk.injEq] at h
      obtain ⟨rfl, rfl, rfl⟩ := h
      rw [if_neg hj]
      exact ⟨rfl, hat⟩
  · rename_i hne
    refine wpIn_mono (hc hs hf hn h) ?_
    rintro e a1 w1 ⟨rfl, hat⟩
    cases ctl with
    | exit j => exact (hne _ _ _ h).elim
    | _ => exact ⟨rfl, hat⟩

theorem ok_cond {fx fy : Exe} {x y : Code} {c : Operand} (hx : ExecOK P r n nt fx x) (hy : ExecOK P r n nt fy y) :
    ExecOK P r n nt (fun fr m => match fr.eval c with | .bool true => fx fr m | .bool false => fy fr m | _ => none) (.cond c x y) := by
  intro X fr m a ctl fr' m' hs hf hn h
  simp only at h
  split at h
  · rename_i hc
    have hv := eval_sound hf (x := c) (by rw [hc]; rfl)
    rw [hc, ← ev_eq] at hv
    exact wpIn_cond (t := true) hv.bool (hx hs hf hn h)
  · rename_i hc
    have hv := eval_sound hf (x := c) (by rw [hc]; rfl)
    rw [hc, ← ev_eq] at hv
    exact wpIn_cond (t := false) hv.bool (hy hs hf hn h)
  · simp at h

theorem least {p : Nat → Prop} (h : ∃ k, p k) : ∃ k, p k ∧ ∀ j, p j → k ≤ j := by
  obtain ⟨k, hk⟩ := h
  induction k using Nat.strongRecOn with
  | _ k ih =>
    by_cases hj : ∃ j, j < k ∧ p j
    · obtain ⟨j, h1, h2⟩ := hj
      exact ih j h1 h2
    · refine ⟨k, hk, fun j hp => ?_⟩
      rcases Nat.lt_or_ge j k with h | h
      · exact (hj ⟨j, h, hp⟩).elim
      · exact h

theorem ok_loop {f : Exe} {c : Code} (hc : ExecOK P r n nt f c) (k : Nat) : ExecOK P r n nt (iterN k f) (.loop c) := by
  intro X fr m a ctl fr' m' hs hf hn h
  let R : Nat → Act → World → Prop := fun k a1 w1 => ∃ fr1 m1, At X a m1 fr1 a1 w1 ∧ iterN k f fr1 m1 = some (ctl, fr', m')
  classical
  refine wpIn_loop (fun a1 w1 => ∃ k, R k a1 w1) (fun a1 w1 => if hk : ∃ k, R k a1 w1 then (least hk).choose else 0) ⟨k, fr, m, At.here hs hf, h⟩ ?_
  intro a1 w1 hex
  simp only [dif_pos hex]
  obtain ⟨hsp, hmin⟩ := (least hex).choose_spec
  obtain ⟨fr1, m1, hat, hit⟩ := hsp
  generalize hkk : (least hex).choose = kk at hit hmin
  cases kk with
  | zero => simp [iterN] at hit
  | succ kk =>
    obtain ⟨Y, rfl, h3, h4, h5, h6⟩ := hat.trans
    unfold iterN at hit
    split at hit
    · rename_i fr2 m2 he
      refine wpIn_mono (hc h3 h4 (by omega) he) ?_
      rintro e a2 w2 ⟨rfl, hat2⟩
      have hR : R kk a2 w2 := ⟨fr2, m2, h6 hat2, hit⟩
      have hex2 : ∃ k, R k a2 w2 := ⟨kk, hR⟩
      refine ⟨hex2, ?_⟩
      rw [dif_pos hex2]
      have := (least hex2).choose_spec.2 kk hR
      omega
    · rename_i hne
      refine wpIn_mono (hc h3 h4 (by omega) hit) ?_
      rintro e a2 w2 ⟨rfl, hat2⟩
      cases ctl with
      | normal => exact (hne _ _ hit).elim
      | _ => exact ⟨rfl, h6 hat2⟩

theorem ok_weak {f g : Exe} {c : Code} (hc : ExecOK P r n nt f c)
    (hg : ∀ fr m ctl fr' m', g fr m = some (ctl, fr', m') → ∃ fr0 fr1 m1, f fr0 m = some (ctl, fr1, m1) ∧ (∀ t, (fr0.get t).isUnd = false → fr0.get t = fr.get t) ∧ (∀ X, Sim m1 X → Sim m' X) ∧ (∀ t, (fr'.get t).isUnd = false → fr'.get t = fr1.get t)) :
    ExecOK P r n nt g c := by
  intro X fr m a ctl fr' m' hs hf hn h
  obtain ⟨fr0, fr1, m1, h1, h2, h3, h4⟩ := hg fr m ctl fr' m' h
  have hf0 : FR X fr0 a.tmps := by
    intro t ht
    have e := h2 t ht
    rw [e] at ht ⊢
    exact hf t ht
  refine wpIn_mono (hc hs hf0 hn h1) ?_
  rintro e a1 w1 ⟨rfl, hat⟩
  exact ⟨rfl, hat.weak h3 h4⟩


/-! ### scopes -/
def ScopeOK (P : Program) (r : Option Nat) (nt : Nat) (f : Exe) (c rest : Code) : Prop :=
  ∀ {X : Cx} {fr : Fr} {m : Mem} {a : Act} {ctl : Ctl} {fr' : Fr} {m' : Mem}, Sim m X → FR X fr a.tmps → nt ≤ a.tmps.size → f fr m = some (ctl, fr', m') →
    ∀ (b : Frame) (k : List Item) (cs : List Frame), b.roundOf = r →
      ∃ e a' w', (e = ctlEx ctl ∧ At X a m' fr' a' w') ∧ ArrivesIn (Machine.fenced P (WF r)) P (lone (b.atR a (.code rest :: .inScope c :: k)) cs X.w) b k cs e a' w'

theorem any_fenced (P : Program) (r : Option Nat) (mm : Machine) : mm.fenced P (WF r) := by
  have := fenced_wide P mm
  cases r with
  | none => exact this
  | some l => exact this

theorem stepR_scope {b : Frame} {a : Act} {k : List Item} {cs : List Frame} {w : World} {c : Code} : step P (lone (b.atR a (.code (.scope c) :: k)) cs w) = .next (lone (b.atR a (.code c :: .inScope c :: k)) cs w) :=
  step_lone_go (by simp [stepG, stepG.exec, Frame.atR])
theorem stepR_inScope {b : Frame} {a : Act} {k : List Item} {cs : List Frame} {w : World} {c : Code} : step P (lone (b.atR a (.inScope c :: k)) cs w) = .next (lone (b.atR a k) cs w) :=
  step_lone_go (by simp [stepG, stepG.exec, Frame.atR])

theorem leave_scope {b : Frame} {k : List Item} {cs : List Frame} {c : Code} {mm : Machine} {e : Exit} {a : Act} {w : World} (hg : ∀ l, e = .goto l → findLabel c l = none)
    (h : ArrivesIn (Machine.fenced P (WF r)) P mm b (.inScope c :: k) cs e a w) : ArrivesIn (Machine.fenced P (WF r)) P mm b k cs e a w := by
  have he : ∀ id, exitTo id (.inScope c :: k) = exitTo id k := fun id => by simp [exitTo]
  cases e with
  | normal => exact StepsIn.trans h (.one (any_fenced P r _) stepR_inScope)
  | exit id => exact ⟨fun k' hk => h.1 k' (by rw [he]; exact hk), fun hr hk => h.2 hr (by rw [he]; exact hk)⟩
  | goto l =>
    have hl : gotoIn l (.inScope c :: k) = gotoIn l k := by simp [gotoIn, hg l rfl]
    exact ⟨fun k' hk => h.1 k' (by rw [hl]; exact hk), fun hr hk => h.2 hr (by rw [hl]; exact hk)⟩
  | ret => exact h
  | panic ch => exact h
  | outgrown => exact h

/-- what is done where a run of a scope's code has come out -/
def fromScope (jmp : Jmp) (c : Code) (b : Nat) : Option (Ctl × Fr × Mem) → Option (Ctl × Fr × Mem)
  | some (.goto l, fr, m) =>
    (match findLabel c l with
    | some rest => jmp c rest b fr m
    | none => some (.goto l, fr, m))
  | r => r

theorem scope_step {f : Exe} {c x : Code} {bid : Nat} {jmp : Jmp} (hx : ExecOK P r n nt f x) (hj : ∀ rest, ScopeOK P r nt (jmp c rest bid) c rest)
    {X : Cx} {fr : Fr} {m : Mem} {a : Act} {ctl : Ctl} {fr' : Fr} {m' : Mem} (hs : Sim m X) (hf : FR X fr a.tmps) (hn : nt ≤ a.tmps.size) (h : fromScope jmp c bid (f fr m) = some (ctl, fr', m'))
    (b : Frame) (k : List Item) (cs : List Frame) (hb : b.roundOf = r) :
    ∃ e a' w', (e = ctlEx ctl ∧ At X a m' fr' a' w') ∧ ArrivesIn (Machine.fenced P (WF r)) P (lone (b.atR a (.code x :: .inScope c :: k)) cs X.w) b k cs e a' w' := by
  unfold fromScope at h
  split at h
  · rename_i l fr1 m1 he
    obtain ⟨e, a1, w1, ⟨rfl, hat⟩, harr⟩ := hx hs hf hn he b (.inScope c :: k) cs hb trivial (WF_room _ _)
    split at h
    · rename_i rest hl
      obtain ⟨Y, rfl, h3, h4, h5, h6⟩ := hat.trans
      obtain ⟨e2, a2, w2, ⟨rfl, hat2⟩, harr2⟩ := hj rest h3 h4 (by omega) h b k cs hb
      have hg : gotoIn l (.inScope c :: k) = some (.code rest :: .inScope c :: k) := by simp [gotoIn, hl]
      exact ⟨_, a2, w2, ⟨rfl, h6 hat2⟩, .of_steps (harr.1 _ hg) harr2⟩
    · rename_i hl
      simp only [Option.some.injEq, Prod.mk.injEq] at h
      obtain ⟨rfl, rfl, rfl⟩ := h
      exact ⟨_, a1, w1, ⟨rfl, hat⟩, leave_scope (by rintro l' ⟨⟩; exact hl) harr⟩
  · rename_i hne
    obtain ⟨e, a1, w1, ⟨rfl, hat⟩, harr⟩ := hx hs hf hn h b (.inScope c :: k) cs hb trivial (WF_room _ _)
    refine ⟨_, a1, w1, ⟨rfl, hat⟩, leave_scope ?_ harr⟩
    intro l hl
    cases ctl with
    | goto l' => exact (hne _ _ _ h).elim
    | _ => simp [ctlEx] at hl

theorem ok_scope {f : Exe} {c : Code} {bid : Nat} {jmp : Jmp} (hc : ExecOK P r n nt f c) (hj : ∀ rest, ScopeOK P r nt (jmp c rest bid) c rest) :
    ExecOK P r n nt (fun fr m => fromScope jmp c bid (f fr m)) (.scope c) := by
  intro X fr m a ctl fr' m' hs hf hn h b k cs hb _ _
  obtain ⟨e, a', w', h1, h2⟩ := scope_step hc hj hs hf hn h b k cs hb
  exact ⟨e, a', w', h1, .of_steps (.one (any_fenced P r _) stepR_scope) h2⟩

/-! ### all code -/
theorem wpIn_region_of {id : Nat} {ops : Array Oper} {Q : Exit → Act → World → Prop} {a : Act} {w : World} (h : wpListIn (WF r) n P ops Q ops.toList a w) : (Code.region id ops false).wpIn (WF r) n P Q a w := wpIn_region_list h

/-- drawn regions are sound -/
def DrawOK (P : Program) (E : Env) (r : Option Nat) (n : Nat) (inv : Inv) (ann : Ann) : Prop :=
  ∀ (id : Nat) (ops : Array Oper) (iter : Iter) (jmp : Jmp) (fid bid : Nat), ExecOK P r n ann.ntmps (exec E inv iter jmp fid ann (.region id ops true) bid) (.region id ops true)
/-- ranges over functions are sound -/
def RangeOK (P : Program) (E : Env) (r : Option Nat) (n : Nat) (inv : Inv) (ann : Ann) : Prop :=
  ∀ (g : Operand) (ps : Array Tmp) (assign body : Code) (iter : Iter) (jmp : Jmp) (fid bid : Nat), ExecOK P r n ann.ntmps (exec E inv iter jmp fid ann (.rangeFunc g ps assign body) bid) (.rangeFunc g ps assign body)

theorem get_filter (p : Nat × AV → Bool) (hp : ∀ k u v, p (k, u) = p (k, v)) (fr : Fr) (t : Nat) (h : (Fr.get (fr.filter p) t).isUnd = false) : Fr.get (fr.filter p) t = fr.get t := by
  induction fr with
  | nil => rfl
  | cons x fr ih =>
    obtain ⟨k, u⟩ := x
    rw [List.filter_cons] at h ⊢
    by_cases hk : p (k, u) = true
    · rw [if_pos hk] at h ⊢
      simp only [Fr.get] at h ⊢
      split
      · rfl
      · rename_i hne
        rw [if_neg hne] at h
        exact ih h
    · rw [if_neg hk] at h ⊢
      simp only [Fr.get]
      split
      · rename_i hkt
        subst hkt
        have e : ∀ (l : Fr), (Fr.get (l.filter p) k) = .und := by
          intro l
          induction l with
          | nil => rfl
          | cons y l ih' =>
            obtain ⟨k', u'⟩ := y
            rw [List.filter_cons]
            split
            · rename_i hy
              simp only [Fr.get]
              split
              · rename_i hkk
                subst hkk
                exact absurd ((hp _ _ _).trans hy) hk
              · exact ih'
            · exact ih'
        rw [e] at h
        simp [AV.isUnd] at h
      · exact ih h

theorem get_forget (ann : Ann) (fr : Fr) (t : Nat) (h : ((forget ann fr).get t).isUnd = false) : (forget ann fr).get t = fr.get t :=
  get_filter _ (fun _ _ _ => rfl) fr t h
theorem get_keepHead (ann : Ann) (b : Nat) (fr : Fr) (t : Nat) (h : ((keepHead ann b fr).get t).isUnd = false) : (keepHead ann b fr).get t = fr.get t := by
  unfold keepHead at h ⊢
  split at h
  · exact get_filter _ (fun _ _ _ => rfl) fr t h
  · rfl
theorem Sim.cutBack {ann : Ann} {b k : Nat} {m : Mem} {X : Cx} (h : Sim m X) : Sim (cutBack ann b k m) X := by
  unfold Go.AM.cutBack
  split
  · exact h
  · refine h.sub rfl ?_ (fun _ _ h => h)
    rintro l st o ⟨h1, h2⟩
    refine ⟨?_, h2⟩
    simp only [List.getElem?_take] at h1
    split at h1
    · exact h1
    · simp at h1

theorem exec_sound (hE : Tys E P) {inv : Inv} (hinv : InvOK P E inv) {k : Nat} {jmp : Jmp} {fid : Nat} {ann : Ann} (hnt : nt = ann.ntmps)
    (hdraw : DrawOK P E r n inv ann) (hrange : RangeOK P E r n inv ann) (hj : ∀ c rest b, ScopeOK P r nt (jmp c rest b) c rest) :
    ∀ (c : Code) (b : Nat), ExecOK P r n nt (exec E inv (iterN k) jmp fid ann c b) c := by
  subst hnt
  intro c
  induction c with
  | skip =>
    intro b X fr m a ctl fr' m' hs hf hn h
    simp [exec] at h
    obtain ⟨rfl, rfl, rfl⟩ := h
    exact wpIn_skip ⟨rfl, At.here hs hf⟩
  | label l =>
    intro b X fr m a ctl fr' m' hs hf hn h
    simp [exec] at h
    obtain ⟨rfl, rfl, rfl⟩ := h
    exact wpIn_label ⟨rfl, At.here hs hf⟩
  | seq x y ihx ihy => intro b; exact ok_seq (ihx b) (ihy b)
  | cond c x y ihx ihy => intro b; exact ok_cond (ihx b) (ihy b)
  | block id c ih => intro b; exact ok_block (ih id)
  | loop c ih =>
    intro b X fr m a ctl fr' m' hs hf hn h
    have key : ExecOK P r n ann.ntmps (fun fr m' => match exec E inv (iterN k) jmp fid ann c b fr m' with | some (.normal, fr, m') => some (.normal, keepHead ann b fr, cutBack ann b m.objs.length m') | r => r) c := by
      intro X0 fr0 m0 a0 ctl0 fr0' m0'
      refine ok_weak (f := exec E inv (iterN k) jmp fid ann c b) (g := fun fr m' => match exec E inv (iterN k) jmp fid ann c b fr m' with | some (.normal, fr, m') => some (.normal, keepHead ann b fr, cutBack ann b m.objs.length m') | r => r) (ih b) ?_
      intro fr m1 ctl fr' m' h
      split at h
      · rename_i fr2 m2 he
        simp only [Option.some.injEq, Prod.mk.injEq] at h
        obtain ⟨rfl, rfl, rfl⟩ := h
        exact ⟨fr, fr2, m2, he, fun _ _ => rfl, fun X hX => hX.cutBack, fun t ht => get_keepHead ann b fr2 t ht⟩
      · exact ⟨fr, fr', m', h, fun _ _ => rfl, fun X hX => hX, fun _ _ => rfl⟩
    have hf0 : FR X (keepHead ann b fr) a.tmps := by
      intro t ht
      have e := get_keepHead ann b fr t ht
      rw [e] at ht ⊢
      exact hf t ht
    exact ok_loop key k hs hf0 hn h
  | exit id =>
    intro b X fr m a ctl fr' m' hs hf hn h
    simp [exec] at h
    obtain ⟨rfl, rfl, rfl⟩ := h
    exact wpIn_exit ⟨rfl, At.here hs hf⟩
  | goto l =>
    intro b X fr m a ctl fr' m' hs hf hn h
    simp [exec] at h
    obtain ⟨rfl, rfl, rfl⟩ := h
    exact wpIn_goto ⟨rfl, At.here hs hf⟩
  | ret =>
    intro b X fr m a ctl fr' m' hs hf hn h
    simp [exec] at h
    obtain ⟨rfl, rfl, rfl⟩ := h
    exact wpIn_ret ⟨rfl, At.here hs hf⟩
  | scope c ih =>
    intro b X fr m a ctl fr' m' hs hf hn h
    refine ok_scope (jmp := jmp) (bid := b) (ih b) (fun rest => hj c rest b) hs hf hn ?_
    rw [← h]
    simp only [exec, fromScope]
    split <;> rename_i he <;> simp only [he] <;> rfl
  | region id ops draw =>
    intro b
    cases draw with
    | true => exact hdraw id ops _ _ _ b
    | false =>
      intro X fr m a ctl fr' m' hs hf hn h
      simp only [exec] at h
      split at h
      · rename_i fr1 m1 he
        simp only [Bool.false_and, Bool.false_eq_true, if_false, Option.some.injEq, Prod.mk.injEq] at h
        obtain ⟨rfl, rfl, rfl⟩ := h
        refine wpIn_region_of (ops_sound hE hinv ops.toList hs hf hn he ?_)
        intro a' Y hle hs' hf' hz hd
        exact ⟨rfl, (At.of hle hs' hf' hz hd).weak (fun _ h => h) (fun t ht => get_forget ann _ t ht)⟩
      · simp at h
  | rangeFunc g ps assign body _ _ => intro b; exact hrange g ps assign body _ _ _ b
  | refuse s => intro b X fr m a ctl fr' m' hs hf hn h; simp [exec] at h

theorem jmpN_ok (hE : Tys E P) {inv : Inv} (hinv : InvOK P E inv) {k : Nat} {fid : Nat} {ann : Ann} (hdraw : DrawOK P E r n inv ann) (hrange : RangeOK P E r n inv ann) :
    ∀ (j : Nat) (c rest : Code) (b : Nat), ScopeOK P r ann.ntmps (jmpN E inv (iterN k) fid ann j c rest b) c rest := by
  intro j
  induction j with
  | zero => intro c rest b X fr m a ctl fr' m' hs hf hn h; simp [jmpN] at h
  | succ j ih =>
    intro c rest b X fr m a ctl fr' m' hs hf hn h bb kk cs hb
    refine scope_step (n := n) (exec_sound hE hinv (k := k) (fid := fid) rfl hdraw hrange ih rest b) (fun rest => ih c rest b) hs hf hn ?_ bb kk cs hb
    rw [← h]
    simp only [jmpN, fromScope]
    split <;> rename_i he <;> simp only [he] <;> rfl

end
end Go.AM

/- A part of the abstract machine on which the proof of this claim stands: AMStep (definitions and lemmas alone; no statement of the claim; no condition). -/
import Derived.Test.YtjcblncfehfonaaGreatDoorAMOps15
import Derived.Test.YtjcblncfehfonaaGreatDoorAMX
namespace Go.AM
open Go Go.RowKit
section
variable {P : Program} {E : Env} {m : Mem} {X : Cx}

theorem ev_eq (a : Act) : a.eval = ev a.tmps := by
  funext x; cases x <;> rfl

theorem VT.undef {X : Cx} : VT X (.tup []) undef := VT.of_one (.tup [] [] rfl (by simp) (by simp)) rfl rfl

/-- what an operation has come to -/
def Came (X : Cx) (m' : Mem) (v : AV) (r : Result Next) : Prop :=
  ∃ nx Y, X.le Y ∧ Sim m' Y ∧ r = .ok nx Y.w ∧ ∃ cv, VT Y v cv ∧ (nx = .value cv ∨ (nx = .skip ∧ cv = undef))

theorem Came.val (hs : Sim m X) {v : AV} {s : Sem Value} {cv : Value} (hr : s.run P X.w = .ok cv X.w) (hv : VT X v cv) : Came X m v ((do pure (Next.value (← s)) : Sem Next).run P X.w) :=
  ⟨.value cv, X, Cx.le.refl X, hs, by simp [hr], ⟨cv, hv, .inl rfl⟩⟩
theorem Came.val2 {m' : Mem} {v : AV} {s : Sem Value} (h : ∃ cv Y, X.le Y ∧ Sim m' Y ∧ VT Y v cv ∧ s.run P X.w = .ok cv Y.w) : Came X m' v ((do pure (Next.value (← s)) : Sem Next).run P X.w) := by
  obtain ⟨cv, Y, h1, h2, h3, h4⟩ := h
  exact ⟨.value cv, Y, h1, h2, by simp [h4], ⟨cv, h3, .inl rfl⟩⟩

theorem with0_some {o : Option AV} {v : AV} {m' : Mem} (h : with0 m o = some (v, m')) : o = some v ∧ m' = m := by
  unfold with0 at h
  split at h <;> simp at h
  exact ⟨by rw [h.1], h.2.symm⟩
theorem def_some {x v : AV} (h : def? x = some v) : x = v ∧ x.isUnd = false := by
  unfold def? at h
  split at h
  · simp at h
  · rename_i hn; simp at h; exact ⟨h, by simpa using hn⟩
theorem plain_some {x v : AV} (h : plain? x = some v) : x = v ∧ x.bad = false := by
  unfold plain? at h
  split at h
  · simp at h
  · rename_i hn; simp at h; exact ⟨h, by simpa using hn⟩

theorem VTs_map {fr : Fr} {tmps : Array Value} (hf : FR X fr tmps) (xs : List Operand) (h : (evals fr xs).all (fun v => !v.isUnd) = true) : VTs X (evals fr xs) (xs.map (ev tmps)) := by
  refine ⟨by simp [evals], ?_⟩
  intro i a x ha hx
  simp only [evals, List.getElem?_map, Option.map_eq_some_iff] at ha hx
  obtain ⟨o, ho, rfl⟩ := ha
  obtain ⟨o', ho', rfl⟩ := hx
  rw [ho] at ho'; cases ho'
  refine eval_sound hf ?_
  have := List.all_eq_true.1 h (fr.eval o) (List.mem_map.2 ⟨o, mem_of_get ho, rfl⟩)
  simpa using this

theorem parts_rel {fr : Fr} {tmps : Array Value} (hf : FR X fr tmps) (parts : Array (Nat × Operand)) :
    (parts.toList.map fun p => (p.1, fr.eval p.2)).length = (parts.map fun (i, x) => (i, ev tmps x)).toList.length ∧
    ∀ (i : Nat) (a : Nat × AV) (c : Nat × Value), (parts.toList.map fun p => (p.1, fr.eval p.2))[i]? = some a → (parts.map fun (i, x) => (i, ev tmps x)).toList[i]? = some c → a.1 = c.1 ∧ ((a.2.isUnd = false) → VT X a.2 c.2) := by
  refine ⟨by simp, ?_⟩
  intro i a c ha hc
  simp only [Array.toList_map, List.getElem?_map, Option.map_eq_some_iff] at ha hc
  obtain ⟨p, hp, rfl⟩ := ha
  obtain ⟨p', hp', rfl⟩ := hc
  rw [hp] at hp'; cases hp'
  exact ⟨rfl, fun h => eval_sound hf h⟩

theorem ready_of {fr : Fr} {o : Op} (h : (o.operands.toList.all fun x => !(fr.eval x).isUnd) = true) {x : Operand} (hx : x ∈ o.operands.toList) : (fr.eval x).isUnd = false := by
  have := List.all_eq_true.1 h x hx
  simpa using this

theorem VT.fnv {fs cs : List AV} {g : Nat} {x : Value} (h : VT X (.fn (.func g) fs cs) x) : ∃ fs' cs' : List Value, x = .func (.func g) fs'.toArray cs'.toArray ∧ VTs X fs fs' ∧ VTs X cs cs' := by
  have := h.one rfl
  cases this with
  | fn g fs cs fs' cs' hf hc h1 h1' h2 h2' =>
    exact ⟨fs', cs', rfl, ⟨hf, fun i a x ha hx => ⟨h1 i a x ha hx, h1' i a x ha hx⟩⟩, ⟨hc, fun i a x ha hx => ⟨h2 i a x ha hx, h2' i a x ha hx⟩⟩⟩
theorem VT.mkfn {fs cs : List AV} {g : Nat} {fs' cs' : List Value} (h1 : VTs X fs fs') (h2 : VTs X cs cs') : VT X (.fn (.func g) fs cs) (.func (.func g) fs'.toArray cs'.toArray) :=
  VT.of_one (.fn g fs cs fs' cs' h1.1 h2.1 (fun i a x ha hx => (h1.2 i a x ha hx).1) (fun i a x ha hx => (h1.2 i a x ha hx).2) (fun i a x ha hx => (h2.2 i a x ha hx).1) (fun i a x ha hx => (h2.2 i a x ha hx).2)) rfl rfl
theorem VT.yld {l st : Nat} {x : Value} (h : VT X (.yld l st) x) : x = .func (.yield (X.blk st)) #[] #[] ∧ X.live st := by
  have := h.one rfl
  cases this with
  | yld l st hs => exact ⟨rfl, hs⟩

theorem allPlain_und {l : List AV} (h : allPlain l = true) : l.all (fun v => !v.isUnd) = true := by
  unfold allPlain at h
  rw [List.all_eq_true] at h ⊢
  intro v hv
  have := h v hv
  cases v <;> simp_all [AV.isUnd, AV.bad]

theorem two_of_len {α : Type} {l : List α} (h : l.length = 2) : ∃ a b, l = [a, b] := by
  match l, h with
  | [a, b], _ => exact ⟨a, b, rfl⟩

theorem stepOp_sound (hE : Tys E P) (hs : Sim m X) {inv : Inv} {fr : Fr} {a : Act} (hf : FR X fr a.tmps) (o : Oper) (hnc : ∀ c f, o.op = .call c → c.callee ≠ .value f) {v : AV} {m' : Mem}
    (h : stepOp E inv fr o.op m = some (v, m')) : Came X m' v ((execOp a.eval o).run P X.w) := by
  rw [ev_eq]
  obtain ⟨dst, op, type, pos, after, guard⟩ := o
  simp only at h hnc
  unfold stepOp at h
  split at h
  rotate_left
  · simp at h
  rename_i hr
  unfold stepCore at h
  cases op with
  | move x =>
    have hw := with0_some h; clear h; obtain ⟨h, rfl⟩ := hw
    obtain ⟨rfl, hu⟩ := def_some h
    exact ⟨.value _, X, Cx.le.refl X, hs, rfl, ⟨_, eval_sound hf hu, .inl rfl⟩⟩
  | assign x =>
    have hw := with0_some h; clear h; obtain ⟨h, rfl⟩ := hw
    obtain ⟨rfl, hu⟩ := def_some h
    exact ⟨.value _, X, Cx.le.refl X, hs, rfl, ⟨_, eval_sound hf hu, .inl rfl⟩⟩
  | pick c x y =>
    simp only at h
    split at h
    · rename_i hc
      have hw := with0_some h; clear h; obtain ⟨h, rfl⟩ := hw
      obtain ⟨rfl, hu⟩ := def_some h
      have hcv := eval_sound hf (x := c) (by rw [hc]; rfl)
      rw [hc] at hcv
      exact ⟨.value _, X, Cx.le.refl X, hs, by simp [execOp, hcv.bool, asBool], ⟨_, eval_sound hf hu, .inl rfl⟩⟩
    · rename_i hc
      have hw := with0_some h; clear h; obtain ⟨h, rfl⟩ := hw
      obtain ⟨rfl, hu⟩ := def_some h
      have hcv := eval_sound hf (x := c) (by rw [hc]; rfl)
      rw [hc] at hcv
      exact ⟨.value _, X, Cx.le.refl X, hs, by simp [execOp, hcv.bool, asBool], ⟨_, eval_sound hf hu, .inl rfl⟩⟩
    · simp at h
  | alloc t =>
    simp only at h
    split at h
    · rename_i ti hti
      split at h
      · simp at h
      · rename_i hb
        simp only [Option.some.injEq, Prod.mk.injEq] at h
        obtain ⟨rfl, rfl⟩ := h
        exact Came.val2 (alloc_sound hE hs hti (by simpa using hb))
    · simp at h
  | box t x =>
    simp only at h
    split at h
    · rename_i w hw
      obtain ⟨rfl, hb⟩ := plain_some hw
      simp only [Option.some.injEq, Prod.mk.injEq] at h
      obtain ⟨rfl, rfl⟩ := h
      exact Came.val2 (box_sound hs (eval_sound hf (ready_of hr (by simp [Op.operands]))) hb)
    · simp at h
  | build t parts =>
    have hw := with0_some h; clear h; obtain ⟨h, rfl⟩ := hw
    obtain ⟨hl, hp⟩ := parts_rel hf parts
    obtain ⟨cv, h1, h2⟩ := build_sound hE hl hp h
    exact Came.val hs h2 h1
  | buildSlice t n parts =>
    have hw := with0_some h; clear h; obtain ⟨h, rfl⟩ := hw
    obtain ⟨hl, hp⟩ := parts_rel hf parts
    exact Came.val2 (buildSlice_sound hE hs hl hp h)
  | load t x =>
    have hw := with0_some h; clear h; obtain ⟨h, rfl⟩ := hw
    obtain ⟨y, h1, h2⟩ := load_sound hE hs (eval_sound hf (ready_of hr (by simp [Op.operands]))) h
    exact Came.val hs h1 h2
  | store t x y =>
    simp only at h
    split at h
    · rename_i m1 hst
      simp only [Option.some.injEq, Prod.mk.injEq] at h
      obtain ⟨rfl, rfl⟩ := h
      obtain ⟨Y, h1, h2, h3⟩ := store_sound hE hs (eval_sound hf (ready_of hr (by simp [Op.operands]))) (eval_sound hf (ready_of hr (by simp [Op.operands]))) hst
      exact ⟨.skip, Y, h1, h2, by simp [execOp, h3], ⟨_, VT.undef, .inr ⟨rfl, rfl⟩⟩⟩
    · simp at h
  | nilCheck x =>
    have hx := eval_sound hf (ready_of hr (x := x) (by simp [Op.operands]))
    simp only at h
    split at h
    · rename_i l s p off he
      simp only [Option.some.injEq, Prod.mk.injEq] at h
      obtain ⟨rfl, rfl⟩ := h
      rw [he] at hx
      exact ⟨.value _, X, Cx.le.refl X, hs, by simp [execOp, hx.ref.1], ⟨_, hx.ref.1 ▸ hx, .inl rfl⟩⟩
    · rename_i w he
      simp only [Option.some.injEq, Prod.mk.injEq] at h
      obtain ⟨rfl, rfl⟩ := h
      rw [he] at hx
      obtain ⟨b, o, cs, hcx, _⟩ := hx.vptr
      exact ⟨.value _, X, Cx.le.refl X, hs, by simp [execOp, hcx], ⟨_, hcx ▸ hx, .inl rfl⟩⟩
    · rename_i f fa fb he
      split at h
      · simp only [Option.some.injEq, Prod.mk.injEq] at h
        obtain ⟨rfl, rfl⟩ := h
        rw [he] at hx
        obtain ⟨fs', cs', hcx, _⟩ := hx.fnv
        exact ⟨.value _, X, Cx.le.refl X, hs, by simp [execOp, hcx], ⟨_, hcx ▸ hx, .inl rfl⟩⟩
      · simp at h
    · rename_i t w he
      simp only [Option.some.injEq, Prod.mk.injEq] at h
      obtain ⟨rfl, rfl⟩ := h
      rw [he] at hx
      obtain ⟨y, hcx, _⟩ := hx.iface
      exact ⟨.value _, X, Cx.le.refl X, hs, by simp [execOp, hcx], ⟨_, hcx ▸ hx, .inl rfl⟩⟩
    · rename_i l s he
      simp only [Option.some.injEq, Prod.mk.injEq] at h
      obtain ⟨rfl, rfl⟩ := h
      rw [he] at hx
      exact ⟨.value _, X, Cx.le.refl X, hs, by simp [execOp, hx.yld.1], ⟨_, hx.yld.1 ▸ hx, .inl rfl⟩⟩
    · simp at h
  | binOp op t x y t2 =>
    have hw := with0_some h; clear h; obtain ⟨h, rfl⟩ := hw
    obtain ⟨z, h1, h2⟩ := bin_sound hE hs (ox := x) (oy := y) (eval_sound hf (ready_of hr (by simp [Op.operands]))) (eval_sound hf (ready_of hr (by simp [Op.operands]))) h
    exact Came.val hs h1 h2
  | unOp op t x =>
    have hw := with0_some h; clear h; obtain ⟨h, rfl⟩ := hw
    obtain ⟨z, h1, h2⟩ := un_sound (P := P) (eval_sound hf (ready_of hr (by simp [Op.operands]))) h
    exact Came.val hs h1 h2
  | convert s d x =>
    have hw := with0_some h; clear h; obtain ⟨h, rfl⟩ := hw
    obtain ⟨Y, z, h1, h2, h3, h4⟩ := conv_sound hE hs (eval_sound hf (ready_of hr (by simp [Op.operands]))) h
    exact Came.val2 ⟨z, Y, h1, h2, h4, h3⟩
  | makeInterface t x =>
    have hw := with0_some h; clear h; obtain ⟨h, rfl⟩ := hw
    obtain ⟨z, h1, h2⟩ := mkIface_sound hE (eval_sound hf (ready_of hr (by simp [Op.operands]))) h
    exact Came.val hs h2 h1
  | makeFunc f fs cs =>
    simp only at h
    split at h
    · rename_i hp
      simp only [Bool.and_eq_true] at hp
      split at h
      · rename_i g
        simp only [Option.some.injEq, Prod.mk.injEq] at h
        obtain ⟨rfl, rfl⟩ := h
        have h1 := VTs_map hf fs.toList (allPlain_und hp.1)
        have h2 := VTs_map hf cs.toList (allPlain_und hp.2)
        refine ⟨.value _, X, Cx.le.refl X, hs, rfl, ⟨_, ?_, .inl rfl⟩⟩
        have := VT.mkfn (g := g) h1 h2
        have e : ∀ (xs : Array Operand), (xs.toList.map (ev a.tmps)).toArray = xs.map (ev a.tmps) := fun xs => by apply Array.ext'; simp
        rwa [e, e] at this
      · simp at h
    · simp at h
  | makeMap t r =>
    cases r with
    | none =>
      simp only [Option.some.injEq, Prod.mk.injEq] at h
      obtain ⟨rfl, rfl⟩ := h
      exact Came.val2 (makeMap_sound hs)
    | some x => simp at h
  | makeSlice t l c =>
    exact Came.val2 (makeSlice_sound hE hs (eval_sound hf (ready_of hr (by simp [Op.operands]))) (eval_sound hf (ready_of hr (by simp [Op.operands]))) h)
  | slice t x lo hi mx =>
    have hw := with0_some h; clear h; obtain ⟨h, rfl⟩ := hw
    have hopt : ∀ (o : Option Operand), (∀ y, o = some y → y ∈ (Op.slice t x lo hi mx).operands.toList) → OptV X (o.map fr.eval) (o.map (ev a.tmps)) := by
      intro o ho
      cases o with
      | none => trivial
      | some y => exact eval_sound hf (ready_of hr (ho y rfl))
    obtain ⟨z, h1, h2⟩ := slice_sound hE (eval_sound hf (ready_of hr (by simp [Op.operands]))) (hopt lo (by rintro y rfl; simp [Op.operands])) (hopt hi (by rintro y rfl; simp [Op.operands])) (hopt mx (by rintro y rfl; simp [Op.operands])) h
    exact Came.val hs h1 h2
  | fieldAddr t x f =>
    have hw := with0_some h; clear h; obtain ⟨h, rfl⟩ := hw
    obtain ⟨z, h1, h2⟩ := fieldAddr_sound hE (eval_sound hf (ready_of hr (by simp [Op.operands]))) h
    exact Came.val hs h1 h2
  | field t x f =>
    have hw := with0_some h; clear h; obtain ⟨h, rfl⟩ := hw
    obtain ⟨z, h1, h2⟩ := field_sound hE (eval_sound hf (ready_of hr (by simp [Op.operands]))) h
    exact Came.val hs h1 h2
  | indexAddr t x i =>
    have hw := with0_some h; clear h; obtain ⟨h, rfl⟩ := hw
    obtain ⟨z, h1, h2⟩ := indexAddr_sound hE (eval_sound hf (ready_of hr (by simp [Op.operands]))) (eval_sound hf (ready_of hr (by simp [Op.operands]))) h
    exact Came.val hs h1 h2
  | index t x i =>
    have hw := with0_some h; clear h; obtain ⟨h, rfl⟩ := hw
    obtain ⟨z, h1, h2⟩ := index_sound hE (eval_sound hf (ready_of hr (by simp [Op.operands]))) (eval_sound hf (ready_of hr (by simp [Op.operands]))) h
    exact Came.val hs h1 h2
  | lookup t x k ok =>
    have hw := with0_some h; clear h; obtain ⟨h, rfl⟩ := hw
    obtain ⟨z, h1, h2⟩ := lookup_sound hE hs (eval_sound hf (ready_of hr (by simp [Op.operands]))) (eval_sound hf (ready_of hr (by simp [Op.operands]))) h
    exact Came.val hs h2 h1
  | mapUpdate t x k w =>
    simp only at h
    split at h
    · rename_i m1 hst
      simp only [Option.some.injEq, Prod.mk.injEq] at h
      obtain ⟨rfl, rfl⟩ := h
      obtain ⟨Y, h1, h2, h3⟩ := mapUpdate_sound hE hs (eval_sound hf (ready_of hr (by simp [Op.operands]))) (eval_sound hf (ready_of hr (by simp [Op.operands]))) (eval_sound hf (ready_of hr (by simp [Op.operands]))) hst
      exact ⟨.skip, Y, h1, h2, by simp [execOp, h3], ⟨_, VT.undef, .inr ⟨rfl, rfl⟩⟩⟩
    · simp at h
  | insert t x k w =>
    simp only at h
    split at h
    · rename_i m1 hst
      simp only [Option.some.injEq, Prod.mk.injEq] at h
      obtain ⟨rfl, rfl⟩ := h
      obtain ⟨Y, h1, h2, h3⟩ := mapUpdate_sound hE hs (eval_sound hf (ready_of hr (by simp [Op.operands]))) (eval_sound hf (ready_of hr (by simp [Op.operands]))) (eval_sound hf (ready_of hr (by simp [Op.operands]))) hst
      exact ⟨.skip, Y, h1, h2, by simp [execOp, h3], ⟨_, VT.undef, .inr ⟨rfl, rfl⟩⟩⟩
    · simp at h
  | extract x i =>
    simp only at h
    split at h
    · rename_i vs he
      have hw := with0_some h; clear h; obtain ⟨h, rfl⟩ := hw
      have hx := eval_sound hf (ready_of hr (x := x) (by simp [Op.operands]))
      rw [he] at hx
      obtain ⟨xs, hcx, hlen, hvr⟩ := hx.tup
      obtain ⟨y, hy⟩ := some_of_len hlen h
      exact ⟨.value y, X, Cx.le.refl X, hs, by simp [execOp, hcx, Instr.extract, hy], ⟨_, hvr i v y h hy, .inl rfl⟩⟩
    · simp at h
  | call c =>
    simp only at h
    split at h
    · rename_i hd
      obtain ⟨callee, args, argTypes⟩ := c
      cases callee with
      | builtin b =>
        simp only at h
        have hargs := VTs_map hf args.toList hd
        have key : ∀ {cs : List Value}, cs = args.toList.map (ev a.tmps) → (args.map (ev a.tmps)) = cs.toArray := by
          intro cs hcs; rw [hcs]; apply Array.ext'; simp
        unfold builtinRes at h
        split at h
        · rename_i t x hts hxs
          split at h
          · rename_i v' hv
            simp only [Option.some.injEq, Prod.mk.injEq] at h
            obtain ⟨rfl, rfl⟩ := h
            obtain ⟨cs, hcs⟩ : ∃ cs, cs = args.toList.map (ev a.tmps) := ⟨_, rfl⟩
            rw [hxs, ← hcs] at hargs
            obtain ⟨cx, rfl⟩ : ∃ cx, cs = [cx] := List.length_eq_one_iff.1 hargs.1.symm
            have hat : argTypes = #[t] := by apply Array.ext'; exact hts
            obtain ⟨z, h1, h2⟩ := len_sound (P := P) (ty := type) hE (hargs.2 0 _ _ rfl rfl) hv
            refine ⟨.value z, X, Cx.le.refl X, hs, ?_, ⟨_, h2, .inl rfl⟩⟩
            simp only [execOp, resolve, Sem.run_bind, Sem.run_pure, Result.andThen_ok, invoke, builtin, key hcs, hat, h1]
          · simp at h
        · rename_i t t2 s x hts hxs
          obtain ⟨cs, hcs⟩ : ∃ cs, cs = args.toList.map (ev a.tmps) := ⟨_, rfl⟩
          rw [hxs, ← hcs] at hargs
          obtain ⟨c1, c2, rfl⟩ : ∃ c1 c2, cs = [c1, c2] := two_of_len hargs.1.symm
          have hat : argTypes = #[t, t2] := by apply Array.ext'; exact hts
          obtain ⟨cv, Y, h1, h2, h3, h4⟩ := append_sound (P := P) (ty := type) hE hs (hargs.2 0 _ _ rfl rfl) (hargs.2 1 _ _ rfl rfl) h
          refine ⟨.value cv, Y, h1, h2, ?_, ⟨_, h3, .inl rfl⟩⟩
          simp only [execOp, resolve, Sem.run_bind, Sem.run_pure, Result.andThen_ok, invoke, builtin, key hcs, hat, h4]
        · rename_i t t2 s x hts hxs
          obtain ⟨cs, hcs⟩ : ∃ cs, cs = args.toList.map (ev a.tmps) := ⟨_, rfl⟩
          rw [hxs, ← hcs] at hargs
          obtain ⟨c1, c2, rfl⟩ : ∃ c1 c2, cs = [c1, c2] := two_of_len hargs.1.symm
          have hat : argTypes = #[t, t2] := by apply Array.ext'; exact hts
          obtain ⟨cv, Y, h1, h2, h3, h4⟩ := copy_sound (P := P) (ty := type) hE hs (hargs.2 0 _ _ rfl rfl) (hargs.2 1 _ _ rfl rfl) h
          refine ⟨.value cv, Y, h1, h2, ?_, ⟨_, h3, .inl rfl⟩⟩
          simp only [execOp, resolve, Sem.run_bind, Sem.run_pure, Result.andThen_ok, invoke, builtin, key hcs, hat, h4]
        · split at h
          · rename_i v' hv
            simp only [Option.some.injEq, Prod.mk.injEq] at h
            obtain ⟨rfl, rfl⟩ := h
            obtain ⟨z, h1, h2⟩ := minMax_sound (P := P) false (t := argTypes) (ty := type) hargs hv
            refine ⟨.value z, X, Cx.le.refl X, hs, ?_, ⟨_, h2, .inl rfl⟩⟩
            simp only [Bool.false_eq_true, if_false] at h1
            simp only [execOp, resolve, Sem.run_bind, Sem.run_pure, Result.andThen_ok, invoke, builtin, key rfl, h1]
          · simp at h
        · split at h
          · rename_i v' hv
            simp only [Option.some.injEq, Prod.mk.injEq] at h
            obtain ⟨rfl, rfl⟩ := h
            obtain ⟨z, h1, h2⟩ := minMax_sound (P := P) true (t := argTypes) (ty := type) hargs hv
            refine ⟨.value z, X, Cx.le.refl X, hs, ?_, ⟨_, h2, .inl rfl⟩⟩
            simp only [if_true] at h1
            simp only [execOp, resolve, Sem.run_bind, Sem.run_pure, Result.andThen_ok, invoke, builtin, key rfl, h1]
          · simp at h
        · simp at h
      | value f => exact absurd rfl (hnc _ f rfl)
      | invoke _ _ => simp at h
    · simp at h
  | _ => simp at h

end
end Go.AM

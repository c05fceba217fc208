/- A part of the abstract machine on which the proof of this claim stands: AMOps12 (definitions and lemmas alone; no statement of the claim; no condition). -/
import Derived.Test.YtjcblncfehfonaaGreatDoorAMOps11
import Derived.Laws.MakeOwn
namespace Go.AM
open Go Go.RowKit
section
variable {P : Program} {E : Env} {m : Mem} {X : Cx}

theorem new_tree (hs : Sim m X) {v : AV} {cs : Array Value} (T : TypeId) (hv : VR X v cs.toList) (hb : v.bad = false) :
    X.le (X.push (.cells cs T (0, 0))) ∧ Sim { m with objs := m.objs ++ [(m.clk, .tree v)], clk := m.clk + 1 } (X.push (.cells cs T (0, 0))) ∧
    VT (X.push (.cells cs T (0, 0))) (.ref m.objs.length m.clk [] 0) (.pointer (some ⟨X.w.heap.size, 0, none⟩)) := by
  have hle := X.le_push (.cells cs T (0, 0)) hs.lv hs.B hs.immB hs.fixB
  refine ⟨hle, hs.push _ _ ⟨hb, cs, T, heap_alloc_new _ _, hv.mono hle⟩, ?_⟩
  have key := VR.ref (X := X.push (.cells cs T (0, 0))) m.objs.length m.clk [] 0 (by rw [hs.clk]; exact .inr rfl)
  have hb : (X.push (.cells cs T (0, 0))).blk m.clk = X.w.heap.size := by rw [hs.clk]; simp [Cx.push]
  rw [hb] at key
  exact VT.of_one key rfl rfl

theorem alloc_sound (hE : Tys E P) (hs : Sim m X) {t : Nat} {ti : TyI} (ht : E.ty t = some ti) (hb : ti.zero.bad = false) :
    ∃ cv Y, X.le Y ∧ Sim (m.new (.tree ti.zero)).2.2 Y ∧ VT Y (.ref (m.new (.tree ti.zero)).1 (m.new (.tree ti.zero)).2.1 [] 0) cv ∧ (Instr.alloc t true (.tuple #[])).run P X.w = .ok cv Y.w := by
  obtain ⟨i, z, hi, hz, _, hv⟩ := tyI_zero (hE _ _ ht) hb
  obtain ⟨h1, h2, h3⟩ := new_tree hs t (hv X).1 hb
  refine ⟨_, _, h1, h2, h3, ?_⟩
  simp [Instr.alloc, zeroValue, typeInfo, hi, hz, newVar, newRow, Cx.push]

theorem box_sound (hs : Sim m X) {t : Nat} {v : AV} {x : Value} (hx : VT X v x) (hb : v.bad = false) :
    ∃ cv Y, X.le Y ∧ Sim (m.new (.tree v)).2.2 Y ∧ VT Y (.ref (m.new (.tree v)).1 (m.new (.tree v)).2.1 [] 0) cv ∧ (Instr.box t x).run P X.w = .ok cv Y.w := by
  obtain ⟨h1, h2, h3⟩ := new_tree hs t hx.1 hb
  refine ⟨_, _, h1, h2, h3, ?_⟩
  simp [Instr.box, newVar, newRow, Cx.push]

theorem makeMap_sound (hs : Sim m X) {t : Nat} :
    ∃ cv Y, X.le Y ∧ Sim (m.new (.map [])).2.2 Y ∧ VT Y (.map (m.new (.map [])).1 (m.new (.map [])).2.1) cv ∧ (Instr.makeMap t none).run P X.w = .ok cv Y.w := by
  have hle := X.le_push (.map #[] 0) hs.lv hs.B hs.immB hs.fixB
  have hsim : Sim (m.new (.map [])).2.2 (X.push (.map #[] 0)) := hs.push (.map #[] 0) (.map []) ⟨#[], 0, heap_alloc_new _ _, rfl, by simp⟩
  refine ⟨.map (some X.w.heap.size), _, hle, hsim, ?_, rfl⟩
  have key := VR.map (X := X.push (.map #[] 0)) m.objs.length m.clk (by rw [hs.clk]; exact .inr rfl)
  have hb : (X.push (.map #[] 0)).blk m.clk = X.w.heap.size := by rw [hs.clk]; simp [Cx.push]
  rw [hb] at key
  exact VT.of_one key rfl rfl

theorem mkIface_sound (hE : Tys E P) {t : Nat} {x v : AV} {cx : Value} (hx : VT X x cx) (h : mkIface E t x = some v) :
    ∃ cv, VT X v cv ∧ (Instr.makeInterface t cx).run P X.w = .ok cv X.w := by
  unfold mkIface at h
  split at h
  · rename_i ti hti
    split at h
    · simp at h
    · rename_i hc
      simp only [not_or, Bool.not_eq_true] at hc
      simp at h; subst h
      obtain ⟨i, d, h1, h2, _, _, hk⟩ := tyI_info (hE _ _ hti)
      refine ⟨.iface t cx, VT.of_one (.iface t x cx hx.1 hx.2 hc.2) rfl rfl, ?_⟩
      cases d <;> first
        | (exfalso; simp [kindOf] at hk; exact hc.1 hk.symm)
        | simp [Instr.makeInterface, run_underlying h2]
  · simp at h

theorem getElem_flat_replicate {α : Type} (n : Nat) (c : List α) (k : Nat) (hk : k < n * c.length) : (List.replicate n c).flatten[k]? = c[k % c.length]? := by
  induction n generalizing k with
  | zero => simp at hk
  | succ n ih =>
    rw [List.replicate_succ, List.flatten_cons, List.getElem?_append]
    split
    · rename_i hlt
      rw [Nat.mod_eq_of_lt hlt]
    · rename_i hge
      have hk' : k - c.length < n * c.length := by rw [Nat.succ_mul] at hk; omega
      rw [ih _ hk']
      congr 1
      rw [Nat.mod_eq_sub_mod (by omega : k ≥ c.length)]

theorem range_zero_cells (n : Nat) (z : Array Value) (hz : 0 < z.size) : ((Array.range (n * z.size)).map (z[· % z.size]!)).toList = (List.replicate n z.toList).flatten := by
  apply List.ext_getElem?
  intro k
  rcases Nat.lt_or_ge k (n * z.size) with hk | hk
  · rw [getElem_flat_replicate n z.toList k (by simpa using hk)]
    simp [hk]
    have : k % z.size < z.size := Nat.mod_lt _ hz
    rw [getElem!_pos z (k % z.size) this, Array.getElem?_eq_getElem this]
  · rw [List.getElem?_eq_none (by simpa using hk), List.getElem?_eq_none]
    simpa using hk

theorem replicate_els {v : AV} {c : List Value} {n : Nat} (hv : VR X v c) (hb : v.bad = false) : Els X c.length (List.replicate n v) (List.replicate n c) := by
  refine ⟨by simp, ?_, ?_, ?_⟩
  · intro i a c' ha hc'
    simp only [List.getElem?_replicate] at ha hc'
    split at ha
    · rename_i hlt
      rw [if_pos hlt] at hc'
      simp at ha hc'; subst ha hc'; exact hv
    · simp at ha
  · intro i c' hc'
    simp only [List.getElem?_replicate] at hc'
    split at hc' <;> simp at hc'
    rw [← hc']
  · intro a ha
    rw [List.eq_of_mem_replicate ha]; exact hb

theorem Els.arr {e n : Nat} {es : List AV} {css : List (List Value)} (h : Els X e es css) (hn : css.flatten.length = n) : VR X (.arr n e es) css.flatten :=
  .arr n e es css h.hl h.vr h.he h.hb hn

theorem makeSlice_sound (hE : Tys E P) (hs : Sim m X) {t : Nat} {zl : Bool} {l c v : AV} {cl cc : Value} {m' : Mem} (hl : VT X l cl) (hc : VT X c cc) (h : makeSlice E m t zl l c = some (v, m')) :
    ∃ cv Y, X.le Y ∧ Sim m' Y ∧ VT Y v cv ∧ (Instr.makeSlice t cl cc).run P X.w = .ok cv Y.w := by
  unfold makeSlice at h
  split at h
  · rename_i el esz eb _ _ _ _ kl l kc c hti
    obtain ⟨i, hu, hi, hsz, hbt⟩ := kind_slice (hE _ _ hti) rfl
    cases hl.int
    cases hc.int
    split at h
    · rename_i ti hte
      split at h
      · rename_i hcond
        obtain ⟨h0, hlc, hfit, hb0, he0, hzb, hzs⟩ := hcond
        obtain ⟨i', z, hi', hz, _, hzv⟩ := tyI_zero (hE _ _ hte) hzb
        rw [hi] at hi'; cases hi'
        have hzsz : z.cells.size = esz := by rw [← Array.length_toList, (hzv X).1.size, hzs]
        subst hsz hbt
        have hcn : ((c.toNat : Nat) : Int) = c := Int.toNat_of_nonneg (by omega)
        have h63 : c ≤ 9223372036854775807 := by
          have : c.toNat ≤ c.toNat * i.bytes := Nat.le_mul_of_pos_right _ hb0
          unfold maxBytes at hfit
          omega
        have hby : (i.bytes : Int) * c ≤ 281474976710656 := by
          have : ((c.toNat * i.bytes : Nat) : Int) ≤ 281474976710656 := by unfold maxBytes at hfit; omega
          rw [Int.natCast_mul, hcn, Int.mul_comm] at this
          exact this
        have hrun := run_make (P := P) X.w t el i z hu hi hz kl kc l c h0 hlc hby h63
        have hmc : (madeCells z.cells (c.toNat * i.size)).toList = (List.replicate c.toNat z.cells.toList).flatten := by
          rw [madeCells, ← hzsz]; exact range_zero_cells _ _ (by omega)
        have hrs := (replicate_els (n := c.toNat) (hzv X).1 hzb)
        have hzl : z.cells.toList.length = i.size := by rw [Array.length_toList, hzsz]
        rw [hzl] at hrs
        split at h
        · split at h
          · rename_i hl0
            subst hl0
            simp only [Mem.newTok, Option.some.injEq, Prod.mk.injEq] at h
            obtain ⟨rfl, rfl⟩ := h
            obtain ⟨hle, hsim⟩ := hs.grown (w0 := X.w) rfl rfl rfl rfl (cs := madeCells z.cells (c.toNat * i.size)) (T := el) (n := 0) (sp := (0, c.toNat * i.size)) (Nat.le_refl _)
              (by rw [size_madeCells]; simp) (toks' := m.toks ++ [m.clk]) (t0 := m.toks.length) (by
                intro t s e
                rw [List.getElem?_append] at e
                split at e
                · exact .inl e
                · rename_i hn
                  have hl := lt_of_some e
                  have : t - m.toks.length = 0 := by simp at hl; omega
                  rw [this] at e
                  simp at e
                  exact .inr ⟨e.symm, by omega⟩)
            refine ⟨_, _, hle, hsim, ?_, hrun⟩
            have key := (Els.nil (X := X.grown (X.w.alloc (.cells (madeCells z.cells (c.toNat * i.size)) el (0, 0))) X.w.heap.size 0 0 (0, c.toNat * i.size)) (e := i.size)).vsl (tok := .live m.toks.length m.clk) (b := X.w.heap.size) (o := 0) (cap := c.toNat) (by simp) (by simp) (Nat.zero_le _) ?_
            · exact key
            · refine ⟨by rw [hs.clk]; exact .inr rfl, .inr ⟨?_, ?_⟩⟩
              · rw [hs.clk]; simp [Cx.grown]
              · rw [hs.clk]; simp [Cx.grown]
          · simp at h
        · split at h
          · rename_i hlc'
            subst hlc'
            simp only [Mem.new, Option.some.injEq, Prod.mk.injEq] at h
            obtain ⟨rfl, rfl⟩ := h
            have hv := hrs.arr (n := l.toNat * i.size) (by rw [hrs.len]; simp)
            rw [← hmc] at hv
            obtain ⟨h1, h2, h3⟩ := new_tree hs el hv rfl
            refine ⟨_, _, h1, h2, ?_, hrun⟩
            have key := VR.sref (X := X.push (.cells (madeCells z.cells (l.toNat * i.size)) el (0, 0))) i.size m.objs.length m.clk [] 0 0 l.toNat X.w.heap.size 0 l.toNat
              (by rw [hs.clk]; exact .inr rfl) (Nat.le_refl _) (.inr ⟨by rw [hs.clk]; simp [Cx.push], by simp⟩)
            exact VT.of_one key rfl rfl
          · simp at h
      · simp at h
    · simp at h
  · simp at h

end
end Go.AM

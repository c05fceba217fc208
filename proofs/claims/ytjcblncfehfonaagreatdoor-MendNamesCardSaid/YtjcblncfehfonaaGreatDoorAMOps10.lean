/- A part of the abstract machine on which the proof of this claim stands: AMOps10 (definitions and lemmas alone; no statement of the claim; no condition). -/
import Derived.Test.YtjcblncfehfonaaGreatDoorAMOps9
import Derived.Deep.AppendSrc
namespace Go.AM
open Go Go.RowKit
section
variable {P : Program} {E : Env} {m : Mem} {X : Cx}

theorem Src.give {t2 size : Nat} {cx : Value} {xs : List AV} {css : List (List Value)} (h : Src P X t2 size cx xs css) : Go.Src P size t2 cx xs.length css.flatten X.w where
  kind := h.ty
  len := h.len
  cells := by
    have := h.cells xs.length (Nat.le_refl _) X.w rfl
    rwa [h.hl, List.take_length, ← h.hl] at this
  cellsD := by
    have := h.cells xs.length (Nat.le_refl _) X.w.drew rfl
    rwa [h.hl, List.take_length, ← h.hl] at this
  newsLen := by
    have := flat_uni _ css css.length h.he (Nat.le_refl _)
    rwa [List.take_length, ← h.hl] at this
  one := by
    intro u hu
    obtain ⟨c, hc, hu⟩ := List.mem_flatten.1 hu
    obtain ⟨i, hi⟩ := List.mem_iff_getElem?.1 hc
    obtain ⟨a, ha⟩ := some_of_len h.hl.symm hi
    exact (h.vr i a c ha hi).one (h.hb _ (mem_of_get ha)) u hu

def Cx.grown (X : Cx) (w : World) (b lo hi : Nat) (sp : Nat × Nat) : Cx :=
  { X with w := w, clk := X.clk + 1, live := fun s => X.live s ∨ s = X.clk, blk := fun s => if s = X.clk then b else X.blk s, sp := fun s => if s = X.clk then sp else X.sp s, imm := fun b' k => X.imm b' k ∨ (b' = b ∧ lo ≤ k ∧ k < hi) }

theorem obj_lt (hs : Sim m X) {l st : Nat} {o : AO} (e : m.has l st o) : X.blk st < X.w.heap.size := (hs.objs l st o e).2.2.1.lt
theorem tok_lt (hs : Sim m X) {t st : Nat} (e : m.toks[t]? = some st) : X.blk st < X.w.heap.size := by
  obtain ⟨h1, h2, h3, h4, cs, T, h5, h6⟩ := hs.toks t st e
  exact heap_lt h5

theorem Sim.grown (hs : Sim m X) {w0 : World} (h0 : w0.heap = X.w.heap) (ho : w0.os = X.w.os) (ht : w0.tape = X.w.tape) (hu : w0.output = X.w.output) {cs : Array Value} {T : TypeId} {n : Nat} {sp : Nat × Nat} (hn : n ≤ sp.1) (hsp : sp.1 + sp.2 ≤ cs.size)
    {toks' : List Nat} {t0 : Nat} (hg : ∀ (t s : Nat), toks'[t]? = some s → m.toks[t]? = some s ∨ (s = m.clk ∧ t = t0)) :
    X.le (X.grown (w0.alloc (.cells cs T (0, 0))) X.w.heap.size 0 n sp) ∧ Sim { m with toks := toks', clk := m.clk + 1 } (X.grown (w0.alloc (.cells cs T (0, 0))) X.w.heap.size 0 n sp) := by
  have hsz : w0.heap.size = X.w.heap.size := by rw [h0]
  have hlt : ∀ b, b < X.w.heap.size → (w0.alloc (.cells cs T (0, 0))).heap[b]? = X.w.heap[b]? := by
    intro b hb
    rw [heap_alloc_lt _ _ (by rw [hsz]; exact hb), h0]
  have hnew : (w0.alloc (.cells cs T (0, 0))).heap[X.w.heap.size]? = some (.cells cs T (0, 0)) := by
    have := heap_alloc_new w0 (.cells cs T (0, 0))
    rwa [hsz] at this
  have hgt : (w0.alloc (.cells cs T (0, 0))).heap.size = X.w.heap.size + 1 := by
    show (w0.heap.push _).size = _; rw [Array.size_push, hsz]
  generalize hw : w0.alloc (.cells cs T (0, 0)) = w at hlt hnew hgt
  have hos : w.os = X.w.os := by rw [← hw]; exact ho
  have hta : w.tape = X.w.tape := by rw [← hw]; exact ht
  have hou : w.output = X.w.output := by rw [← hw]; exact hu
  have hle : X.le (X.grown w X.w.heap.size 0 n sp) := by
    refine ⟨rfl, Nat.le_succ _, fun _ h => .inl h, fun st h => ?_, fun st h => ?_, fun b k h => ⟨.inl h, cell_eq (hlt b (cell_block (hs.immB b k h)))⟩, fun b k hf h => h.elim id (fun h => by have := hs.fixB b hf; omega), fun r h => ⟨h, hlt r (hs.fixB r h)⟩, ⟨hos, hta, hou, by show _ ≤ w.heap.size; omega, fun k hk => hlt k (Nat.lt_of_lt_of_le hk hs.B)⟩⟩
    · show (if st = X.clk then _ else _) = _; rw [if_neg (by have := hs.lv st h; omega)]
    · show (if st = X.clk then _ else _) = _; rw [if_neg (by have := hs.lv st h; omega)]
  have hblk : (X.grown w X.w.heap.size 0 n sp).blk X.clk = X.w.heap.size := by simp [Cx.grown]
  have hspn : (X.grown w X.w.heap.size 0 n sp).sp X.clk = sp := by simp [Cx.grown]
  have hfar : ∀ k, ¬ X.imm X.w.heap.size k := fun k hk => by have := cell_block (hs.immB _ _ hk); omega
  refine ⟨hle, ⟨?_, ?_, ?_, ?_, ?_, ?_, ?_, ?_, ?_, ?_⟩⟩
  · show m.clk + 1 = X.clk + 1; rw [hs.clk]
  · rintro st (h | rfl)
    · exact Nat.lt_succ_of_lt (hs.lv st h)
    · exact Nat.lt_succ_self _
  · show X.B ≤ w.heap.size; have := hs.B; omega
  · intro l st o e
    obtain ⟨h1, h2, h3, h4, h5⟩ := hs.objs l st o e
    have hl := obj_lt hs e
    rw [hle.blk st h1]
    refine ⟨Or.inl h1, h2, h3.mono hle (hlt _ hl), fun k hk => ?_, h5⟩
    rcases hk with hk | ⟨hk, _⟩
    · exact h4 k hk
    · omega
  · intro t st e
    rcases hg t st e with f | ⟨rfl, rfl⟩
    · obtain ⟨h1, h2, h3, h4, cs', T', h5, h6⟩ := hs.toks t st f
      have hl := tok_lt hs f
      rw [hle.blk st h1, hle.sp st h1]
      refine ⟨Or.inl h1, h2, fun k hk1 hk => ?_, h4, cs', T', (hlt _ hl).trans h5, h6⟩
      rcases hk with hk | ⟨hk, _⟩
      · exact h3 k hk1 hk
      · omega
    · rw [hs.clk, hblk, hspn]
      refine ⟨Or.inr rfl, hs.B, fun k hk1 hk => ?_, fun hk => by have := hs.fixB _ hk; omega, cs, T, hnew, hsp⟩
      rcases hk with hk | ⟨_, _, hk⟩
      · exact hfar k hk
      · omega
  · intro l l' st st' o1 o2 e e' hn
    rw [hle.blk st (hs.objs _ _ _ e).1, hle.blk st' (hs.objs _ _ _ e').1]; exact hs.oo l l' st st' o1 o2 e e' hn
  · intro t t' st st' e e' hn
    rcases hg t st e with f | ⟨g1, g2⟩ <;> rcases hg t' st' e' with f' | ⟨g1', g2'⟩
    · rw [hle.blk st (hs.toks _ _ f).1, hle.blk st' (hs.toks _ _ f').1]; exact hs.tt t t' st st' f f' hn
    · rw [hle.blk st (hs.toks _ _ f).1, g1', hs.clk, hblk]; have := tok_lt hs f; omega
    · rw [hle.blk st' (hs.toks _ _ f').1, g1, hs.clk, hblk]; have := tok_lt hs f'; omega
    · omega
  · intro l t st st' o1 e e'
    rw [hle.blk st (hs.objs _ _ _ e).1]
    rcases hg t st' e' with f | ⟨g1, g2⟩
    · rw [hle.blk st' (hs.toks _ _ f).1]; exact hs.ot l t st st' o1 e f
    · rw [g1, hs.clk, hblk]; have := obj_lt hs e; omega
  · intro b k hk
    show (w.cell? ⟨b, k, none⟩).isSome = true
    rcases hk with hk | ⟨rfl, _, hk⟩
    · have := hs.immB b k hk
      rw [cell_eq (hlt b (cell_block this))]; exact this
    · rw [cell_of_block hnew]
      simp; omega
  · intro r hr
    have := hs.fixB r hr
    show r < w.heap.size
    omega

theorem Sim.filled (hs : Sim m X) {t0 st0 : Nat} (hi : m.toks[t0]? = some st0) {cs cs' : Array Value} {T : TypeId} (hold : X.w.heap[X.blk st0]? = some (.cells cs T (0, 0))) (hz : cs'.size = cs.size)
    (hk : ∀ k, k < (X.sp st0).1 → cs'[k]? = cs[k]?) {o2 c2 : Nat} (h12 : (X.sp st0).1 ≤ o2) (hc : o2 + c2 ≤ cs.size) :
    X.le (X.grown (X.w.setRow (X.blk st0) cs') (X.blk st0) (X.sp st0).1 o2 (o2, c2)) ∧
    Sim { m with toks := m.toks.set t0 m.clk, clk := m.clk + 1 } (X.grown (X.w.setRow (X.blk st0) cs') (X.blk st0) (X.sp st0).1 o2 (o2, c2)) := by
  obtain ⟨q1, q2, q3, q4, _⟩ := hs.toks t0 st0 hi
  have hnew : (X.w.setRow (X.blk st0) cs').heap[X.blk st0]? = some (.cells cs' T (0, 0)) := setRow_heap _ _ _ _ _ _ hold
  have hoth : ∀ b, b ≠ X.blk st0 → (X.w.setRow (X.blk st0) cs').heap[b]? = X.w.heap[b]? := fun b hb => setRow_other _ _ _ _ hb
  have hgt : (X.w.setRow (X.blk st0) cs').heap.size = X.w.heap.size := by simp
  have hsame : (X.w.setRow (X.blk st0) cs').os = X.w.os ∧ (X.w.setRow (X.blk st0) cs').tape = X.w.tape ∧ (X.w.setRow (X.blk st0) cs').output = X.w.output := ⟨rfl, rfl, rfl⟩
  have himm : ∀ b k, X.imm b k → (X.w.setRow (X.blk st0) cs').cell? ⟨b, k, none⟩ = X.cell b k := by
    intro b k h
    by_cases hb : b = X.blk st0
    · subst hb
      have hlt : k < (X.sp st0).1 := by
        rcases Nat.lt_or_ge k (X.sp st0).1 with h' | h'
        · exact h'
        · exact absurd h (q3 k h')
      rw [cell_of_block hnew, hk k hlt, Cx.cell, cell_of_block hold]
    · rw [Cx.cell, cell_eq (hoth b hb)]
  generalize X.w.setRow (X.blk st0) cs' = w at hnew hoth hgt hsame himm
  have hle : X.le (X.grown w (X.blk st0) (X.sp st0).1 o2 (o2, c2)) := by
    refine ⟨rfl, Nat.le_succ _, fun _ h => .inl h, fun st h => ?_, fun st h => ?_, fun b k h => ⟨.inl h, himm b k h⟩, fun b k hf h => h.elim id (fun h => absurd (h.1 ▸ hf) q4), fun r h => ⟨h, hoth r (fun e => q4 (e ▸ h))⟩, ⟨hsame.1, hsame.2.1, hsame.2.2, by show _ ≤ w.heap.size; omega, fun k hk => hoth k (by omega)⟩⟩
    · show (if st = X.clk then _ else _) = _; rw [if_neg (by have := hs.lv st h; omega)]
    · show (if st = X.clk then _ else _) = _; rw [if_neg (by have := hs.lv st h; omega)]
  have hblk : (X.grown w (X.blk st0) (X.sp st0).1 o2 (o2, c2)).blk X.clk = X.blk st0 := by simp [Cx.grown]
  have hspn : (X.grown w (X.blk st0) (X.sp st0).1 o2 (o2, c2)).sp X.clk = (o2, c2) := by simp [Cx.grown]
  have hget : ∀ (t s : Nat), (m.toks.set t0 m.clk)[t]? = some s → (t = t0 ∧ s = m.clk) ∨ (t ≠ t0 ∧ m.toks[t]? = some s) := by
    intro t s e
    rcases set_get e with ⟨hn, f⟩ | ⟨hn, f⟩
    · exact .inl ⟨hn.symm, f⟩
    · exact .inr ⟨Ne.symm hn, f⟩
  refine ⟨hle, ⟨?_, ?_, ?_, ?_, ?_, ?_, ?_, ?_, ?_, ?_⟩⟩
  · show m.clk + 1 = X.clk + 1; rw [hs.clk]
  · rintro st (h | rfl)
    · exact Nat.lt_succ_of_lt (hs.lv st h)
    · exact Nat.lt_succ_self _
  · show X.B ≤ w.heap.size; have := hs.B; omega
  · intro l st o e
    obtain ⟨h1, h2, h3, h4, h5⟩ := hs.objs l st o e
    rw [hle.blk st h1]
    have hne := hs.ot l t0 st st0 o e hi
    refine ⟨Or.inl h1, h2, h3.mono hle (hoth _ hne), fun k hk => ?_, h5⟩
    rcases hk with hk | ⟨hk, _⟩
    · exact h4 k hk
    · exact hne hk
  · intro t st e
    rcases hget t st e with ⟨rfl, rfl⟩ | ⟨hn, f⟩
    · rw [hs.clk, hblk, hspn]
      refine ⟨Or.inr rfl, q2, fun k hk1 hk => ?_, q4, cs', T, hnew, by simpa [hz] using hc⟩
      rcases hk with hk | ⟨_, _, hk⟩
      · exact q3 k (by simp at hk1; omega) hk
      · simp at hk1; omega
    · obtain ⟨h1, h2, h3, h4, cs', T', h5, h6⟩ := hs.toks t st f
      have hne := hs.tt t t0 st st0 f hi hn
      rw [hle.blk st h1, hle.sp st h1]
      refine ⟨Or.inl h1, h2, fun k hk1 hk => ?_, h4, cs', T', (hoth _ hne).trans h5, h6⟩
      rcases hk with hk | ⟨hk, _⟩
      · exact h3 k hk1 hk
      · exact hne hk
  · intro l l' st st' o1 o2 e e' hn
    rw [hle.blk st (hs.objs _ _ _ e).1, hle.blk st' (hs.objs _ _ _ e').1]; exact hs.oo l l' st st' o1 o2 e e' hn
  · intro t t' st st' e e' hn
    rcases hget t st e with ⟨g1, g2⟩ | ⟨g, f⟩ <;> rcases hget t' st' e' with ⟨g1', g2'⟩ | ⟨g', f'⟩
    · omega
    · rw [g2, hs.clk, hblk, hle.blk st' (hs.toks _ _ f').1]; exact hs.tt t0 t' st0 st' hi f' (Ne.symm g')
    · rw [g2', hs.clk, hblk, hle.blk st (hs.toks _ _ f).1]; exact hs.tt t t0 st st0 f hi g
    · rw [hle.blk st (hs.toks _ _ f).1, hle.blk st' (hs.toks _ _ f').1]; exact hs.tt t t' st st' f f' hn
  · intro l t st st' o1 e e'
    rw [hle.blk st (hs.objs _ _ _ e).1]
    rcases hget t st' e' with ⟨g1, g2⟩ | ⟨g, f⟩
    · rw [g2, hs.clk, hblk]; exact hs.ot l t0 st st0 o1 e hi
    · rw [hle.blk st' (hs.toks _ _ f).1]; exact hs.ot l t st st' o1 e f
  · intro b k hk
    show (w.cell? ⟨b, k, none⟩).isSome = true
    rcases hk with hk | ⟨rfl, _, hk⟩
    · rw [himm b k hk]; exact hs.immB b k hk
    · rw [cell_of_block hnew]
      simp; omega
  · intro r hr
    have := hs.fixB r hr
    show r < w.heap.size
    omega

end
end Go.AM

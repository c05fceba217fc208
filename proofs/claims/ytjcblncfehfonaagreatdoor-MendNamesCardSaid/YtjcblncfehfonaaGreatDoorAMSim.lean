/- A part of the abstract machine on which the proof of this claim stands: AMSim (definitions and lemmas alone; no statement of the claim; no condition). -/
import Derived.Test.YtjcblncfehfonaaGreatDoorAMRel2
namespace Go.AM
open Go Go.RowKit

def FR (X : Cx) (fr : Fr) (tmps : Array Value) : Prop :=
  ∀ t, (fr.get t).isUnd = false → t < tmps.size ∧ VT X (fr.get t) (tmps.getD t undef)

theorem FR.mono {X Y : Cx} (hle : X.le Y) {fr : Fr} {tmps : Array Value} (h : FR X fr tmps) : FR Y fr tmps :=
  fun t ht => ⟨(h t ht).1, (h t ht).2.mono hle⟩

/-- an object and its block -/
def OR (X : Cx) (b : Nat) : AO → Prop
  | .tree v => v.bad = false ∧ ∃ cs T, X.w.heap[b]? = some (.cells cs T (0, 0)) ∧ VR X v cs.toList
  | .map es => ∃ (ents : Array MapEntry) (clock : Nat), X.w.heap[b]? = some (.map ents clock) ∧ ents.size = es.length ∧
      ∀ (i : Nat) (e : AV × AV) (en : MapEntry), es[i]? = some e → ents[i]? = some en → VT X e.1 en.key ∧ VT X e.2 en.val
  | .loop L => ∃ C : Loop, X.w.heap[b]? = some (.loop C) ∧ C.state = L.state ∧ C.pending = L.pending ∧ L.ann.ntmps ≤ C.tmps.size ∧ C.params.toList = L.params ∧
      C.assign = L.assign ∧ C.body = L.body ∧ FR X L.frame C.tmps
  | .hole => False

structure Sim (m : Mem) (X : Cx) : Prop where
  clk : m.clk = X.clk
  lv : ∀ st, X.live st → st < X.clk
  B : X.B ≤ X.w.heap.size
  objs : ∀ (l st : Nat) (o : AO), m.has l st o → X.live st ∧ X.B ≤ X.blk st ∧ OR X (X.blk st) o ∧ (∀ k, ¬ X.imm (X.blk st) k) ∧ ¬ X.fix (X.blk st)
  toks : ∀ (t st : Nat), m.toks[t]? = some st → X.live st ∧ X.B ≤ X.blk st ∧ (∀ k, (X.sp st).1 ≤ k → ¬ X.imm (X.blk st) k) ∧ ¬ X.fix (X.blk st) ∧
      ∃ cs T, X.w.heap[X.blk st]? = some (.cells cs T (0, 0)) ∧ (X.sp st).1 + (X.sp st).2 ≤ cs.size
  oo : ∀ (l l' st st' : Nat) (o o' : AO), m.has l st o → m.has l' st' o' → l ≠ l' → X.blk st ≠ X.blk st'
  tt : ∀ (t t' st st' : Nat), m.toks[t]? = some st → m.toks[t']? = some st' → t ≠ t' → X.blk st ≠ X.blk st'
  ot : ∀ (l t st st' : Nat) (o : AO), m.has l st o → m.toks[t]? = some st' → X.blk st ≠ X.blk st'
  immB : ∀ b k, X.imm b k → (X.cell b k).isSome = true
  fixB : ∀ r, X.fix r → r < X.w.heap.size

theorem heap_lt {w : World} {b : Nat} {o : Obj} (h : w.heap[b]? = some o) : b < w.heap.size := by
  rcases Nat.lt_or_ge b w.heap.size with h' | h'
  · exact h'
  · simp [Array.getElem?_eq_none h'] at h

theorem cell_of_block {w : World} {b : Nat} {cs : Array Value} {T : TypeId} {f : Nat × Nat} (h : w.heap[b]? = some (.cells cs T f)) (k : Nat) :
    w.cell? ⟨b, k, none⟩ = cs[k]? := by simp [World.cell?, h]

theorem cell_block {X : Cx} {b k : Nat} (h : (X.cell b k).isSome = true) : b < X.w.heap.size := by
  unfold Cx.cell World.cell? at h
  simp only at h
  split at h
  · rename_i c _ _ hb; exact heap_lt hb
  · simp at h

theorem OR.mono {X Y : Cx} (hle : X.le Y) {b : Nat} {o : AO} (hb : Y.w.heap[b]? = X.w.heap[b]?) (h : OR X b o) : OR Y b o := by
  cases o with
  | tree v =>
    obtain ⟨h0, cs, T, h1, h2⟩ := h
    exact ⟨h0, cs, T, by rw [hb]; exact h1, h2.mono hle⟩
  | map es =>
    obtain ⟨ents, clock, h1, h2, h3⟩ := h
    exact ⟨ents, clock, by rw [hb]; exact h1, h2, fun i e en he hen => ⟨(h3 i e en he hen).1.mono hle, (h3 i e en he hen).2.mono hle⟩⟩
  | loop L =>
    obtain ⟨C, h1, h2, h3, h4, h5, h6, h7, h8⟩ := h
    exact ⟨C, by rw [hb]; exact h1, h2, h3, h4, h5, h6, h7, h8.mono hle⟩
  | hole => exact h

theorem OR.lt {X : Cx} {b : Nat} {o : AO} (h : OR X b o) : b < X.w.heap.size := by
  cases o with
  | tree v => obtain ⟨_, cs, T, h6, _⟩ := h; exact heap_lt h6
  | map es => obtain ⟨a, b, h6, _⟩ := h; exact heap_lt h6
  | loop L => obtain ⟨C, h6, _⟩ := h; exact heap_lt h6
  | hole => exact h.elim

/-- objects and tokens may be forgotten -/
theorem Sim.sub {m m' : Mem} {X : Cx} (h : Sim m X) (hc : m'.clk = m.clk)
    (ho : ∀ (l st : Nat) o, m'.has l st o → m.has l st o) (ht : ∀ (t : Nat) s, m'.toks[t]? = some s → m.toks[t]? = some s) : Sim m' X where
  clk := hc.trans h.clk
  lv := h.lv
  B := h.B
  objs l st o e := h.objs l st o (ho _ _ _ e)
  toks t st e := h.toks t st (ht _ _ e)
  oo l l' st st' o o' e e' := h.oo l l' st st' o o' (ho _ _ _ e) (ho _ _ _ e')
  tt t t' st st' e e' := h.tt t t' st st' (ht _ _ e) (ht _ _ e')
  ot l t st st' o e e' := h.ot l t st st' o (ho _ _ _ e) (ht _ _ e')
  immB := h.immB
  fixB := h.fixB

/-- the concrete side goes on without touching what is owned -/
theorem Sim.same {m : Mem} {X Y : Cx} (h : Sim m X) (hle : X.le Y) (hc : Y.clk = X.clk) (hv : ∀ st, Y.live st → X.live st)
    (hh : ∀ b, b < X.w.heap.size → Y.w.heap[b]? = X.w.heap[b]?)
    (hi : ∀ b k, Y.imm b k → X.imm b k ∨ X.w.heap.size ≤ b) (hf : ∀ r, Y.fix r → X.fix r ∨ X.w.heap.size ≤ r)
    (himm : ∀ b k, Y.imm b k → (Y.cell b k).isSome = true) (hfix : ∀ r, Y.fix r → r < Y.w.heap.size) : Sim m Y where
  clk := h.clk.trans hc.symm
  lv st hs := by rw [hc]; exact h.lv st (hv st hs)
  B := by rw [hle.B]; exact Nat.le_trans h.B hle.below.size
  objs l st o e := by
    obtain ⟨h1, h2, h3, h4, h5⟩ := h.objs l st o e
    have hb := hle.blk st h1
    have hlt := h3.lt
    rw [hb, hle.B]
    refine ⟨hle.live st h1, h2, h3.mono hle (hh _ hlt), fun k hk => ?_, fun hk => ?_⟩
    · rcases hi _ _ hk with h | h
      · exact h4 k h
      · omega
    · rcases hf _ hk with h | h
      · exact h5 h
      · omega
  toks t st e := by
    obtain ⟨h1, h2, h3, h4, cs, T, h5, h6⟩ := h.toks t st e
    rw [hle.blk st h1, hle.sp st h1, hle.B]
    have hlt := heap_lt h5
    refine ⟨hle.live st h1, h2, fun k hk1 hk => ?_, fun hk => ?_, cs, T, by rw [hh _ hlt]; exact h5, h6⟩
    · rcases hi _ _ hk with h | h
      · exact h3 k hk1 h
      · omega
    · rcases hf _ hk with h | h
      · exact h4 h
      · omega
  oo l l' st st' o o' e e' hn := by
    rw [hle.blk st (h.objs _ _ _ e).1, hle.blk st' (h.objs _ _ _ e').1]; exact h.oo l l' st st' o o' e e' hn
  tt t t' st st' e e' hn := by
    rw [hle.blk st (h.toks _ _ e).1, hle.blk st' (h.toks _ _ e').1]; exact h.tt t t' st st' e e' hn
  ot l t st st' o e e' := by
    rw [hle.blk st (h.objs _ _ _ e).1, hle.blk st' (h.toks _ _ e').1]; exact h.ot l t st st' o e e'
  immB := himm
  fixB := hfix

/-- a world with more draws -/
def Cx.at (X : Cx) (w : World) : Cx := { X with w := w }

theorem Cx.le_drawn (X : Cx) (n : Nat) : X.le (X.at { X.w with drawn := n }) :=
  ⟨rfl, Nat.le_refl _, fun _ h => h, fun _ _ => rfl, fun _ _ => rfl, fun _ _ h => ⟨h, rfl⟩, fun _ _ _ h => h, fun _ h => ⟨h, rfl⟩, ⟨rfl, rfl, rfl, Nat.le_refl _, fun _ _ => rfl⟩⟩
theorem Sim.drawn {m : Mem} {X : Cx} (h : Sim m X) (n : Nat) : Sim m (X.at { X.w with drawn := n }) :=
  h.same (X.le_drawn n) rfl (fun _ h => h) (fun _ _ => rfl) (fun _ _ h => .inl h) (fun _ h => .inl h) h.immB h.fixB

/-! ### a new object -/
def Cx.push (X : Cx) (o : Obj) : Cx :=
  { X with w := X.w.alloc o, clk := X.clk + 1, live := fun s => X.live s ∨ s = X.clk, blk := fun s => if s = X.clk then X.w.heap.size else X.blk s }

theorem heap_alloc_lt (w : World) (o : Obj) {b : Nat} (h : b < w.heap.size) : (w.alloc o).heap[b]? = w.heap[b]? := by
  show (w.heap.push o)[b]? = _
  rw [Array.getElem?_push, if_neg (Nat.ne_of_lt h)]
theorem heap_alloc_new (w : World) (o : Obj) : (w.alloc o).heap[w.heap.size]? = some o := by
  show (w.heap.push o)[w.heap.size]? = _
  rw [Array.getElem?_push, if_pos rfl]

theorem cell_eq {w w' : World} {b k : Nat} (h : w'.heap[b]? = w.heap[b]?) : w'.cell? ⟨b, k, none⟩ = w.cell? ⟨b, k, none⟩ := by
  simp [World.cell?, h]

theorem Cx.le_push (X : Cx) (o : Obj) (hlv : ∀ st, X.live st → st < X.clk) (hB : X.B ≤ X.w.heap.size) (hi : ∀ b k, X.imm b k → (X.cell b k).isSome = true) (hf : ∀ r, X.fix r → r < X.w.heap.size) : X.le (X.push o) where
  B := rfl
  clk := Nat.le_succ _
  live st h := .inl h
  blk st h := by show (if st = X.clk then _ else _) = _; rw [if_neg (by have := hlv st h; omega)]
  sp _ _ := rfl
  immFix _ _ _ h := h
  imm b k h := ⟨h, cell_eq (heap_alloc_lt _ _ (cell_block (hi b k h)))⟩
  fix r h := ⟨h, heap_alloc_lt _ _ (hf r h)⟩
  below := (Below.refl _ _).alloc hB o

theorem Sim.push {m : Mem} {X : Cx} (h : Sim m X) (o : Obj) (ao : AO) (hor : OR (X.push o) X.w.heap.size ao) :
    Sim { m with objs := m.objs ++ [(m.clk, ao)], clk := m.clk + 1 } (X.push o) := by
  have hle := X.le_push o h.lv h.B h.immB h.fixB
  have hblk : (X.push o).blk X.clk = X.w.heap.size := by simp [Cx.push]
  have hold : ∀ (l st : Nat) (o' : AO), m.has l st o' → X.blk st < X.w.heap.size := fun l st o' e => (h.objs l st o' e).2.2.1.lt
  have hget : ∀ (l st : Nat) (o' : AO), Mem.has { m with objs := m.objs ++ [(m.clk, ao)], clk := m.clk + 1 } l st o' → m.has l st o' ∨ (l = m.objs.length ∧ st = X.clk ∧ o' = ao) := by
    intro l st o' e
    obtain ⟨e, hh⟩ := e
    simp only [List.getElem?_append] at e
    split at e
    · exact .inl ⟨e, hh⟩
    · rename_i hn
      have hl := lt_of_some e
      have : l - m.objs.length = 0 := by simp at hl; omega
      rw [this] at e
      simp at e
      exact .inr ⟨by omega, e.1.symm.trans h.clk, e.2.symm⟩
  have hfar : ∀ k, ¬ X.imm X.w.heap.size k := fun k hk => by have := cell_block (h.immB _ _ hk); omega
  refine ⟨?_, ?_, ?_, ?_, ?_, ?_, ?_, ?_, ?_, ?_⟩
  · show m.clk + 1 = X.clk + 1; rw [h.clk]
  · rintro st (hs | rfl)
    · exact Nat.lt_succ_of_lt (h.lv st hs)
    · exact Nat.lt_succ_self _
  · show X.B ≤ (X.w.heap.push o).size; rw [Array.size_push]; have := h.B; omega
  · intro l st o' e
    rcases hget l st o' e with f | ⟨g1, g2, g3⟩
    · obtain ⟨h1, h2, h3, h4, h5⟩ := h.objs l st o' f
      rw [hle.blk st h1]
      exact ⟨.inl h1, h2, h3.mono hle (heap_alloc_lt _ _ (hold _ _ _ f)), h4, h5⟩
    · rw [g2, hblk, g3]
      exact ⟨.inr rfl, h.B, hor, hfar, fun hk => by have := h.fixB _ hk; omega⟩
  · intro t st e
    obtain ⟨h1, h2, h3, h4, cs, T, h5, h6⟩ := h.toks t st e
    rw [hle.blk st h1, hle.sp st h1]
    exact ⟨.inl h1, h2, h3, h4, cs, T, (heap_alloc_lt _ _ (heap_lt h5)).trans h5, h6⟩
  · intro l l' st st' o1 o2 e e' hn
    rcases hget l st o1 e with f | ⟨g1, g2, g3⟩ <;> rcases hget l' st' o2 e' with f' | ⟨f1, f2, f3⟩
    · rw [hle.blk st (h.objs _ _ _ f).1, hle.blk st' (h.objs _ _ _ f').1]; exact h.oo l l' st st' o1 o2 f f' hn
    · rw [hle.blk st (h.objs _ _ _ f).1, f2, hblk]; have := hold _ _ _ f; omega
    · rw [hle.blk st' (h.objs _ _ _ f').1, g2, hblk]; have := hold _ _ _ f'; omega
    · omega
  · intro t t' st st' e e' hn
    rw [hle.blk st (h.toks _ _ e).1, hle.blk st' (h.toks _ _ e').1]; exact h.tt t t' st st' e e' hn
  · intro l t st st' o1 e e'
    rw [hle.blk st' (h.toks _ _ e').1]
    rcases hget l st o1 e with f | ⟨g1, g2, g3⟩
    · rw [hle.blk st (h.objs _ _ _ f).1]; exact h.ot l t st st' o1 f e'
    · rw [g2, hblk]
      obtain ⟨_, _, _, _, cs, T, h5, _⟩ := h.toks t st' e'
      have := heap_lt h5; omega
  · intro b k hk
    have := h.immB b k hk
    show ((X.w.alloc o).cell? ⟨b, k, none⟩).isSome = true
    rw [cell_eq (heap_alloc_lt _ _ (cell_block this))]; exact this
  · intro r hr
    have := h.fixB r hr
    show r < (X.w.heap.push o).size
    rw [Array.size_push]; omega

/-! ### an object turned -/
theorem Cx.le_setRow (X : Cx) (b : Nat) (cs : Array Value) (hB : X.B ≤ b) (hi : ∀ k, ¬ X.imm b k) (hf : ¬ X.fix b) : X.le (X.at (X.w.setRow b cs)) where
  B := rfl
  clk := Nat.le_refl _
  live _ h := h
  blk _ _ := rfl
  sp _ _ := rfl
  immFix _ _ _ h := h
  imm b' k h := ⟨h, by
    have : b' ≠ b := fun e => hi k (e ▸ h)
    exact cell_setRow_other _ _ _ _ this⟩
  fix r h := ⟨h, by
    have : r ≠ b := fun e => hf (e ▸ h)
    exact setRow_other _ _ _ _ this⟩
  below := ⟨rfl, rfl, rfl, by simp [Cx.at], fun k hk => setRow_other _ _ _ _ (by omega)⟩

theorem has_set {m : Mem} {l st : Nat} {o o' : AO} (_ : m.has l st o) {l' st' : Nat} {o'' : AO} (e : Mem.has { m with objs := m.objs.set l (st, o') } l' st' o'') :
    (l' = l ∧ st' = st ∧ o'' = o') ∨ (l' ≠ l ∧ m.has l' st' o'') := by
  obtain ⟨e, hh⟩ := e
  rcases set_get e with ⟨hn, f⟩ | ⟨hn, f⟩
  · simp only [Prod.mk.injEq] at f
    exact .inl ⟨hn.symm, f.1, f.2⟩
  · exact .inr ⟨Ne.symm hn, f, hh⟩

theorem Cx.le_block {m : Mem} {X : Cx} (hs : Sim m X) {l st : Nat} {o : AO} (hl : m.has l st o) {w' : World} (hw : ∀ b, b ≠ X.blk st → w'.heap[b]? = X.w.heap[b]?) (hsz : w'.heap.size = X.w.heap.size)
    (ho : w'.os = X.w.os) (ht : w'.tape = X.w.tape) (hu : w'.output = X.w.output) : X.le (X.at w') := by
  obtain ⟨h1, h2, h3, h4, h5⟩ := hs.objs l st o hl
  refine ⟨rfl, Nat.le_refl _, fun _ h => h, fun _ _ => rfl, fun _ _ => rfl, fun b k h => ⟨h, ?_⟩, fun _ _ _ h => h, fun r h => ⟨h, hw r (fun e => h5 (e ▸ h))⟩, ⟨ho, ht, hu, by show _ ≤ w'.heap.size; omega, fun k hk => hw k (by omega)⟩⟩
  exact cell_eq (hw b (fun e => h4 k (e ▸ h)))

theorem Sim.setBlock {m : Mem} {X : Cx} (hs : Sim m X) {l st : Nat} {o o' : AO} (hl : m.has l st o) {w' : World} (hw : ∀ b, b ≠ X.blk st → w'.heap[b]? = X.w.heap[b]?) (hsz : w'.heap.size = X.w.heap.size)
    (ho : w'.os = X.w.os) (ht : w'.tape = X.w.tape) (hu : w'.output = X.w.output) (hor : OR (X.at w') (X.blk st) o') : Sim { m with objs := m.objs.set l (st, o') } (X.at w') := by
  obtain ⟨h1, h2, h3, h4, h5⟩ := hs.objs l st o hl
  have hle := Cx.le_block hs hl hw hsz ho ht hu
  refine ⟨hs.clk, hs.lv, ?_, ?_, ?_, ?_, hs.tt, ?_, ?_, ?_⟩
  · show X.B ≤ w'.heap.size; rw [hsz]; exact hs.B
  · intro l' st' o'' e
    rcases has_set hl e with ⟨rfl, rfl, rfl⟩ | ⟨hn, f⟩
    · exact ⟨h1, h2, hor, h4, h5⟩
    · obtain ⟨k1, k2, k3, k4, k5⟩ := hs.objs l' st' o'' f
      exact ⟨k1, k2, k3.mono hle (hw _ (hs.oo l' l st' st o'' o f hl hn)), k4, k5⟩
  · intro t st' e
    obtain ⟨k1, k2, k3, k4, cs', T', k5, k6⟩ := hs.toks t st' e
    refine ⟨k1, k2, k3, k4, cs', T', (hw _ (Ne.symm (hs.ot l t st st' o hl e))).trans k5, k6⟩
  · intro l1 l2 s1 s2 o1 o2 e1 e2 hn
    have f : ∀ (l' s' : Nat) (o'' : AO), Mem.has { m with objs := m.objs.set l (st, o') } l' s' o'' → ∃ o3, m.has l' s' o3 := by
      intro l' s' o'' e
      rcases has_set hl e with ⟨rfl, rfl, rfl⟩ | ⟨hn, f⟩
      · exact ⟨o, hl⟩
      · exact ⟨_, f⟩
    obtain ⟨o1', e1'⟩ := f _ _ _ e1
    obtain ⟨o2', e2'⟩ := f _ _ _ e2
    exact hs.oo l1 l2 s1 s2 _ _ e1' e2' hn
  · intro l' t s' st' o'' e e'
    rcases has_set hl e with ⟨rfl, rfl, rfl⟩ | ⟨hn, f⟩
    · exact hs.ot _ t _ st' o hl e'
    · exact hs.ot l' t s' st' o'' f e'
  · intro b k hk
    have := hs.immB b k hk
    have hne : b ≠ X.blk st := fun e => h4 k (e ▸ hk)
    show (w'.cell? ⟨b, k, none⟩).isSome = true
    rw [cell_eq (hw b hne)]; exact this
  · intro r hr
    show r < w'.heap.size
    rw [hsz]; exact hs.fixB r hr

theorem Sim.setTree {m : Mem} {X : Cx} (h : Sim m X) {l st : Nat} {o : AO} {v' : AV} {old cs : Array Value} {T : TypeId} (hl : m.has l st o)
    (hold : X.w.heap[X.blk st]? = some (.cells old T (0, 0))) (hv : VR X v' cs.toList) (hb : v'.bad = false) :
    X.le (X.at (X.w.setRow (X.blk st) cs)) ∧ Sim { m with objs := m.objs.set l (st, .tree v') } (X.at (X.w.setRow (X.blk st) cs)) := by
  have hle : X.le (X.at (X.w.setRow (X.blk st) cs)) := Cx.le_block h hl (fun b hb => setRow_other _ _ _ _ hb) (by simp) rfl rfl rfl
  exact ⟨hle, h.setBlock hl (fun b hb => setRow_other _ _ _ _ hb) (by simp) rfl rfl rfl ⟨hb, cs, T, setRow_heap _ _ _ _ _ _ hold, hv.mono hle⟩⟩

end Go.AM

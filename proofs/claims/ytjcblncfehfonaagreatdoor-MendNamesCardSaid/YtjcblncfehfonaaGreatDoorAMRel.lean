/- A part of the abstract machine on which the proof of this claim stands: AMRel (definitions and lemmas alone; no statement of the claim; no condition). -/
import Derived.Test.YtjcblncfehfonaaGreatDoorAM
import Derived.Calls
import Derived.Below
import Derived.Laws.Tables
import Derived.Laws.Cells
import Derived.Laws.CopyRow
namespace Go.AM
open Go Go.RowKit

/-- what the concrete side is, as the abstract one sees it -/
structure Cx where
  w : World
  B : Nat
  clk : Nat
  live : Nat → Prop
  blk : Nat → Nat
  sp : Nat → Nat × Nat
  imm : Nat → Nat → Prop
  fix : Nat → Prop

def isAggV : Value → Bool
  | .agg _ => true
  | _ => false

def Cx.cell (X : Cx) (b o : Nat) : Option Value := X.w.cell? ⟨b, o, none⟩

/-- a token's spare room -/
def TokOK (X : Cx) (tok : Tok) (b o len cap e : Nat) : Prop :=
  match tok with
  | .no => True
  | .exact => cap = len
  | .live _ st => X.live st ∧ (cap = len ∨ (X.blk st = b ∧ X.sp st = (o + len * e, (cap - len) * e)))

inductive VR (X : Cx) : AV → List Value → Prop
  | int (k : IntKind) (n : Int) : VR X (.int k n) [.int k n]
  | bool (b : Bool) : VR X (.bool b) [.bool b]
  | str (s : ByteArray) : VR X (.str s) [.string s]
  | flt (k : FloatKind) (b : Nat) : VR X (.flt k b) [.float k b]
  | nilp : VR X .nilp [.pointer none]
  | nils : VR X .nils [.slice none 0 0]
  | nilm : VR X .nilm [.map none]
  | nilf : VR X .nilf [.nilFunc]
  | nili : VR X .nili [.nilIface]
  | vptr (v : AV) (b o : Nat) (cs : List Value) (h : VR X v cs) (hb : v.bad = false)
      (hc : ∀ i c, cs[i]? = some c → X.cell b (o + i) = some c) (hi : ∀ i, i < cs.length → X.imm b (o + i)) : VR X (.vptr v) [.pointer (some ⟨b, o, none⟩)]
  | ref (l st : Nat) (p : List Nat) (off : Nat) (hs : X.live st) : VR X (.ref l st p off) [.pointer (some ⟨X.blk st, off, none⟩)]
  | vsl (e : Nat) (es : List AV) (tok : Tok) (b o cap : Nat) (css : List (List Value)) (hl : es.length = css.length)
      (h : ∀ (i : Nat) (a : AV) (c : List Value), es[i]? = some a → css[i]? = some c → VR X a c)
      (he : ∀ (i : Nat) (c : List Value), css[i]? = some c → c.length = e)
      (hb : ∀ a ∈ es, a.bad = false)
      (hc : ∀ i c, css.flatten[i]? = some c → X.cell b (o + i) = some c) (hi : ∀ i, i < css.flatten.length → X.imm b (o + i))
      (hcap : es.length ≤ cap) (ht : TokOK X tok b o es.length cap e) : VR X (.vsl e es tok) [.slice (some ⟨b, o, none⟩) es.length cap]
  | sref (e l st : Nat) (p : List Nat) (off lo len b o cap : Nat) (hs : X.live st) (hcap : len ≤ cap)
      (ha : cap = 0 ∨ (b = X.blk st ∧ o = off + lo * e)) : VR X (.sref e l st p off lo len) [.slice (some ⟨b, o, none⟩) len cap]
  | map (l st : Nat) (hs : X.live st) : VR X (.map l st) [.map (some (X.blk st))]
  | yld (l st : Nat) (hs : X.live st) : VR X (.yld l st) [.func (.yield (X.blk st)) #[] #[]]
  | fn (g : Nat) (fs cs : List AV) (fs' cs' : List Value) (hf : fs.length = fs'.length) (hc : cs.length = cs'.length)
      (h1 : ∀ (i : Nat) (a : AV) (x : Value), fs[i]? = some a → fs'[i]? = some x → VR X a x.cells.toList)
      (h1' : ∀ (i : Nat) (a : AV) (x : Value), fs[i]? = some a → fs'[i]? = some x → isAggV x = a.isAgg)
      (h2 : ∀ (i : Nat) (a : AV) (x : Value), cs[i]? = some a → cs'[i]? = some x → VR X a x.cells.toList)
      (h2' : ∀ (i : Nat) (a : AV) (x : Value), cs[i]? = some a → cs'[i]? = some x → isAggV x = a.isAgg) :
      VR X (.fn (.func g) fs cs) [.func (.func g) fs'.toArray cs'.toArray]
  | iface (t : TypeId) (v : AV) (x : Value) (h : VR X v x.cells.toList) (ha : isAggV x = v.isAgg) (hb : v.bad = false) : VR X (.iface t v) [.iface t x]
  | agg (n : Nat) (ks : List AV) (css : List (List Value)) (hl : ks.length = css.length)
      (h : ∀ (i : Nat) (a : AV) (c : List Value), ks[i]? = some a → css[i]? = some c → VR X a c)
      (hb : ∀ a ∈ ks, a.bad = false) (hn : css.flatten.length = n) : VR X (.agg n ks) css.flatten
  | arr (n e : Nat) (ks : List AV) (css : List (List Value)) (hl : ks.length = css.length)
      (h : ∀ (i : Nat) (a : AV) (c : List Value), ks[i]? = some a → css[i]? = some c → VR X a c)
      (he : ∀ (i : Nat) (c : List Value), css[i]? = some c → c.length = e)
      (hb : ∀ a ∈ ks, a.bad = false) (hn : css.flatten.length = n) : VR X (.arr n e ks) css.flatten
  | tup (vs : List AV) (xs : List Value) (hl : vs.length = xs.length)
      (h : ∀ (i : Nat) (a : AV) (x : Value), vs[i]? = some a → xs[i]? = some x → VR X a x.cells.toList)
      (ha : ∀ (i : Nat) (a : AV) (x : Value), vs[i]? = some a → xs[i]? = some x → isAggV x = a.isAgg) : VR X (.tup vs) [.tuple xs.toArray]

/-- a value of a slot -/
def VT (X : Cx) (v : AV) (x : Value) : Prop := VR X v x.cells.toList ∧ isAggV x = v.isAgg

theorem cells_one {x : Value} (h : isAggV x = false) : x.cells.toList = [x] := by
  cases x <;> simp_all [Value.cells, isAggV]
theorem VT.one {X : Cx} {v : AV} {x : Value} (h : VT X v x) (ha : v.isAgg = false) : VR X v [x] := by
  have := h.1
  rwa [cells_one (h.2.trans ha)] at this
theorem VT.of_one {X : Cx} {v : AV} {x : Value} (h : VR X v [x]) (ha : v.isAgg = false) (hx : isAggV x = false) : VT X v x :=
  ⟨by rwa [cells_one hx], by rw [hx, ha]⟩
theorem VT.agg {X : Cx} {v : AV} {x : Value} (h : VT X v x) (ha : v.isAgg = true) : ∃ cs : Array Value, x = .agg cs ∧ VR X v cs.toList := by
  have h2 := h.2.trans ha
  cases x <;> simp [isAggV] at h2
  exact ⟨_, rfl, h.1⟩
theorem VT.of_agg {X : Cx} {v : AV} {cs : List Value} (h : VR X v cs) (ha : v.isAgg = true) : VT X v (.agg cs.toArray) :=
  ⟨by simpa [Value.cells] using h, by simp [isAggV, ha]⟩

theorem VR.size {X : Cx} {v : AV} {cs : List Value} (h : VR X v cs) : cs.length = v.size := by
  cases h <;> simp_all [AV.size]

/-- more of the concrete side -/
structure Cx.le (X Y : Cx) : Prop where
  B : Y.B = X.B
  clk : X.clk ≤ Y.clk
  live : ∀ st, X.live st → Y.live st
  blk : ∀ st, X.live st → Y.blk st = X.blk st
  sp : ∀ st, X.live st → Y.sp st = X.sp st
  imm : ∀ b o, X.imm b o → Y.imm b o ∧ Y.cell b o = X.cell b o
  immFix : ∀ b o, X.fix b → Y.imm b o → X.imm b o
  fix : ∀ r, X.fix r → Y.fix r ∧ Y.w.heap[r]? = X.w.heap[r]?
  below : Below X.B X.w Y.w

theorem Cx.le.refl (X : Cx) : X.le X :=
  ⟨rfl, Nat.le_refl _, fun _ h => h, fun _ _ => rfl, fun _ _ => rfl, fun _ _ h => ⟨h, rfl⟩, fun _ _ _ h => h, fun _ h => ⟨h, rfl⟩, Below.refl _ _⟩

theorem Cx.le.trans {X Y Z : Cx} (h : X.le Y) (k : Y.le Z) : X.le Z where
  B := k.B.trans h.B
  clk := Nat.le_trans h.clk k.clk
  live st hs := k.live st (h.live st hs)
  blk st hs := (k.blk st (h.live st hs)).trans (h.blk st hs)
  sp st hs := (k.sp st (h.live st hs)).trans (h.sp st hs)
  immFix b o hf hi := h.immFix b o hf (k.immFix b o (h.fix b hf).1 hi)
  imm b o hi := by
    have h1 := h.imm b o hi
    have h2 := k.imm b o h1.1
    exact ⟨h2.1, h2.2.trans h1.2⟩
  fix r hr := by
    have h1 := h.fix r hr
    have h2 := k.fix r h1.1
    exact ⟨h2.1, h2.2.trans h1.2⟩
  below := h.below.trans (h.B ▸ k.below)

theorem TokOK.mono {X Y : Cx} (hle : X.le Y) {tok : Tok} {b o len cap e : Nat} (h : TokOK X tok b o len cap e) : TokOK Y tok b o len cap e := by
  cases tok with
  | no => trivial
  | exact => exact h
  | live t st =>
    obtain ⟨hs, h⟩ := h
    refine ⟨hle.live _ hs, ?_⟩
    rw [hle.blk st hs, hle.sp st hs]
    exact h

theorem VR.mono {X Y : Cx} (hle : X.le Y) {v : AV} {cs : List Value} (h : VR X v cs) : VR Y v cs := by
  induction h with
  | int k n => exact .int k n
  | bool b => exact .bool b
  | str s => exact .str s
  | flt k b => exact .flt k b
  | nilp => exact .nilp
  | nils => exact .nils
  | nilm => exact .nilm
  | nilf => exact .nilf
  | nili => exact .nili
  | vptr v b o cs h hb hc hi ih =>
    refine .vptr v b o cs ih hb (fun i c hic => ?_) (fun i hlt => (hle.imm _ _ (hi i hlt)).1)
    have hlt : i < cs.length := by
      rcases Nat.lt_or_ge i cs.length with h | h
      · exact h
      · simp [List.getElem?_eq_none h] at hic
    rw [(hle.imm _ _ (hi i hlt)).2]; exact hc i c hic
  | ref l st p off hs => rw [← hle.blk st hs]; exact .ref l st p off (hle.live _ hs)
  | vsl e es tok b o cap css hl h he hb hc hi hcap ht ih =>
    refine .vsl e es tok b o cap css hl ih he hb (fun i c hic => ?_) (fun i hlt => (hle.imm _ _ (hi i hlt)).1) hcap (ht.mono hle)
    have hlt : i < css.flatten.length := by
      rcases Nat.lt_or_ge i css.flatten.length with h | h
      · exact h
      · simp [List.getElem?_eq_none h] at hic
    rw [(hle.imm _ _ (hi i hlt)).2]; exact hc i c hic
  | sref e l st p off lo len b o cap hs hcap ha =>
    exact .sref e l st p off lo len b o cap (hle.live _ hs) hcap (by rw [hle.blk st hs]; exact ha)
  | map l st hs => rw [← hle.blk st hs]; exact .map l st (hle.live _ hs)
  | yld l st hs => rw [← hle.blk st hs]; exact .yld l st (hle.live _ hs)
  | fn g fs cs fs' cs' hf hc h1 h1' h2 h2' i1 i2 => exact .fn g fs cs fs' cs' hf hc i1 h1' i2 h2'
  | iface t v x h ha hb ih => exact .iface t v x ih ha hb
  | agg n ks css hl h hb hn ih => exact .agg n ks css hl ih hb hn
  | arr n e ks css hl h he hb hn ih => exact .arr n e ks css hl ih he hb hn
  | tup vs xs hl h ha ih => exact .tup vs xs hl ih ha

theorem VT.mono {X Y : Cx} (hle : X.le Y) {v : AV} {x : Value} (h : VT X v x) : VT Y v x := ⟨h.1.mono hle, h.2⟩

/-- cells hold no struct and no tuple -/
theorem VR.one {X : Cx} {v : AV} {cs : List Value} (h : VR X v cs) : v.bad = false → ∀ c ∈ cs, c.oneCell' = true := by
  induction h with
  | agg n ks css hl h hb hn ih =>
    intro _ c hc
    obtain ⟨l, hl', hcl⟩ := List.mem_flatten.1 hc
    obtain ⟨i, hi⟩ := List.mem_iff_getElem?.1 hl'
    have hlt : i < ks.length := by
      rcases Nat.lt_or_ge i css.length with h | h
      · omega
      · simp [List.getElem?_eq_none h] at hi
    exact ih i ks[i] l (List.getElem?_eq_getElem hlt) hi (hb _ (List.getElem_mem hlt)) c hcl
  | arr n e ks css hl h he hb hn ih =>
    intro _ c hc
    obtain ⟨l, hl', hcl⟩ := List.mem_flatten.1 hc
    obtain ⟨i, hi⟩ := List.mem_iff_getElem?.1 hl'
    have hlt : i < ks.length := by
      rcases Nat.lt_or_ge i css.length with h | h
      · omega
      · simp [List.getElem?_eq_none h] at hi
    exact ih i ks[i] l (List.getElem?_eq_getElem hlt) hi (hb _ (List.getElem_mem hlt)) c hcl
  | tup vs xs hl h ha ih => intro hb; simp [AV.bad] at hb
  | _ => intro _ c hc; simp at hc; subst hc; rfl

end Go.AM

/- A part of the abstract machine on which the proof of this claim stands: AMOps11 (definitions and lemmas alone; no statement of the claim; no condition). -/
import Derived.Test.YtjcblncfehfonaaGreatDoorAMOps10
import Derived.Deep.Upon
namespace Go.AM
open Go Go.RowKit
section
variable {P : Program} {E : Env} {m : Mem} {X : Cx}

/-- elements and their cells -/
structure Els (X : Cx) (e : Nat) (es : List AV) (css : List (List Value)) : Prop where
  hl : es.length = css.length
  vr : ∀ (i : Nat) (a : AV) (c : List Value), es[i]? = some a → css[i]? = some c → VR X a c
  he : ∀ (i : Nat) (c : List Value), css[i]? = some c → c.length = e
  hb : ∀ a ∈ es, a.bad = false

theorem Els.nil {X : Cx} {e : Nat} : Els X e [] [] := ⟨rfl, by simp, by simp, by simp⟩
theorem Els.mono {X Y : Cx} (hle : X.le Y) {e : Nat} {es : List AV} {css : List (List Value)} (h : Els X e es css) : Els Y e es css :=
  ⟨h.hl, fun i a c ha hc => (h.vr i a c ha hc).mono hle, h.he, h.hb⟩
theorem Els.append {X : Cx} {e : Nat} {es xs : List AV} {css cxs : List (List Value)} (h : Els X e es css) (k : Els X e xs cxs) : Els X e (es ++ xs) (css ++ cxs) := by
  refine ⟨by simp [h.hl, k.hl], ?_, ?_, ?_⟩
  · intro i a c ha hc
    rw [List.getElem?_append] at ha hc
    rw [← h.hl] at hc
    split at ha
    · rename_i hlt
      rw [if_pos hlt] at hc
      exact h.vr i a c ha hc
    · rename_i hlt
      rw [if_neg hlt] at hc
      exact k.vr _ a c ha hc
  · intro i c hc
    rw [List.getElem?_append] at hc
    split at hc
    · exact h.he _ _ hc
    · exact k.he _ _ hc
  · intro a ha
    rcases List.mem_append.1 ha with h1 | h1
    · exact h.hb a h1
    · exact k.hb a h1
theorem Els.len {X : Cx} {e : Nat} {es : List AV} {css : List (List Value)} (h : Els X e es css) : css.flatten.length = es.length * e := by
  have := flat_uni _ css css.length h.he (Nat.le_refl _)
  rwa [List.take_length, ← h.hl] at this
theorem Els.one {X : Cx} {e : Nat} {es : List AV} {css : List (List Value)} (h : Els X e es css) : ∀ u ∈ css.flatten, u.oneCell' = true := by
  intro u hu
  obtain ⟨c, hc, hu⟩ := List.mem_flatten.1 hu
  obtain ⟨i, hi⟩ := List.mem_iff_getElem?.1 hc
  obtain ⟨a, ha⟩ := some_of_len h.hl.symm hi
  exact (h.vr i a c ha hi).one (h.hb _ (mem_of_get ha)) u hu
theorem Els.vsl {X : Cx} {e : Nat} {es : List AV} {css : List (List Value)} (h : Els X e es css) {tok : Tok} {b o cap : Nat}
    (hc : ∀ (i : Nat) c, css.flatten[i]? = some c → X.cell b (o + i) = some c) (hi : ∀ i, i < css.flatten.length → X.imm b (o + i)) (hcap : es.length ≤ cap) (ht : TokOK X tok b o es.length cap e) :
    VT X (.vsl e es tok) (.slice (some ⟨b, o, none⟩) es.length cap) :=
  VT.of_one (.vsl e es tok b o cap css h.hl h.vr h.he h.hb hc hi hcap ht) rfl rfl
theorem Src.els {t2 size : Nat} {cx : Value} {xs : List AV} {css : List (List Value)} (h : Src P X t2 size cx xs css) : Els X size xs css := ⟨h.hl, h.vr, h.he, h.hb⟩

theorem run_append_row (t tx ty e : TypeId) (i : TypeInfo) (ht : P.underlying t = some (.slice e)) (hi : P.info? e = some i) (w : World) (b off sLen sCap : Nat) (x : Value) (n : Nat) (news : List Value) (hs : Go.Src P i.size tx x n news w)
    (hroom : sLen + n ≤ sCap) (cs : Array Value) (T : TypeId) (hg : w.heap[b]? = some (.cells cs T (0, 0))) (hfit : off + sLen * i.size + news.length ≤ cs.size) :
    (Builtin.append_ #[t, tx] ty #[.slice (some ⟨b, off, none⟩) sLen sCap, x]).run P w = .ok (.slice (some ⟨b, off, none⟩) (sLen + n) sCap)
      (w.setRow b (cs.toList.take (off + sLen * i.size) ++ news ++ cs.toList.drop (off + sLen * i.size + news.length)).toArray) := by
  have hst := run_storeCells_at P b (off + sLen * i.size) T news 0 cs w hg (by simpa using hfit) hs.one
  simp only [Nat.add_zero] at hst
  rcases hs.kind with ⟨e', hk⟩ | hk <;> simp [Builtin.append_, run_underlying ht, run_underlying hk, sizeOf, typeInfo, hi, hs.len, hroom, hs.cells, Addr.add_lit, hst]

theorem zeroCells_size (z : Array Value) (n : Nat) : (Builtin.zeroCells z n).size = n * z.size := by simp [Builtin.zeroCells]

theorem regrow (hs : Sim m X) {t t2 ty el : Nat} {i : TypeInfo} {z : Value} (ht : P.underlying t = some (.slice el)) (hi : P.info? el = some i) (hz : i.zero = some z) (hzs : z.cells.size = i.size) (hb0 : 0 < i.bytes)
    {es : List AV} {css : List (List Value)} (hes : Els X i.size es css) {xs : List AV} {csx : List (List Value)} {cx : Value} (hxs : Src P X t2 i.size cx xs csx)
    {base : Option Addr} {cap : Nat} (hold : (Builtin.firstCells i.size es.length (.slice base es.length cap)).run P X.w.drew = .ok css.flatten.toArray X.w.drew)
    (hgr : cap < es.length + xs.length) (hfit : (es.length + xs.length) * i.bytes ≤ maxBytes)
    {toks' : List Nat} {t0 : Nat} (hg : ∀ (t s : Nat), toks'[t]? = some s → m.toks[t]? = some s ∨ (s = m.clk ∧ t = t0)) :
    ∃ cv Y, X.le Y ∧ Sim { m with toks := toks', clk := m.clk + 1 } Y ∧ VT Y (.vsl i.size (es ++ xs) (.live t0 m.clk)) cv ∧
      (Builtin.append_ #[t, t2] ty #[.slice base es.length cap, cx]).run P X.w = .ok cv Y.w := by
  have hsn : Builtin.nextslicecap (es.length + xs.length) cap * i.bytes ≤ 281474976710656 := by
    have h1 := Nat.mul_le_mul_right i.bytes (nextslicecap_le hgr)
    rw [Nat.mul_assoc] at h1
    unfold maxBytes at hfit
    omega
  have h63 : ((es.length + xs.length : Nat) : Int) ≤ 9223372036854775807 := by
    have : es.length + xs.length ≤ (es.length + xs.length) * i.bytes := Nat.le_mul_of_pos_right _ hb0
    unfold maxBytes at hfit
    omega
  have hrun := run_append_grow_src (P := P) X.w t t2 ty el i z ht hi hz base es.length cap css.flatten hold cx xs.length csx.flatten hxs.give hgr h63 hsn
  have hge := grownCap_ge X.w (es.length + xs.length) cap el
  generalize grownCap X.w (es.length + xs.length) cap el = nc at hrun hge
  have hall := hes.append hxs.els
  have hlen := hall.len
  rw [List.flatten_append] at hlen
  have hsize : ((css.flatten ++ csx.flatten).toArray ++ Builtin.zeroCells z.cells (nc - (es.length + xs.length))).size = (es.length + xs.length) * i.size + (nc - (es.length + xs.length)) * i.size := by
    rw [Array.size_append, zeroCells_size, hzs, List.size_toArray, hlen, List.length_append]
  obtain ⟨hle, hsim⟩ := hs.grown (w0 := X.w.drew) rfl rfl rfl rfl (cs := (css.flatten ++ csx.flatten).toArray ++ Builtin.zeroCells z.cells (nc - (es.length + xs.length))) (T := el)
    (n := (es.length + xs.length) * i.size) (sp := ((es.length + xs.length) * i.size, (nc - (es.length + xs.length)) * i.size)) (Nat.le_refl _) (by rw [hsize]; exact Nat.le_refl _) hg
  refine ⟨_, _, hle, hsim, ?_, hrun⟩
  have hl2 : (es ++ xs).length = es.length + xs.length := List.length_append
  have key := (hall.mono hle).vsl (tok := .live t0 m.clk) (b := X.w.heap.size) (o := 0) (cap := nc) ?_ ?_ (by rw [hl2]; exact hge) ?_
  · rw [hl2] at key; exact key
  · intro k c hk
    rw [Nat.zero_add]
    rw [List.flatten_append] at hk
    show World.cell? _ _ = _
    have hh : (X.w.drew.alloc (.cells ((css.flatten ++ csx.flatten).toArray ++ Builtin.zeroCells z.cells (nc - (es.length + xs.length))) el (0, 0))).heap[X.w.heap.size]? = some (.cells ((css.flatten ++ csx.flatten).toArray ++ Builtin.zeroCells z.cells (nc - (es.length + xs.length))) el (0, 0)) := heap_alloc_new X.w.drew _
    show (X.w.drew.alloc (.cells ((css.flatten ++ csx.flatten).toArray ++ Builtin.zeroCells z.cells (nc - (es.length + xs.length))) el (0, 0))).cell? ⟨X.w.heap.size, k, none⟩ = some c
    rw [cell_of_block hh]
    have hlt := lt_of_some hk
    rw [Array.getElem?_append, if_pos (by simpa using hlt)]
    simpa using hk
  · intro k hk
    rw [Nat.zero_add]
    rw [List.flatten_append, hlen, hl2] at hk
    exact .inr ⟨rfl, Nat.zero_le _, hk⟩
  · refine ⟨by rw [hs.clk]; exact .inr rfl, .inr ⟨?_, ?_⟩⟩
    · rw [hs.clk]; simp [Cx.grown]
    · rw [hs.clk, hl2]; simp [Cx.grown]


theorem grow_sound (hs : Sim m X) {t t2 ty el : Nat} {i : TypeInfo} {z : Value} (ht : P.underlying t = some (.slice el)) (hi : P.info? el = some i) (hz : i.zero = some z) (hzs : z.cells.size = i.size) (hb0 : 0 < i.bytes)
    {es : List AV} {css : List (List Value)} (hes : Els X i.size es css) {xs : List AV} {csx : List (List Value)} {cx : Value} (hxs : Src P X t2 i.size cx xs csx) (hne : 0 < xs.length)
    {base : Option Addr} {cap : Nat} {tok : Tok} (hbase : (base = none ∧ es = [] ∧ cap = 0 ∧ tok = .exact) ∨ ∃ b o, base = some ⟨b, o, none⟩ ∧
      (∀ (i : Nat) c, css.flatten[i]? = some c → X.cell b (o + i) = some c) ∧ (∀ i, i < css.flatten.length → X.imm b (o + i)) ∧ es.length ≤ cap ∧ TokOK X tok b o es.length cap i.size)
    {v : AV} {m' : Mem} (h : grow m i.size i.bytes es tok xs = some (v, m')) :
    ∃ cv Y, X.le Y ∧ Sim m' Y ∧ VT Y v cv ∧ (Builtin.append_ #[t, t2] ty #[.slice base es.length cap, cx]).run P X.w = .ok cv Y.w := by
  have hold : (Builtin.firstCells i.size es.length (.slice base es.length cap)).run P X.w.drew = .ok css.flatten.toArray X.w.drew := by
    rcases hbase with ⟨rfl, rfl, _, _⟩ | ⟨b, o, rfl, hc, _⟩
    · have := hes.hl
      have : css = [] := List.length_eq_zero_iff.1 this.symm
      subst this
      exact run_firstCells_none _ _ _ _ _
    · exact run_firstCells_some (P := P) X.w.drew i.size es.length ⟨b, o, none⟩ es.length cap css.flatten hes.len
        (fun j v hj => by rw [add_none]; exact hc j v hj)
  unfold grow at h
  split at h
  · rename_i hfit
    split at h
    · simp at h
    · have hcap : cap = es.length := by
        rcases hbase with ⟨_, rfl, rfl, _⟩ | ⟨b, o, _, _, _, _, h4⟩
        · rfl
        · exact h4
      simp only [Mem.newTok, Option.some.injEq, Prod.mk.injEq] at h
      obtain ⟨rfl, rfl⟩ := h
      refine regrow hs ht hi hz hzs hb0 hes hxs hold (by omega) hfit (t0 := m.toks.length) ?_
      intro t s e
      rw [List.getElem?_append] at e
      split at e
      · exact .inl e
      · rename_i hn
        have hl := lt_of_some e
        have : t - m.toks.length = 0 := by simp at hl; omega
        rw [this] at e
        simp at e
        exact .inr ⟨e.symm, by omega⟩
    · rename_i t0 st0
      split at h
      · rename_i hc
        obtain ⟨hc1, hc2⟩ := hc
        simp only [Option.some.injEq, Prod.mk.injEq] at h
        obtain ⟨rfl, rfl⟩ := h
        rcases Nat.lt_or_ge cap (es.length + xs.length) with hgr | hgr
        · refine regrow hs ht hi hz hzs hb0 hes hxs hold hgr hfit (t0 := t0) ?_
          intro t s e
          rcases set_get e with ⟨hn, f⟩ | ⟨hn, f⟩
          · exact .inr ⟨f, hn.symm⟩
          · exact .inl f
        · rcases hbase with ⟨_, _, _, h4⟩ | ⟨b, o, rfl, hcl, himm, hcap, htk⟩
          · cases h4
          · obtain ⟨hst, htk⟩ := htk
            rcases htk with htk | ⟨htk1, htk2⟩
            · omega
            obtain ⟨q1, q2, q3, q4, cs, T, q5, q6⟩ := hs.toks t0 st0 hc1
            have hn := hxs.els.len
            have hk1 : (cap - es.length) * i.size = xs.length * i.size + (cap - (es.length + xs.length)) * i.size := by
              rw [← Nat.add_mul]; congr 1; omega
            have hk2 : (es.length + xs.length) * i.size = es.length * i.size + xs.length * i.size := Nat.add_mul _ _ _
            rw [htk2] at q6 q3
            simp only at q6 q3
            have hfit' : o + es.length * i.size + csx.flatten.length ≤ cs.size := by rw [hn]; omega
            have hrun := run_append_row t t2 ty el i ht hi X.w b o es.length cap cx xs.length csx.flatten hxs.give hgr cs T (by rw [← htk1]; exact q5) hfit'
            have hcsl : cs.toList.length = cs.size := Array.length_toList
            obtain ⟨hle, hsim⟩ := hs.filled hc1 (cs := cs) (T := T) (cs' := (cs.toList.take (o + es.length * i.size) ++ csx.flatten ++ cs.toList.drop (o + es.length * i.size + csx.flatten.length)).toArray)
              q5 (by rw [List.size_toArray, List.length_append, List.length_append, List.length_take, List.length_drop, hcsl]; omega)
              (by
                intro k hk
                rw [htk2] at hk
                simp only at hk
                simp only [List.getElem?_toArray]
                rw [List.append_assoc, List.getElem?_append_left (by simp; omega), List.getElem?_take_of_lt hk]
                simp) (o2 := o + (es.length + xs.length) * i.size) (c2 := (cap - (es.length + xs.length)) * i.size)
              (by rw [htk2]; simp only; omega) (by omega)
            refine ⟨.slice (some ⟨b, o, none⟩) (es.length + xs.length) cap, _, hle, hsim, ?_, ?_⟩
            rotate_left
            · rw [hrun]; rw [htk1]; rfl
            have hall := hes.append hxs.els
            have hl2 : (es ++ xs).length = es.length + xs.length := List.length_append
            have key := (hall.mono hle).vsl (tok := .live t0 m.clk) (b := b) (o := o) (cap := cap) ?_ ?_ (by rw [hl2]; exact hgr) ?_
            · rw [hl2] at key; exact key
            · intro k c hk
              rw [List.flatten_append, List.getElem?_append] at hk
              split at hk
              · rename_i hlt
                have := hle.imm b (o + k) (himm k hlt)
                rw [this.2]; exact hcl k c hk
              · rename_i hge
                show World.cell? (X.w.setRow (X.blk st0) _) ⟨b, o + k, none⟩ = some c
                rw [← htk1, cell_of_block (setRow_heap _ _ _ _ _ _ q5)]
                have hel := hes.len
                have hlt := lt_of_some hk
                rw [hel] at hk hge hlt
                simp only [List.getElem?_toArray]
                rw [List.append_assoc, List.getElem?_append_right (by rw [List.length_take, hcsl]; omega), List.getElem?_append_left (by rw [List.length_take, hcsl]; omega)]
                rw [← hk]
                congr 1
                rw [List.length_take, hcsl]; omega
            · intro k hk
              rw [List.flatten_append, List.length_append] at hk
              rcases Nat.lt_or_ge k css.flatten.length with hlt | hge
              · exact .inl (himm k hlt)
              · have hel := hes.len
                refine .inr ⟨htk1.symm, ?_, ?_⟩
                · rw [htk2]; simp only; omega
                · omega
            · refine ⟨by rw [hs.clk]; exact .inr rfl, .inr ⟨?_, ?_⟩⟩
              · rw [hs.clk]; simp [Cx.grown]; exact htk1
              · rw [hs.clk, hl2]; simp [Cx.grown]
      · simp at h
  · simp at h

theorem append_sound (hE : Tys E P) (hs : Sim m X) {t t2 ty : Nat} {s x v : AV} {cs cx : Value} {m' : Mem} (hsv : VT X s cs) (hx : VT X x cx) (h : appendRes E m t t2 s x = some (v, m')) :
    ∃ cv Y, X.le Y ∧ Sim m' Y ∧ VT Y v cv ∧ (Builtin.append_ #[t, t2] ty #[cs, cx]).run P X.w = .ok cv Y.w := by
  unfold appendRes at h
  split at h
  · rename_i el esz eb _ _ _ _ hti
    obtain ⟨i, hu, hi, hsz, hbt⟩ := kind_slice (hE _ _ hti) rfl
    split at h
    · rename_i xs te hsrc hte
      obtain ⟨csx, hxs⟩ := source_sound hE hs hx hsrc
      split at h
      · rename_i hc
        obtain ⟨hc0, hc1, hc2, hc3⟩ := hc
        obtain ⟨i', z, hi', hz, _, hzv⟩ := tyI_zero (hE _ _ hte) hc2
        rw [hi] at hi'; cases hi'
        have hzs : z.cells.size = i.size := by rw [← Array.length_toList, (hzv X).1.size, hc3, hsz]
        subst hsz hbt
        split at h
        · split at h
          · rename_i hsl
            simp only [Option.some.injEq, Prod.mk.injEq] at h
            obtain ⟨rfl, rfl⟩ := h
            have hg := hxs.give
            have hcn : csx = [] := List.length_eq_zero_iff.1 hxs.hl.symm
            subst hcn
            refine ⟨cs, X, Cx.le.refl X, hs, hsv, ?_⟩
            unfold isSl at hsl
            split at hsl
            · cases hsv.nils
              exact run_append_nothing X.w t t2 ty el i hu hi none 0 0 (Nat.le_refl _) cx hg
            · obtain ⟨b, o, cap, css, rfl, _, _, _, _, _, _, h6, _⟩ := hsv.vsl
              exact run_append_nothing X.w t t2 ty el i hu hi _ _ cap h6 cx hg
            · obtain ⟨b, o, cap, rfl, _, h6, _⟩ := hsv.sref
              exact run_append_nothing X.w t t2 ty el i hu hi _ _ cap h6 cx hg
            · simp at hsl
          · simp at h
        · rename_i hne
          cases hsv.nils
          have hpos : 0 < xs.length := by
            rcases xs with _ | ⟨a, r⟩
            · exact (hne rfl).elim
            · simp
          exact grow_sound hs hu hi hz hzs hc1 Els.nil hxs hpos (.inl ⟨rfl, rfl, rfl, rfl⟩) h
        · rename_i hne
          split at h
          · rename_i he
            subst he
            obtain ⟨b, o, cap, css, rfl, h1, h2, h3, h4, h5, h6, h7, h8⟩ := hsv.vsl
            have hpos : 0 < xs.length := by
              rcases xs with _ | ⟨a, r⟩
              · exact (hne rfl).elim
              · simp
            exact grow_sound hs hu hi hz hzs hc1 ⟨h1, h2, h3, h4⟩ hxs hpos (.inr ⟨b, o, rfl, h5, h6, h7, h8⟩) h
          · simp at h
        · simp at h
      · simp at h
    · simp at h
  · simp at h

end
end Go.AM

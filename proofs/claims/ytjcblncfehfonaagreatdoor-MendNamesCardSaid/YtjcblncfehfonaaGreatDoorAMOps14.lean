/- A part of the abstract machine on which the proof of this claim stands: AMOps14 (definitions and lemmas alone; no statement of the claim; no condition). -/
import Derived.Test.YtjcblncfehfonaaGreatDoorAMOps13
namespace Go.AM
open Go Go.RowKit
section
variable {P : Program} {E : Env} {m : Mem} {X : Cx}

theorem Els.take {e : Nat} {es : List AV} {css : List (List Value)} (h : Els X e es css) (n : Nat) : Els X e (es.take n) (css.take n) := by
  refine ⟨by simp [h.hl], ?_, ?_, fun a ha => h.hb a (List.mem_of_mem_take ha)⟩
  · intro i a c ha hc
    rw [List.getElem?_take] at ha hc
    split at ha
    · rename_i hlt; rw [if_pos hlt] at hc; exact h.vr i a c ha hc
    · simp at ha
  · intro i c hc
    rw [List.getElem?_take] at hc
    split at hc
    · exact h.he i c hc
    · simp at hc
theorem Els.drop {e : Nat} {es : List AV} {css : List (List Value)} (h : Els X e es css) (n : Nat) : Els X e (es.drop n) (css.drop n) := by
  refine ⟨by simp [h.hl], ?_, ?_, fun a ha => h.hb a (List.mem_of_mem_drop ha)⟩
  · intro i a c ha hc
    rw [List.getElem?_drop] at ha hc
    exact h.vr _ a c ha hc
  · intro i c hc
    rw [List.getElem?_drop] at hc
    exact h.he _ c hc
theorem flat_take {α : Type} {e : Nat} {css : List (List α)} (he : ∀ (i : Nat) (c : List α), css[i]? = some c → c.length = e) {n : Nat} (hn : n ≤ css.length) : (css.take n).flatten = css.flatten.take (n * e) := by
  have h1 : css.flatten = (css.take n).flatten ++ (css.drop n).flatten := by rw [← List.flatten_append, List.take_append_drop]
  rw [h1, List.take_left' (flat_uni e css n he hn)]
theorem flat_drop {α : Type} {e : Nat} {css : List (List α)} (he : ∀ (i : Nat) (c : List α), css[i]? = some c → c.length = e) {n : Nat} (hn : n ≤ css.length) : (css.drop n).flatten = css.flatten.drop (n * e) := by
  have h1 : css.flatten = (css.take n).flatten ++ (css.drop n).flatten := by rw [← List.flatten_append, List.take_append_drop]
  rw [h1, List.drop_left' (flat_uni e css n he hn)]

theorem splice {α : Type} (pre F post news : List α) (a : Nat) (h : a + news.length ≤ F.length) :
    (pre ++ F ++ post).take (pre.length + a) ++ news ++ (pre ++ F ++ post).drop (pre.length + a + news.length) = pre ++ (F.take a ++ news ++ F.drop (a + news.length)) ++ post := by
  have h1 : (pre ++ F ++ post).take (pre.length + a) = pre ++ F.take a := by
    rw [List.append_assoc, List.take_length_add_append, List.take_append_of_le_length (by omega)]
  have h2 : (pre ++ F ++ post).drop (pre.length + a + news.length) = F.drop (a + news.length) ++ post := by
    rw [List.append_assoc, Nat.add_assoc, List.drop_length_add_append, List.drop_append_of_le_length (by omega)]
  rw [h1, h2]
  simp

theorem copy_sound (hE : Tys E P) (hs : Sim m X) {t t2 ty : Nat} {d x v : AV} {cd cx : Value} {m' : Mem} (hd : VT X d cd) (hx : VT X x cx) (h : copyRes E m t t2 d x = some (v, m')) :
    ∃ cv Y, X.le Y ∧ Sim m' Y ∧ VT Y v cv ∧ (Builtin.copy_ #[t, t2] ty #[cd, cx]).run P X.w = .ok cv Y.w := by
  unfold copyRes at h
  split at h
  · rename_i el esz eb _ _ _ _ hti
    obtain ⟨i, hu, hi, hsz, hbt⟩ := kind_slice (hE _ _ hti) rfl
    subst hsz
    split at h
    · rename_i xs hsrc
      obtain ⟨csx, hxs⟩ := source_sound hE hs hx hsrc
      cases hd.nils
      simp only [Option.some.injEq, Prod.mk.injEq] at h
      obtain ⟨rfl, rfl⟩ := h
      refine ⟨.int .i64 0, X, Cx.le.refl X, hs, VT.of_one (.int _ _) rfl rfl, ?_⟩
      have h1 := hxs.len
      have h2 := hxs.cells 0 (Nat.zero_le _) X.w rfl
      simp [Builtin.copy_, run_underlying hu, sizeOf, typeInfo, hi, h1, h2, goInt]
    · rename_i e l st p off lo len xs hsrc
      obtain ⟨csx, hxs⟩ := source_sound hE hs hx hsrc
      split at h
      · rename_i hee
        subst hee
        split at h
        · rename_i tr htr
          split at h
          · rename_i n e'' ks o hr
            simp only at h
            split at h
            · rename_i hc
              obtain ⟨ho, he2, hlen, hlo, hlo2⟩ := hc
              subst ho he2
              simp only [Option.some.injEq, Prod.mk.injEq] at h
              obtain ⟨rfl, rfl⟩ := h
              obtain ⟨b, o', cap, rfl, hst, hcap, hcase⟩ := hd.sref
              obtain ⟨cs, T, pre, cu, post, g1, g2, g3, g4, g5, g6, g7⟩ := hs.part htr hr
              obtain ⟨css, rfl, hk, hn, he⟩ := g4.kids_arr
              have hks : Els X i.size ks css := ⟨hk.hl, hk.vr, he, hk.hb⟩
              generalize hkk : min xs.length len = k
              have hkx : k ≤ xs.length := by omega
              have hkl : k ≤ len := by omega
              have hnew := (hks.take lo).append ((hxs.els.take k).append (hks.drop (lo + k)))
              have hfx : (csx.take k).flatten.length = k * i.size := flat_uni _ csx k hxs.he (by have := hxs.hl; omega)
              have hcl := hk.hl
              have hflat : (css.take lo ++ (csx.take k ++ css.drop (lo + k))).flatten = css.flatten.take (lo * i.size) ++ (csx.take k).flatten ++ css.flatten.drop (lo * i.size + k * i.size) := by
                rw [List.flatten_append, List.flatten_append, flat_take he (by omega), flat_drop he (by omega), ← Nat.add_mul, List.append_assoc]
              have hcslen : css.flatten.length = ks.length * i.size := hks.len
              have hfit : lo * i.size + k * i.size ≤ css.flatten.length := by
                rw [hcslen, ← Nat.add_mul]; exact Nat.mul_le_mul_right _ (by omega)
              have hflen : (css.take lo ++ (csx.take k ++ css.drop (lo + k))).flatten.length = css.flatten.length := by
                rw [hflat]; simp only [List.length_append, List.length_take, List.length_drop, hfx]; omega
              have hv := hnew.arr (n := n) (by rw [hflen, hn])
              obtain ⟨k1, k2⟩ := g7 _ _ hv rfl hflen
              obtain ⟨hle, hsim⟩ := hs.setTree (tree_obj htr) g1 (cs := (pre ++ (css.take lo ++ (csx.take k ++ css.drop (lo + k))).flatten ++ post).toArray) (by simpa using k1) k2
              have hcsl : cs.size = pre.length + css.flatten.length + post.length := by rw [← Array.length_toList, g2]; simp only [List.length_append]
              have h1 := hxs.len
              have h2 := hxs.cells k hkx X.w rfl
              refine ⟨.int .i64 k, _, hle, by simpa only [List.append_assoc] using hsim, VT.of_one (.int _ _) rfl rfl, ?_⟩
              have hone : ∀ v ∈ (csx.take k).flatten, v.oneCell' = true := (hxs.els.take k).one
              have hlist : cs.toList.take (o + lo * i.size) ++ (csx.take k).flatten ++ cs.toList.drop (o + lo * i.size + (csx.take k).flatten.length) = pre ++ (css.take lo ++ (csx.take k ++ css.drop (lo + k))).flatten ++ post := by
                rw [hflat, g2, ← g3, ← hfx]
                exact splice pre css.flatten post (csx.take k).flatten (lo * i.size) (by rw [hfx]; exact hfit)
              have hst' : (storeCells ⟨b, o', none⟩ (csx.take k).flatten).run P X.w = .ok () (X.w.setRow (X.blk st) (pre ++ (css.take lo ++ (csx.take k ++ css.drop (lo + k))).flatten ++ post).toArray) := by
                rcases hcase with h0 | ⟨rfl, rfl⟩
                · have hk0 : k = 0 := by omega
                  rw [← hlist]
                  subst hk0
                  simp only [List.take_zero, List.flatten_nil, storeCells, List.append_nil, List.length_nil, Nat.add_zero, List.take_append_drop, Array.toArray_toList]
                  rw [setRow_self _ _ _ _ _ g1]
                  rfl
                · have hst2 := run_storeCells_at P (X.blk st) (o + lo * i.size) T (csx.take k).flatten 0 cs X.w g1 (by rw [hfx]; omega) hone
                  simp only [Nat.add_zero] at hst2
                  rw [hlist] at hst2
                  exact hst2
              have hmin : Nat.min xs.length len = k := hkk
              simp only [Builtin.copy_]
              simp [goInt, run_underlying hu, sizeOf, typeInfo, hi, h1, hmin, h2, hst', Cx.at]
            · simp at h
          · simp at h
        · simp at h
      · simp at h
    · simp at h
  · simp at h

end
end Go.AM

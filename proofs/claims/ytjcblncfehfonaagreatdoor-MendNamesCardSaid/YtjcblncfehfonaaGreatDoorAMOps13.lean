/- A part of the abstract machine on which the proof of this claim stands: AMOps13 (definitions and lemmas alone; no statement of the claim; no condition). -/
import Derived.Test.YtjcblncfehfonaaGreatDoorAMOps12
import Derived.Great.BuildSlice
namespace Go.AM
open Go Go.RowKit
section
variable {P : Program} {E : Env} {m : Mem} {X : Cx}

structure Kids (X : Cx) (ks : List AV) (css : List (List Value)) : Prop where
  hl : ks.length = css.length
  vr : ∀ (i : Nat) (a : AV) (c : List Value), ks[i]? = some a → css[i]? = some c → VR X a c
  hb : ∀ a ∈ ks, a.bad = false

theorem foldl_fill (off : Nat) (post : List Value) : ∀ (vs old pre : List Value) (k : Nat), old.length = vs.length → pre.length = off + k →
    (vs.zipIdx k).foldl (fun (cs : Array Value) (p : Value × Nat) => cs.setIfInBounds (off + p.2) p.1) (pre ++ old ++ post).toArray = (pre ++ vs ++ post).toArray
  | [], old, pre, k, h, _ => by
    have : old = [] := List.length_eq_zero_iff.1 h
    subst this; rfl
  | v :: vs, [], pre, k, h, _ => by simp at h
  | v :: vs, o :: old, pre, k, h, hp => by
    rw [List.zipIdx_cons, List.foldl_cons]
    have e : ((pre ++ o :: old ++ post).toArray.setIfInBounds (off + k) v) = ((pre ++ [v]) ++ old ++ post).toArray := by
      apply Array.ext'
      simp only [Array.toList_setIfInBounds]
      rw [← hp]
      simp
    simp only
    rw [e, foldl_fill off post vs old (pre ++ [v]) (k + 1) (by simpa using h) (by simp; omega)]
    simp

theorem fill_sound {place : Nat → Option (Nat × Nat)} : ∀ (parts : List (Nat × AV)) (cparts : List (Nat × Value)) {ks ks' : List AV} {css : List (List Value)}, parts.length = cparts.length →
    (∀ (i : Nat) (a : Nat × AV) (c : Nat × Value), parts[i]? = some a → cparts[i]? = some c → a.1 = c.1 ∧ ((a.2.isUnd = false) → VT X a.2 c.2)) → Kids X ks css → fillKids place ks parts = some ks' →
    ∃ css', Instr.fill place css.flatten.toArray cparts = some css'.flatten.toArray ∧ Kids X ks' css' ∧ css'.map List.length = css.map List.length
  | [], [], ks, ks', css, _, _, hk, h => by
    simp [fillKids] at h; subst h
    exact ⟨css, rfl, hk, rfl⟩
  | [], _ :: _, _, _, _, h, _, _, _ => by simp at h
  | _ :: _, [], _, _, _, h, _, _, _ => by simp at h
  | (i, v) :: parts, (j, x) :: cparts, ks, ks', css, hl, hp, hk, h => by
    unfold fillKids at h
    split at h
    · rename_i k o z hki hpl
      split at h
      · rename_i hc
        obtain ⟨rfl, hz, hks, hb⟩ := hc
        obtain ⟨hij, hv⟩ := hp 0 _ _ rfl rfl
        simp only at hij
        have hv := hv (by cases v <;> simp_all [AV.isUnd, AV.bad])
        subst hij
        obtain ⟨c, hci⟩ := some_of_len hk.hl hki
        have hlen : c.length = x.cells.toList.length := by rw [(hk.vr _ _ _ hki hci).size, hv.1.size, hks]
        have hlt := lt_of_some hci
        have hoff := offs_eq ks css i hk.hl hk.vr (by have := hk.hl; omega)
        have hfl := flat_at hci
        have hk' : Kids X (ks.set i v) (css.set i x.cells.toList) := by
          refine ⟨by simp [hk.hl], ?_, ?_⟩
          · intro n a c' ha hc'
            rcases set_get ha with ⟨rfl, rfl⟩ | ⟨hn, ha⟩
            · rw [List.getElem?_set_self hlt] at hc'
              simp at hc'; subst hc'; exact hv.1
            · rcases set_get hc' with ⟨hh, _⟩ | ⟨_, hc'⟩
              · exact absurd hh hn
              · exact hk.vr n a c' ha hc'
          · intro a ha
            rcases List.mem_or_eq_of_mem_set ha with h1 | rfl
            · exact hk.hb a h1
            · exact hb
        obtain ⟨css', r1, r2, r3⟩ := fill_sound parts cparts (by simpa using hl) (fun n a c ha hc => hp (n + 1) a c (by simpa using ha) (by simpa using hc)) hk' h
        refine ⟨css', ?_, r2, ?_⟩
        · unfold Instr.fill
          simp only [hpl]
          have hsz : x.cells.size = z := by rw [← Array.length_toList, hv.1.size, hz]
          have hle : AV.offs ks i + x.cells.size ≤ css.flatten.toArray.size := by
            show _ ≤ css.flatten.length
            have h1 := congrArg List.length hfl
            simp only [List.length_append] at h1
            rw [← Array.length_toList, ← hlen]; omega
          rw [if_neg (by simp [hsz]; rw [← hsz]; simpa using hle)]
          have e : (x.cells.zipIdx.foldl (fun cs (c, j) => cs.setIfInBounds (AV.offs ks i + j) c) css.flatten.toArray) = (css.set i x.cells.toList).flatten.toArray := by
            rw [← Array.foldl_toList, Array.toList_zipIdx, hfl, flat_set hlt]
            exact foldl_fill (AV.offs ks i) _ x.cells.toList c (css.take i).flatten 0 hlen (by omega)
          rw [e]; exact r1
        · rw [r3, List.map_set]
          apply List.ext_getElem?
          intro n
          rw [List.getElem?_set]
          split
          · rename_i hn
            subst hn
            simp only [List.length_map, hlt, if_true, List.getElem?_map, hci, Option.map_some, hlen]
          · rfl
      · simp at h
    · simp at h


theorem places_map : ∀ (fs : List Field), (∀ f ∈ fs, szOf P f.type ≠ 0) → fs.mapM (fun f => (P.info? f.type).map fun i => (f.offset, i.size)) = some (fs.map fun f => (f.offset, szOf P f.type))
  | [], _ => rfl
  | f :: fs, h => by
    have h1 := h f (by simp)
    have h2 := places_map fs (fun g hg => h g (by simp [hg]))
    unfold szOf at h1 ⊢
    cases hi : P.info? f.type with
    | none => rw [hi] at h1; simp at h1
    | some i =>
      unfold szOf at h2
      simp [List.mapM_cons, hi, h2]

theorem VR.kids_agg {n : Nat} {ks : List AV} {cs : List Value} (h : VR X (.agg n ks) cs) : ∃ css : List (List Value), cs = css.flatten ∧ Kids X ks css ∧ css.flatten.length = n := by
  cases h with
  | agg n ks css hl hv hb hn => exact ⟨css, rfl, ⟨hl, hv, hb⟩, hn⟩
theorem VR.kids_arr {n e : Nat} {ks : List AV} {cs : List Value} (h : VR X (.arr n e ks) cs) : ∃ css : List (List Value), cs = css.flatten ∧ Kids X ks css ∧ css.flatten.length = n ∧ (∀ (i : Nat) (c : List Value), css[i]? = some c → c.length = e) := by
  cases h with
  | arr n e ks css hl hv he hb hn => exact ⟨css, rfl, ⟨hl, hv, hb⟩, hn, he⟩

theorem lens_flat {α : Type} {a b : List (List α)} (h : a.map List.length = b.map List.length) : a.flatten.length = b.flatten.length := by
  rw [List.length_flatten, List.length_flatten, h]
theorem lens_uni {α : Type} {a b : List (List α)} {e : Nat} (h : a.map List.length = b.map List.length) (hb : ∀ (i : Nat) (c : List α), b[i]? = some c → c.length = e) : ∀ (i : Nat) (c : List α), a[i]? = some c → c.length = e := by
  intro i c hc
  have h1 := congrArg (fun l => l[i]?) h
  simp only [List.getElem?_map, hc, Option.map_some] at h1
  cases hbi : b[i]? with
  | none => rw [hbi] at h1; simp at h1
  | some d => rw [hbi] at h1; simp at h1; rw [h1]; exact hb i d hbi

theorem build_sound (hE : Tys E P) {t : Nat} {parts : Array (Nat × Value)} {aparts : List (Nat × AV)} {v : AV} (hl : aparts.length = parts.toList.length)
    (hp : ∀ (i : Nat) (a : Nat × AV) (c : Nat × Value), aparts[i]? = some a → parts.toList[i]? = some c → a.1 = c.1 ∧ ((a.2.isUnd = false) → VT X a.2 c.2))
    (h : build E t aparts = some v) : ∃ cv, VT X v cv ∧ (Instr.build t parts).run P X.w = .ok cv X.w := by
  unfold build at h
  split at h
  · rename_i fs _ _ n ks _ hti
    have hti := hE _ _ hti
    obtain ⟨i, z, hi, hz, _, hzv⟩ := tyI_zero hti rfl
    obtain ⟨fl, hu, hos, hok⟩ := kind_struct hti rfl
    split at h
    · rename_i ks' hf
      simp at h; subst h
      obtain ⟨cs, rfl, hcs⟩ := (hzv X).agg rfl
      obtain ⟨css, hcss, hk, hn⟩ := hcs.kids_agg
      obtain ⟨css', r1, r2, r3⟩ := fill_sound aparts parts.toList hl hp hk hf
      refine ⟨.agg css'.flatten.toArray, VT.of_agg (.agg n ks' css' r2.hl r2.vr r2.hb ((lens_flat r3).trans hn)) rfl, run_build _ _ _ _ ?_⟩
      have hpm := places_map (P := P) fl.toList (fun f hf => (hok f hf).1)
      have hcsa : cs = css.flatten.toArray := by rw [← hcss]
      simp only [Program.built, hi, hu, hz, hpm]
      have hpl : (fun (i : Nat) => Option.map (fun (f : Nat × Nat × Bool × Nat) => (f.fst, f.snd.fst)) fs[i]?) = (fun (i : Nat) => (List.map (fun (f : Field) => (f.offset, szOf P f.type)) fl.toList).toArray[i]?) := by
        funext i
        rw [hos]
        simp
        rfl
      rw [← hpl]
      show Instr.fill _ cs parts.toList = _
      rw [hcsa]; exact r1
    · simp at h
  · rename_i e1 e2 esz g _ _ n e ks _ hti
    have hti := hE _ _ hti
    obtain ⟨i, z, hi, hz, _, hzv⟩ := tyI_zero hti rfl
    obtain ⟨ie, hu, hie, hsz, _⟩ := kind_array hti rfl
    split at h
    · rename_i ks' hf
      simp at h; subst h
      obtain ⟨cs, rfl, hcs⟩ := (hzv X).agg rfl
      obtain ⟨css, hcss, hk, hn, he⟩ := hcs.kids_arr
      obtain ⟨css', r1, r2, r3⟩ := fill_sound aparts parts.toList hl hp hk hf
      refine ⟨.agg css'.flatten.toArray, VT.of_agg (.arr n e ks' css' r2.hl r2.vr (lens_uni r3 he) r2.hb ((lens_flat r3).trans hn)) rfl, run_build _ _ _ _ ?_⟩
      have hcsa : cs = css.flatten.toArray := by rw [← hcss]
      simp only [Program.built, hi, hu, hz, hie]
      show Instr.fill _ cs parts.toList = _
      rw [hcsa, hsz]; exact r1
    · simp at h
  · simp at h

theorem buildSlice_sound (hE : Tys E P) (hs : Sim m X) {t n : Nat} {parts : Array (Nat × Value)} {aparts : List (Nat × AV)} {v : AV} (hl : aparts.length = parts.toList.length)
    (hp : ∀ (i : Nat) (a : Nat × AV) (c : Nat × Value), aparts[i]? = some a → parts.toList[i]? = some c → a.1 = c.1 ∧ ((a.2.isUnd = false) → VT X a.2 c.2))
    (h : buildSlice E t n aparts = some v) : ∃ cv Y, X.le Y ∧ Sim m Y ∧ VT Y v cv ∧ (Instr.buildSlice t n parts).run P X.w = .ok cv Y.w := by
  unfold buildSlice at h
  split at h
  · rename_i el esz eb _ _ _ _ hti
    obtain ⟨i, hu, hi, hsz, hbt⟩ := kind_slice (hE _ _ hti) rfl
    split at h
    · rename_i ti hte
      split at h
      · rename_i hc
        obtain ⟨hb, hz1, h0, hcap⟩ := hc
        split at h
        · rename_i ks' hf
          simp at h; subst h
          obtain ⟨i', z, hi', hz, _, hzv⟩ := tyI_zero (hE _ _ hte) hb
          rw [hi] at hi'; cases hi'
          subst hsz
          have hzsz : z.cells.size = i.size := by rw [← Array.length_toList, (hzv X).1.size, hz1]
          have hzl : z.cells.toList.length = i.size := by rw [Array.length_toList, hzsz]
          have hrs := (replicate_els (n := n) (hzv X).1 hb)
          rw [hzl] at hrs
          obtain ⟨css', r1, r2, r3⟩ := fill_sound aparts parts.toList hl hp ⟨hrs.hl, hrs.vr, hrs.hb⟩ hf
          have hels : Els X i.size ks' css' := ⟨r2.hl, r2.vr, lens_uni r3 hrs.he, r2.hb⟩
          have hcells : (Array.range (n * i.size)).map (z.cells[· % z.cells.size]!) = (List.replicate n z.cells.toList).flatten.toArray := by
            apply Array.ext'
            rw [← hzsz]
            exact range_zero_cells _ _ (by omega)
          have hn : ks'.length = n := by
            have := congrArg List.length r3
            simp only [List.length_map, List.length_replicate] at this
            rw [r2.hl]; exact this
          by_cases hn0 : n = 0
          · subst hn0
            have hk0 : ks' = [] := List.length_eq_zero_iff.1 hn
            subst hk0
            have hc0 : css' = [] := List.length_eq_zero_iff.1 r2.hl.symm
            subst hc0
            obtain ⟨hle, hsim⟩ := more_le hs (w0 := X.w) rfl rfl rfl rfl (cs := #[]) (T := el) (f := (0, 0)) (n := 0) (Nat.le_refl _)
            have hr1 : Instr.fill (fun i_1 => some (i_1 * i.size, i.size)) #[] parts.toList = some #[] := by simpa using r1
            refine ⟨.slice (some ⟨X.w.heap.size, 0, none⟩) 0 0, _, hle, hsim, ?_, ?_⟩
            · exact (Els.nil (X := X.more (X.w.alloc (.cells #[] el (0, 0))) 0) (e := i.size)).vsl (tok := .exact) (b := X.w.heap.size) (o := 0) (cap := 0) (by simp) (by simp) (Nat.le_refl _) rfl
            · simp [Instr.buildSlice, run_underlying hu, sizeOf, typeInfo, hi, hr1, newRow, Cx.more, Array.range_zero']
          · obtain ⟨hle, hsim⟩ := more_le hs (w0 := X.w) rfl rfl rfl rfl (cs := css'.flatten.toArray) (T := el) (f := (0, 0)) (n := css'.flatten.length) (by simp)
            have hpos : ¬ n * i.size = 0 := by
              intro hh
              rcases Nat.mul_eq_zero.1 hh with h1 | h1 <;> omega
            refine ⟨_, _, hle, hsim, ?_, run_buildSlice X.w t el n parts css'.flatten.toArray i z hu hi hz (by omega) hpos (by rw [hcells]; exact r1)⟩
            have key := (hels.mono hle).vsl (tok := .exact) (b := X.w.heap.size) (o := 0) (cap := n) ?_ ?_ (by omega) hn.symm
            · rw [hn] at key; exact key
            · intro k c hk
              rw [Nat.zero_add]
              show (X.w.alloc (.cells css'.flatten.toArray el (0, 0))).cell? ⟨X.w.heap.size, k, none⟩ = some c
              rw [cell_of_block (heap_alloc_new X.w _)]
              simpa using hk
            · intro k hk
              rw [Nat.zero_add]
              exact .inr ⟨rfl, hk⟩
        · simp at h
      · simp at h
    · simp at h
  · simp at h

end
end Go.AM

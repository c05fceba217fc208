/- A part of the abstract machine on which the proof of this claim stands: AMOps3 (definitions and lemmas alone; no statement of the claim; no condition). -/
import Derived.Test.YtjcblncfehfonaaGreatDoorAMOps2
namespace Go.AM
open Go Go.RowKit
section
variable {P : Program} {E : Env} {m : Mem} {X : Cx}

theorem field_sound (hE : Tys E P) {t f : Nat} {a v : AV} {ca : Value} (ha : VT X a ca) (h : field E t a f = some v) :
    ∃ x, (Instr.field t ca f).run P X.w = .ok x X.w ∧ VT X v x := by
  unfold field at h
  split at h
  · rename_i os _ _ _ _ hti
    obtain ⟨fs, hu, rfl, hz⟩ := kind_struct (hE _ _ hti) rfl
    split at h
    · rename_i o z g _ n ks ho
      simp only [List.getElem?_map, Option.map_eq_some_iff, Array.getElem?_toList, Prod.mk.injEq] at ho
      obtain ⟨fd, hfd, rfl, hz1, hg1, _⟩ := ho
      obtain ⟨hne, d, hd⟩ := hz fd (by
        have : fs.toList[f]? = some fd := by simpa using hfd
        exact mem_of_get this)
      obtain ⟨i, hi⟩ : ∃ i, P.info? fd.type = some i := by
        cases hh : P.info? fd.type with
        | none => simp [szOf, hh] at hne
        | some i => exact ⟨i, rfl⟩
      split at h
      · rename_i k hk
        split at h
        · rename_i hoff
          simp at h; subst h
          obtain ⟨cs, rfl, hv⟩ := ha.agg rfl
          generalize hcl : cs.toList = l at hv
          cases hv with
          | agg n' ks css hl h2 hbk hn =>
            obtain ⟨c, hcc⟩ := some_of_len hl hk
            have hvk := h2 f k c hk hcc
            have hpre := offs_eq ks css f hl h2 (by have := lt_of_some hk; omega)
            obtain ⟨x, hx, hvx⟩ := part_sound (X := X) hd hi hcl hcc hvk (o := fd.offset) (by rw [← hpre]; exact hoff.1)
              (by rw [hvk.size, hoff.2.1, ← hz1]; simp [szOf, hi]) (by rw [hoff.2.2, ← hg1]; simp [aggOf, hd]) (hbk k (mem_of_get hk))
            exact ⟨x, by simp [Instr.field, run_underlying hu, hfd, asAgg, hx], hvx⟩
        · simp at h
      · simp at h
    · simp at h
  · simp at h

theorem indexAddr_sound (hE : Tys E P) {t : Nat} {a i v : AV} {ca ci : Value} (ha : VT X a ca) (hi : VT X i ci) (h : indexAddr E t a i = some v) :
    ∃ x, (Instr.indexAt t ca ci).run P X.w = .ok x X.w ∧ VT X v x := by
  unfold indexAddr at h
  split at h
  · rename_i k n
    cases hi.int
    split at h
    · rename_i len e esz _ _ _ _ _ hti
      obtain ⟨ti, hu, hie, hsz, _⟩ := kind_array (hE _ _ hti) rfl
      split at h
      · rename_i hn
        have hrun : ∀ b o, (Instr.indexAt t (.pointer (some ⟨b, o, none⟩)) (.int k n)).run P X.w = .ok (.pointer (some ⟨b, o + n.toNat * esz, none⟩)) X.w := by
          intro b o
          simp [Instr.indexAt, run_underlying hu, Instr.sureAddr, asIntOf, hn, run_sizeOf' hie, hsz, add_none]
        split at h
        · simp at h; subst h
          obtain ⟨rfl, hst⟩ := ha.ref
          exact ⟨_, hrun _ _, VT.of_one (.ref _ _ _ _ hst) rfl rfl⟩
        · rename_i ks
          split at h
          · rename_i kk hk
            split at h
            · rename_i he
              simp at h; subst h
              obtain ⟨b, o, cs, rfl, hv, hb, hc, hi'⟩ := ha.vptr
              refine ⟨_, hrun _ _, VT.of_one ?_ rfl rfl⟩
              cases hv with
              | arr n' e' ks css hl h2 he2 hbk hn' =>
                obtain ⟨c, hcc⟩ := some_of_len hl hk
                have hpre := flat_uni _ css n.toNat he2 (by have := lt_of_some hcc; omega)
                rw [he] at hpre
                have hfl := flat_at hcc
                refine .vptr kk b (o + n.toNat * esz) c (h2 _ kk c hk hcc) (hbk kk (mem_of_get hk)) (fun j y hj => ?_) (fun j hj => ?_)
                · have := hc (n.toNat * esz + j) y (by
                    rw [hfl, List.append_assoc, List.getElem?_append_right (by omega), List.getElem?_append_left (by have := lt_of_some hj; omega)]
                    rw [← hpre]; simpa using hj)
                  rwa [Nat.add_assoc]
                · have := hi' (n.toNat * esz + j) (by rw [hfl]; simp only [List.length_append]; omega)
                  rwa [Nat.add_assoc]
            · simp at h
          · simp at h
        · simp at h
      · simp at h
    · rename_i e esz eb _ _ _ _ hti
      obtain ⟨ti, hu, hie, hsz, _⟩ := kind_slice (hE _ _ hti) rfl
      have hrun : ∀ (b o len cap : Nat), 0 ≤ n → n < (len : Int) → (Instr.indexAt t (.slice (some ⟨b, o, none⟩) len cap) (.int k n)).run P X.w = .ok (.pointer (some ⟨b, o + n.toNat * esz, none⟩)) X.w := by
        intro b o len cap h0 h1
        simp [Instr.indexAt, run_underlying hu, asIntOf, h0, h1, run_sizeOf' hie, hsz, add_none]
      split at h
      · rename_i e' es tok
        split at h
        · rename_i hc
          obtain ⟨h0, rfl⟩ := hc
          split at h
          · rename_i kk hk
            simp at h; subst h
            obtain ⟨b, o, cap, css, rfl, hl, h1, h2, h3, h4, h5, h6, h7⟩ := ha.vsl
            have hlt := lt_of_some hk
            refine ⟨_, hrun _ _ _ _ h0 (by omega), VT.of_one ?_ rfl rfl⟩
            obtain ⟨c, hcc⟩ := some_of_len hl hk
            have hpre := flat_uni _ css n.toNat h2 (by omega)
            have hfl := flat_at hcc
            refine .vptr kk b (o + n.toNat * e') c (h1 _ kk c hk hcc) (h3 kk (mem_of_get hk)) (fun j y hj => ?_) (fun j hj => ?_)
            · have := h4 (n.toNat * e' + j) y (by
                rw [hfl, List.append_assoc, List.getElem?_append_right (by omega), List.getElem?_append_left (by have := lt_of_some hj; omega)]
                rw [← hpre]; simpa using hj)
              rwa [Nat.add_assoc]
            · have := h5 (n.toNat * e' + j) (by rw [hfl]; simp only [List.length_append]; omega)
              rwa [Nat.add_assoc]
          · simp at h
        · simp at h
      · rename_i e' l st p off lo len
        split at h
        · rename_i hc
          obtain ⟨h0, h1, rfl⟩ := hc
          simp at h; subst h
          obtain ⟨b, o, cap, rfl, hst, hcap, hor⟩ := ha.sref
          refine ⟨_, hrun _ _ _ _ h0 h1, VT.of_one ?_ rfl rfl⟩
          rcases hor with rfl | ⟨rfl, rfl⟩
          · omega
          · have : off + lo * e' + n.toNat * e' = off + (lo + n.toNat) * e' := by rw [Nat.add_mul]; omega
            rw [this]
            exact .ref _ _ _ _ hst
        · simp at h
      · simp at h
    · simp at h
  · simp at h

theorem index_sound (hE : Tys E P) {t : Nat} {a i v : AV} {ca ci : Value} (ha : VT X a ca) (hi : VT X i ci) (h : index E t a i = some v) :
    ∃ x, (Instr.index t ca ci).run P X.w = .ok x X.w ∧ VT X v x := by
  unfold index at h
  split at h
  · rename_i k n
    cases hi.int
    split at h
    · rename_i s
      cases ha.str
      split at h
      · rename_i hti
        have hu := kind_str (hE _ _ hti) rfl
        split at h
        · rename_i hn
          split at h
          · rename_i b hb
            simp at h; subst h
            refine ⟨.int .u8 b.toNat, ?_, VT.of_one (.int _ _) rfl rfl⟩
            simp [Instr.index, asIntOf, run_underlying hu, hn, hb]
          · simp at h
        · simp at h
      · simp at h
    · rename_i n' e ks
      split at h
      · rename_i len e' esz g _ _ _ _ hti
        obtain ⟨ti, hu, hie, hsz, d, hd, hg⟩ := kind_array (hE _ _ hti) rfl
        split at h
        · rename_i hn
          split at h
          · rename_i kk hk
            split at h
            · rename_i hag
              simp at h; subst h
              obtain ⟨cs, rfl, hv⟩ := ha.agg rfl
              generalize hcl : cs.toList = l at hv
              cases hv with
              | arr n2 e2 ks css hl h2 he2 hbk hn2 =>
                obtain ⟨c, hcc⟩ := some_of_len hl hk
                have hvk := h2 _ kk c hk hcc
                have hpre := flat_uni _ css n.toNat he2 (by have := lt_of_some hcc; omega)
                obtain ⟨x, hx, hvx⟩ := part_sound (X := X) hd hie hcl hcc hvk (o := n.toNat * esz) (by rw [hpre, hn.2.2])
                  (by rw [he2 _ c hcc, hn.2.2, hsz]) (by rw [hag, hg]) (hbk kk (mem_of_get hk))
                refine ⟨x, ?_, hvx⟩
                simp [Instr.index, asIntOf, run_underlying hu, hn.1, hn.2.1, run_sizeOf' hie, hsz, hx]
            · simp at h
          · simp at h
        · simp at h
      · simp at h
    · simp at h
  · simp at h

end
end Go.AM

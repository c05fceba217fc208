/- A part of the abstract machine on which the proof of this claim stands: AMOps2 (definitions and lemmas alone; no statement of the claim; no condition). -/
import Derived.Test.YtjcblncfehfonaaGreatDoorAMOps
namespace Go.AM
open Go Go.RowKit
section
variable {P : Program} {E : Env} {m : Mem} {X : Cx}

theorem kind_struct {t : Nat} {ti : TyI} {os : List (Nat × Nat × Bool × Nat)} (h : tyI P t = some ti) (hk : ti.kind = .struct os) :
    ∃ fs : Array Field, P.underlying t = some (.struct fs) ∧ os = (fs.toList.map fun f => (f.offset, szOf P f.type, aggOf P f.type, f.type)) ∧
      (∀ f ∈ fs.toList, szOf P f.type ≠ 0 ∧ ∃ d, P.underlying f.type = some d) := by
  obtain ⟨i, d, h1, h2, _, _, h5⟩ := tyI_info h
  rw [hk] at h5
  unfold kindOf at h5
  (repeat' split at h5) <;> (try (cases h5; done))
  rename_i fs hf
  simp only [Option.some.injEq, TK.struct.injEq] at h5
  refine ⟨_, h2, h5.symm, fun f hm => ?_⟩
  have := List.all_eq_true.1 hf f hm
  simp only [Bool.and_eq_true, bne_iff_ne] at this
  exact ⟨this.1, Option.isSome_iff_exists.1 this.2⟩
theorem kind_array {t : Nat} {ti : TyI} {n e sz : Nat} {g : Bool} (h : tyI P t = some ti) (hk : ti.kind = .array n e sz g) :
    ∃ i, P.underlying t = some (.array n e) ∧ P.info? e = some i ∧ i.size = sz ∧ ∃ d, P.underlying e = some d ∧ aggD d = g := by
  obtain ⟨i, d, h1, h2, _, _, h5⟩ := tyI_info h
  rw [hk] at h5
  unfold kindOf at h5
  (repeat' split at h5) <;> (try (cases h5; done))
  simp only [Option.some.injEq, TK.array.injEq] at h5
  obtain ⟨rfl, rfl, rfl, rfl⟩ := h5
  exact ⟨_, h2, by assumption, rfl, _, by assumption, rfl⟩
theorem kind_slice {t : Nat} {ti : TyI} {e sz eb : Nat} (h : tyI P t = some ti) (hk : ti.kind = .slice e sz eb) :
    ∃ i, P.underlying t = some (.slice e) ∧ P.info? e = some i ∧ i.size = sz ∧ i.bytes = eb := by
  obtain ⟨i, d, h1, h2, _, _, h5⟩ := tyI_info h
  rw [hk] at h5
  unfold kindOf at h5
  (repeat' split at h5) <;> (try (cases h5; done))
  simp only [Option.some.injEq, TK.slice.injEq] at h5
  obtain ⟨rfl, rfl, rfl⟩ := h5
  exact ⟨_, h2, by assumption, rfl, rfl⟩
theorem kind_map {t : Nat} {ti : TyI} {k e : Nat} (h : tyI P t = some ti) (hk : ti.kind = .map k e) : P.underlying t = some (.map k e) := by
  obtain ⟨i, d, h1, h2, _, _, h5⟩ := tyI_info h
  rw [hk] at h5
  unfold kindOf at h5
  (repeat' split at h5) <;> (try (cases h5; done))
  simp only [Option.some.injEq, TK.map.injEq] at h5
  obtain ⟨rfl, rfl⟩ := h5
  exact h2
theorem kind_ptr {t : Nat} {ti : TyI} {e : Nat} (h : tyI P t = some ti) (hk : ti.kind = .ptr e) : P.underlying t = some (.pointer e) := by
  obtain ⟨i, d, h1, h2, _, _, h5⟩ := tyI_info h
  rw [hk] at h5
  unfold kindOf at h5
  (repeat' split at h5) <;> (try (cases h5; done))
  simp only [Option.some.injEq, TK.ptr.injEq] at h5
  subst h5
  exact h2
theorem kind_int {t : Nat} {ti : TyI} {k : IntKind} (h : tyI P t = some ti) (hk : ti.kind = .int k) : P.underlying t = some (.int k) := by
  obtain ⟨i, d, h1, h2, _, _, h5⟩ := tyI_info h
  rw [hk] at h5
  unfold kindOf at h5
  (repeat' split at h5) <;> (try (cases h5; done))
  simp only [Option.some.injEq, TK.int.injEq] at h5
  subst h5
  exact h2
theorem kind_str {t : Nat} {ti : TyI} (h : tyI P t = some ti) (hk : ti.kind = .str) : P.underlying t = some .string := by
  obtain ⟨i, d, h1, h2, _, _, h5⟩ := tyI_info h
  rw [hk] at h5
  unfold kindOf at h5
  (repeat' split at h5) <;> (try (cases h5; done))
  exact h2
theorem kind_any {t : Nat} {ti : TyI} (h : tyI P t = some ti) : ∃ d, P.underlying t = some d := by
  obtain ⟨i, d, _, h2, _⟩ := tyI_info h
  exact ⟨d, h2⟩

theorem run_sizeOf' {t : Nat} {i : TypeInfo} (h : P.info? t = some i) (w : World) : (sizeOf t).run P w = .ok i.size w := by
  simp [sizeOf, typeInfo, h]
theorem run_isAgg' {t : Nat} {d : TypeDesc} (h : P.underlying t = some d) (w : World) : (isAgg t).run P w = .ok (aggD d) w := by
  unfold isAgg
  rw [Sem.run_bind, run_underlying h]
  cases d <;> rfl

theorem fieldAddr_sound (hE : Tys E P) {t f : Nat} {a v : AV} {ca : Value} (ha : VT X a ca) (h : fieldAddr E t a f = some v) :
    ∃ x, (Instr.fieldAt t ca f).run P X.w = .ok x X.w ∧ VT X v x := by
  unfold fieldAddr at h
  split at h
  · rename_i os _ _ _ _ hti
    obtain ⟨fs, hu, rfl, hz⟩ := kind_struct (hE _ _ hti) rfl
    split at h
    · simp at h
    · rename_i o _ ho
      simp only [List.getElem?_map, Option.map_eq_some_iff, Array.getElem?_toList, Prod.mk.injEq] at ho
      obtain ⟨fd, hfd, rfl, _⟩ := ho
      obtain ⟨hne, _⟩ := hz fd (by
        have : fs.toList[f]? = some fd := by simpa using hfd
        exact mem_of_get this)
      obtain ⟨i, hi⟩ : ∃ i, P.info? fd.type = some i := by
        cases hh : P.info? fd.type with
        | none => simp [szOf, hh] at hne
        | some i => exact ⟨i, rfl⟩
      have hne' : i.size ≠ 0 := by simpa [szOf, hi] using hne
      have hrun : ∀ b o, (Instr.fieldAt t (.pointer (some ⟨b, o, none⟩)) f).run P X.w = .ok (.pointer (some ⟨b, o + fd.offset, none⟩)) X.w := by
        intro b o
        simp [Instr.fieldAt, run_underlying hu, hfd, Instr.sureAddr, fieldPlace, run_sizeOf' hi, hne', add_none]
      split at h
      · simp at h; subst h
        obtain ⟨rfl, hst⟩ := ha.ref
        refine ⟨_, hrun _ _, VT.of_one ?_ rfl rfl⟩
        exact .ref _ _ _ _ hst
      · rename_i ks
        split at h
        · rename_i k hk
          split at h
          · rename_i hoff
            simp at h; subst h
            obtain ⟨b, o, cs, rfl, hv, hb, hc, hi'⟩ := ha.vptr
            refine ⟨_, hrun _ _, VT.of_one ?_ rfl rfl⟩
            cases hv with
            | agg n ks css hl h2 hbk hn =>
              obtain ⟨c, hcc⟩ := some_of_len hl hk
              have hpre := offs_eq ks css f hl h2 (by have := lt_of_some hk; omega)
              rw [hoff] at hpre
              have hfl := flat_at hcc
              refine .vptr k b (o + fd.offset) c (h2 f k c hk hcc) (hbk k (mem_of_get hk)) (fun j y hj => ?_) (fun j hj => ?_)
              · have := hc (fd.offset + j) y (by
                  rw [hfl, List.append_assoc, List.getElem?_append_right (by omega), List.getElem?_append_left (by have := lt_of_some hj; omega)]
                  rw [← hpre]; simpa using hj)
                rwa [Nat.add_assoc]
              · have := hi' (fd.offset + j) (by rw [hfl]; simp only [List.length_append]; omega)
                rwa [Nat.add_assoc]
          · simp at h
        · simp at h
      · simp at h
  · simp at h

theorem part_sound {t : Nat} {d : TypeDesc} {i : TypeInfo} (hd : P.underlying t = some d) (hi : P.info? t = some i) {css : List (List Value)} {cs : Array Value} {f o : Nat} {k : AV} {c : List Value}
    (hcs : cs.toList = css.flatten) (hc : css[f]? = some c) (hv : VR X k c) (ho : (css.take f).flatten.length = o) (hsz : c.length = i.size) (hag : k.isAgg = aggD d) (hb : k.bad = false) :
    ∃ x, (part t cs o).run P X.w = .ok x X.w ∧ VT X k x := by
  have hfl := flat_at hc
  have hlen : cs.size = o + c.length + (css.drop (f + 1)).flatten.length := by
    rw [← Array.length_toList, hcs, hfl]; simp only [List.length_append, ho]
  unfold part
  rw [Sem.run_bind, run_isAgg' hd, Result.andThen_ok]
  cases hh : aggD d with
  | true =>
    rw [hh] at hag
    simp only [if_true]
    rw [Sem.run_bind, run_sizeOf' hi, Result.andThen_ok]
    refine ⟨_, rfl, ?_⟩
    have : (cs.extract o (o + i.size)).toList = c := by
      rw [Array.toList_extract, hcs, hfl, List.extract_eq_take_drop]
      rw [List.append_assoc, ← ho, List.drop_left]
      simp [hsz]
    refine ⟨?_, ?_⟩
    · show VR X k (cs.extract o (o + i.size)).toList
      rw [this]; exact hv
    · rw [hag]; rfl
  | false =>
    rw [hh] at hag
    simp only [Bool.false_eq_true, if_false]
    have h1 : c.length = 1 := by
      rw [hv.size]; cases k <;> simp_all [AV.size, AV.isAgg]
    obtain ⟨y, rfl⟩ := List.length_eq_one_iff.1 h1
    have hy : cs[o]? = some y := by
      rw [← Array.getElem?_toList, hcs, hfl, List.append_assoc, List.getElem?_append_right (by omega), ho]
      simp
    rw [hy]
    refine ⟨y, rfl, VT.of_one hv hag ?_⟩
    have := hv.one hb y (by simp)
    cases y <;> simp_all [isAggV, Value.oneCell']

end
end Go.AM

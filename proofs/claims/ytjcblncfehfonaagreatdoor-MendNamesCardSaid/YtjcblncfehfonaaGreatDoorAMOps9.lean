/- A part of the abstract machine on which the proof of this claim stands: AMOps9 (definitions and lemmas alone; no statement of the claim; no condition). -/
import Derived.Test.YtjcblncfehfonaaGreatDoorAMOps8
namespace Go.AM
open Go Go.RowKit
section
variable {P : Program} {E : Env} {m : Mem} {X : Cx}

/-- what is taken from, run -/
structure Src (P : Program) (X : Cx) (t2 : Nat) (size : Nat) (cx : Value) (xs : List AV) (css : List (List Value)) : Prop where
  ty : (∃ e', P.underlying t2 = some (.slice e')) ∨ P.underlying t2 = some .string
  len : ∀ w, (Builtin.lenOf cx).run P w = .ok xs.length w
  cells : ∀ n, n ≤ xs.length → ∀ w : World, w.heap = X.w.heap → (Builtin.firstCells size n cx).run P w = .ok ((css.take n).flatten).toArray w
  hl : xs.length = css.length
  vr : ∀ (i : Nat) (a : AV) (c : List Value), xs[i]? = some a → css[i]? = some c → VR X a c
  he : ∀ (i : Nat) (c : List Value), css[i]? = some c → c.length = size
  hb : ∀ a ∈ xs, a.bad = false

theorem cell_heap {w w' : World} (h : w'.heap = w.heap) (a : Addr) : w'.cell? a = w.cell? a := by simp [World.cell?, h]

theorem flat_take_lt {α : Type} {css : List (List α)} {n : Nat} (i : Nat) (c : α) (h : ((css.take n).flatten)[i]? = some c) : css.flatten[i]? = some c := by
  have h1 : css.flatten = (css.take n).flatten ++ (css.drop n).flatten := by rw [← List.flatten_append, List.take_append_drop]
  rw [h1, List.getElem?_append_left (lt_of_some h)]; exact h

theorem source_sound (hE : Tys E P) (hs : Sim m X) {t2 esz : Nat} {x : AV} {xs : List AV} {cx : Value} (hx : VT X x cx) (h : source E m t2 esz x = some xs) : ∃ css, Src P X t2 esz cx xs css := by
  unfold source at h
  split at h
  · rename_i hti
    have hu := kind_str (hE _ _ hti) rfl
    split at h
    · rename_i b
      cases hx.str
      split at h
      · rename_i he
        subst he
        simp at h; subst h
        have hbl : (bytesAV b).length = b.size := by rw [bytesAV, List.length_map, Array.length_toList]; rfl
        refine ⟨b.data.toList.map fun x => [Value.int .u8 x.toNat], (.inr hu), ?_, ?_, by simp [bytesAV], ?_, ?_, ?_⟩
        · intro w; rw [hbl]; rfl
        · intro n hn w _
          have : ∀ l : List UInt8, (l.map fun x => [Value.int .u8 x.toNat]).flatten = l.map fun x => Value.int .u8 x.toNat := by
            intro l; induction l with
            | nil => rfl
            | cons a l ih => simp [ih]
          rw [← List.map_take, this]
          simp [Builtin.firstCells]
          apply Array.ext'
          simp [Array.toList_extract]
        · intro i a c ha hc
          simp only [bytesAV, List.getElem?_map, Option.map_eq_some_iff] at ha hc
          obtain ⟨x, hx, rfl⟩ := ha
          obtain ⟨x', hx', rfl⟩ := hc
          rw [hx] at hx'; cases hx'
          exact .int _ _
        · intro i c hc
          simp only [List.getElem?_map, Option.map_eq_some_iff] at hc
          obtain ⟨x', hx', rfl⟩ := hc
          rfl
        · intro a ha
          simp only [bytesAV, List.mem_map] at ha
          obtain ⟨x, _, rfl⟩ := ha
          rfl
      · simp at h
    · simp at h
  · rename_i hti
    obtain ⟨i, hu, hi, _, _⟩ := kind_slice (hE _ _ hti) rfl
    split at h
    · cases hx.nils
      simp at h; subst h
      exact ⟨[], (.inl ⟨_, hu⟩), fun w => rfl, fun n hn w _ => by simp [Builtin.firstCells], rfl, by simp, by simp, by simp⟩
    · split at h
      · rename_i e ys hes
        split at h
        · rename_i he
          subst he
          simp at h; subst h
          obtain ⟨b, o, cap, css, rfl, h0, h1, h2, h3, h4, h5⟩ := elems_sound hs hx hes
          refine ⟨css, (.inl ⟨_, hu⟩), fun w => rfl, ?_, h0, h1, h2, h3⟩
          intro n hn w hw
          have hl : ((css.take n).flatten).length = n * e := flat_uni _ css n h2 (by omega)
          have := run_firstCells_some (P := P) w e n ⟨b, o, none⟩ ys.length cap ((css.take n).flatten) hl
            (fun j v hj => by rw [add_none, cell_heap hw]; exact h4 j v (flat_take_lt _ _ hj))
          exact this
        · simp at h
      · simp at h
  · simp at h

end
end Go.AM

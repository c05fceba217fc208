/- A part of the abstract machine on which the proof of this claim stands: AMRel2 (definitions and lemmas alone; no statement of the claim; no condition). -/
import Derived.Test.YtjcblncfehfonaaGreatDoorAMRel
namespace Go.AM
open Go Go.RowKit

theorem lt_of_some {α : Type} {l : List α} {i : Nat} {a : α} (h : l[i]? = some a) : i < l.length := by
  rcases Nat.lt_or_ge i l.length with h' | h'
  · exact h'
  · simp [List.getElem?_eq_none h'] at h

theorem flat_at {α : Type} {css : List (List α)} {i : Nat} {c : List α} (h : css[i]? = some c) :
    css.flatten = (css.take i).flatten ++ c ++ (css.drop (i + 1)).flatten := by
  have hlt := lt_of_some h
  have hc : css[i] = c := by rw [List.getElem?_eq_getElem hlt] at h; exact Option.some.inj h
  conv => lhs; rw [← List.take_append_drop i css, List.flatten_append, List.drop_eq_getElem_cons hlt, List.flatten_cons, hc]
  rw [List.append_assoc]

theorem flat_set {α : Type} {css : List (List α)} {i : Nat} {c : List α} (hlt : i < css.length) :
    (css.set i c).flatten = (css.take i).flatten ++ c ++ (css.drop (i + 1)).flatten := by
  rw [flat_at (css := css.set i c) (i := i) (c := c) (by simp [hlt]), List.take_set_of_le (Nat.le_refl _), List.drop_set_of_lt (by omega)]

theorem flat_uni {α : Type} (e : Nat) : ∀ (css : List (List α)) (i : Nat), (∀ (j : Nat) (c : List α), css[j]? = some c → c.length = e) → i ≤ css.length → (css.take i).flatten.length = i * e
  | _, 0, _, _ => by simp
  | [], i + 1, _, h => by simp at h
  | c :: css, i + 1, he, h => by
    have h0 := he 0 c rfl
    have ih := flat_uni e css i (fun j c hj => he (j + 1) c (by simpa using hj)) (by simpa using h)
    simp only [List.take_succ_cons, List.flatten_cons, List.length_append, h0, ih]
    rw [Nat.succ_mul]; omega

theorem offs_eq {X : Cx} : ∀ (ks : List AV) (css : List (List Value)) (i : Nat), ks.length = css.length →
    (∀ (i : Nat) (a : AV) (c : List Value), ks[i]? = some a → css[i]? = some c → VR X a c) → i ≤ ks.length → AV.offs ks i = (css.take i).flatten.length
  | _, _, 0, _, _, _ => by simp [AV.offs]
  | [], _, i + 1, _, _, h => by simp at h
  | k :: ks, [], i + 1, hl, _, _ => by simp at hl
  | k :: ks, c :: css, i + 1, hl, h, hi => by
    have h0 := (h 0 k c rfl rfl).size
    have ih := offs_eq ks css i (by simpa using hl) (fun j a c ha hc => h (j + 1) a c (by simpa using ha) (by simpa using hc)) (by simpa using hi)
    simp only [AV.offs, List.take_succ_cons, List.flatten_cons, List.length_append, ih, h0]

theorem some_of_len {α β : Type} {l : List α} {m : List β} (hl : l.length = m.length) {i : Nat} {a : α} (h : l[i]? = some a) : ∃ c, m[i]? = some c := by
  have := lt_of_some h
  exact ⟨m[i]'(by omega), List.getElem?_eq_getElem _⟩

theorem mem_of_get {α : Type} {l : List α} {i : Nat} {a : α} (h : l[i]? = some a) : a ∈ l := List.mem_iff_getElem?.2 ⟨i, h⟩

theorem set_get {α : Type} {l : List α} {i j : Nat} {x a : α} (h : (l.set i x)[j]? = some a) : (i = j ∧ a = x) ∨ (i ≠ j ∧ l[j]? = some a) := by
  by_cases hij : i = j
  · subst hij
    have := lt_of_some h
    rw [List.getElem?_set_self (by simpa using this)] at h
    exact .inl ⟨rfl, (Option.some.inj h).symm⟩
  · rw [List.getElem?_set_ne hij] at h
    exact .inr ⟨hij, h⟩

/-- the part at a path: its cells stand where they should, and may be exchanged -/
theorem resolve_sound {X : Cx} : ∀ (p : List Nat) {v : AV} {cs : List Value} {u : AV} {o : Nat}, VR X v cs → v.resolve p = some (u, o) →
    ∃ pre cu post, cs = pre ++ cu ++ post ∧ pre.length = o ∧ VR X u cu ∧ (v.bad = false → u.bad = false) ∧
      ∀ x cx, VR X x cx → x.bad = false → cx.length = cu.length → VR X (v.put p x) (pre ++ cx ++ post) ∧ (v.put p x).bad = false := by
  intro p
  induction p with
  | nil =>
    intro v cs u o hv hr
    have hr' : v.resolve [] = some (v, 0) := by cases v <;> rfl
    rw [hr'] at hr
    simp only [Option.some.injEq, Prod.mk.injEq] at hr
    obtain ⟨rfl, rfl⟩ := hr
    refine ⟨[], cs, [], by simp, rfl, hv, id, fun x cx hx hb _ => ?_⟩
    have : v.put [] x = x := by cases v <;> rfl
    rw [this]
    exact ⟨by simpa using hx, hb⟩
  | cons i p ih =>
    intro v cs u o hv hr
    cases hv with
    | agg n ks css hl h hb hn =>
      simp only [AV.resolve] at hr
      split at hr
      · rename_i k hk
        split at hr
        · rename_i u' o' hu
          simp only [Option.some.injEq, Prod.mk.injEq] at hr
          obtain ⟨rfl, rfl⟩ := hr
          obtain ⟨c, hc⟩ := some_of_len hl hk
          have hik := lt_of_some hk
          obtain ⟨pre, cu, post, e1, e2, hvu, hbu, hput⟩ := ih (h i k c hk hc) hu
          refine ⟨(css.take i).flatten ++ pre, cu, post ++ (css.drop (i + 1)).flatten, ?_, ?_, hvu, fun _ => hbu (hb k (mem_of_get hk)), fun x cx hx hbx hlx => ?_⟩
          · rw [flat_at hc, e1]; simp [List.append_assoc]
          · rw [List.length_append, e2, offs_eq ks css i hl h (by omega)]
          · obtain ⟨h1, h2⟩ := hput x cx hx hbx hlx
            have hlen : (pre ++ cx ++ post).length = c.length := by rw [e1]; simp [hlx]
            simp only [AV.put, hk]
            refine ⟨?_, rfl⟩
            have hic : i < css.length := by omega
            have e3 : css.flatten.length = (css.take i).flatten.length + c.length + (css.drop (i + 1)).flatten.length := by
              conv => lhs; rw [flat_at hc]
              simp only [List.length_append]
            have := VR.agg (X := X) n (ks.set i (k.put p x)) (css.set i (pre ++ cx ++ post)) (by simp [hl])
              (fun j a c' ha hc' => by
                rcases set_get ha with ⟨e, rfl⟩ | ⟨e, ha⟩ <;> rcases set_get hc' with ⟨e', rfl⟩ | ⟨e', hc'⟩
                · exact h1
                · exact absurd e e'
                · exact absurd e' e
                · exact h j a c' ha hc')
              (fun a ha => by
                rcases List.mem_or_eq_of_mem_set ha with h | h
                · exact hb a h
                · subst h; exact h2)
              (by rw [flat_set hic, ← hn, e3]; simp only [List.length_append] at hlen ⊢; omega)
            rw [flat_set hic] at this
            simpa [List.append_assoc] using this
        · simp at hr
      · simp at hr
    | arr n e ks css hl h he hb hn =>
      simp only [AV.resolve] at hr
      split at hr
      · rename_i k hk
        split at hr
        · rename_i u' o' hu
          simp only [Option.some.injEq, Prod.mk.injEq] at hr
          obtain ⟨rfl, rfl⟩ := hr
          obtain ⟨c, hc⟩ := some_of_len hl hk
          have hik := lt_of_some hk
          obtain ⟨pre, cu, post, e1, e2, hvu, hbu, hput⟩ := ih (h i k c hk hc) hu
          refine ⟨(css.take i).flatten ++ pre, cu, post ++ (css.drop (i + 1)).flatten, ?_, ?_, hvu, fun _ => hbu (hb k (mem_of_get hk)), fun x cx hx hbx hlx => ?_⟩
          · rw [flat_at hc, e1]; simp [List.append_assoc]
          · rw [List.length_append, e2, flat_uni e css i he (by omega)]
          · obtain ⟨h1, h2⟩ := hput x cx hx hbx hlx
            have hlen : (pre ++ cx ++ post).length = c.length := by rw [e1]; simp [hlx]
            simp only [AV.put, hk]
            refine ⟨?_, rfl⟩
            have hic : i < css.length := by omega
            have e3 : css.flatten.length = (css.take i).flatten.length + c.length + (css.drop (i + 1)).flatten.length := by
              conv => lhs; rw [flat_at hc]
              simp only [List.length_append]
            have := VR.arr (X := X) n e (ks.set i (k.put p x)) (css.set i (pre ++ cx ++ post)) (by simp [hl])
              (fun j a c' ha hc' => by
                rcases set_get ha with ⟨e, rfl⟩ | ⟨e, ha⟩ <;> rcases set_get hc' with ⟨e', rfl⟩ | ⟨e', hc'⟩
                · exact h1
                · exact absurd e e'
                · exact absurd e' e
                · exact h j a c' ha hc')
              (fun j c' hc' => by
                rcases set_get hc' with ⟨e', rfl⟩ | ⟨e', hc'⟩
                · rw [hlen]; exact he i c hc
                · exact he j c' hc')
              (fun a ha => by
                rcases List.mem_or_eq_of_mem_set ha with h | h
                · exact hb a h
                · subst h; exact h2)
              (by rw [flat_set hic, ← hn, e3]; simp only [List.length_append] at hlen ⊢; omega)
            rw [flat_set hic] at this
            simpa [List.append_assoc] using this
        · simp at hr
      · simp at hr
    | _ => simp [AV.resolve] at hr

end Go.AM

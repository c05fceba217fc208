/- A part of the abstract machine on which the proof of this claim stands: AMOps4 (definitions and lemmas alone; no statement of the claim; no condition). -/
import Derived.Test.YtjcblncfehfonaaGreatDoorAMOps3
namespace Go.AM
open Go Go.RowKit
section
variable {P : Program} {E : Env} {m : Mem} {X : Cx}

theorem flat_sub {α : Type} {css : List (List α)} {e l k : Nat} (he : ∀ (j : Nat) (c : List α), css[j]? = some c → c.length = e) (hl : l ≤ css.length) :
    ∀ i c, ((css.drop l).take k).flatten[i]? = some c → css.flatten[l * e + i]? = some c := by
  intro i c h
  have h1 : css.flatten = (css.take l).flatten ++ ((css.drop l).take k).flatten ++ ((css.drop l).drop k).flatten := by
    rw [List.append_assoc, ← List.flatten_append, List.take_append_drop, ← List.flatten_append, List.take_append_drop]
  have h2 := flat_uni e css l he hl
  rw [h1, List.append_assoc, List.getElem?_append_right (by omega), List.getElem?_append_left (by have := lt_of_some h; omega)]
  rw [h2, Nat.add_sub_cancel_left]; exact h

theorem flat_sub_lt {α : Type} {css : List (List α)} {e l k : Nat} (he : ∀ (j : Nat) (c : List α), css[j]? = some c → c.length = e) (hl : l ≤ css.length) :
    ∀ i, i < ((css.drop l).take k).flatten.length → l * e + i < css.flatten.length := by
  intro i h
  have := flat_sub (k := k) he hl i _ (List.getElem?_eq_getElem h)
  exact lt_of_some this

/-- a slice of a value slice is a value slice -/
theorem vsl_sub {e : Nat} {es : List AV} {b o : Nat} {css : List (List Value)} (hl : es.length = css.length)
    (h : ∀ (i : Nat) (a : AV) (c : List Value), es[i]? = some a → css[i]? = some c → VR X a c)
    (he : ∀ (i : Nat) (c : List Value), css[i]? = some c → c.length = e) (hb : ∀ a ∈ es, a.bad = false)
    (hc : ∀ i c, css.flatten[i]? = some c → X.cell b (o + i) = some c) (hi : ∀ i, i < css.flatten.length → X.imm b (o + i))
    {l k cap : Nat} {tok : Tok} (hlk : l + k ≤ es.length) (hcap : k ≤ cap) (ht : TokOK X tok b (o + l * e) k cap e) :
    VR X (.vsl e ((es.drop l).take k) tok) [.slice (some ⟨b, o + l * e, none⟩) k cap] := by
  have hlen : ((es.drop l).take k).length = k := by simp; omega
  have key := VR.vsl (X := X) e ((es.drop l).take k) tok b (o + l * e) cap ((css.drop l).take k) (by simp [hl])
    (fun i a c ha hc' => by
      rw [List.getElem?_take] at ha hc'
      split at ha
      · rename_i hik
        rw [if_pos hik, List.getElem?_drop] at hc'
        rw [List.getElem?_drop] at ha
        exact h _ a c ha hc'
      · simp at ha)
    (fun i c hc' => by
      rw [List.getElem?_take] at hc'
      split at hc'
      · rw [List.getElem?_drop] at hc'
        exact he _ c hc'
      · simp at hc')
    (fun a ha => hb a (List.mem_of_mem_drop (List.mem_of_mem_take ha)))
    (fun i c hc' => by
      have := hc (l * e + i) c (flat_sub he (by omega) i c hc')
      rwa [Nat.add_assoc])
    (fun i hi' => by
      have := hi (l * e + i) (flat_sub_lt he (by omega) i hi')
      rwa [Nat.add_assoc])
    (by rw [hlen]; exact hcap) (by rw [hlen]; exact ht)
  rw [hlen] at key
  exact key

theorem vsl_nil {e : Nat} {b o cap : Nat} {tok : Tok} (ht : TokOK X tok b o 0 cap e) : VR X (.vsl e [] tok) [.slice (some ⟨b, o, none⟩) 0 cap] :=
  VR.vsl (X := X) e [] tok b o cap [] rfl (by simp) (by simp) (by simp) (by simp) (by simp) (Nat.zero_le _) ht

theorem natOf_some {X : Cx} {y n : Nat} {x : AV} {cx : Value} (hx : VT X x cx) (h : natOf y x = some n) : ∃ k, cx = .int k (n : Int) ∧ n ≤ y := by
  unfold natOf at h
  split at h
  · rename_i k z
    cases hx.int
    split at h
    · rename_i hc
      simp at h; subst h
      exact ⟨k, by congr; omega, by omega⟩
    · simp at h
  · simp at h

theorem run_sliceBound {k : IntKind} {n y : Nat} (code : BoundsCode) (h : n ≤ y) (w : World) : (Instr.sliceBound (.int k (n : Int)) y code).run P w = .ok n w := by
  simp [Instr.sliceBound, asIntOf, h]

/-- an operand that may be missing, and its bound -/
def OptV (X : Cx) (o : Option AV) (c : Option Value) : Prop :=
  match o, c with
  | none, none => True
  | some v, some x => VT X v x
  | _, _ => False

theorem optNat_some {X : Cx} {y d n : Nat} {o : Option AV} {c : Option Value} (hv : OptV X o c) (h : optNat y d o = some n) :
    (c = none ∧ n = d) ∨ (∃ k, c = some (.int k (n : Int)) ∧ n ≤ y) := by
  cases o with
  | none =>
    cases c with
    | none => simp [optNat] at h; exact .inl ⟨rfl, h.symm⟩
    | some x => exact hv.elim
  | some v =>
    cases c with
    | none => exact hv.elim
    | some x =>
      obtain ⟨k, rfl, hn⟩ := natOf_some hv h
      exact .inr ⟨k, rfl, hn⟩

theorem run_bounds2 {isSlice : Bool} {len cap h l : Nat} {hi lo : Option Value} (hh : (hi = none ∧ h = len) ∨ (∃ k, hi = some (.int k (h : Int)) ∧ h ≤ cap)) (hl : (lo = none ∧ l = 0) ∨ (∃ k, lo = some (.int k (l : Int)) ∧ l ≤ h)) (w : World) :
    (Instr.sliceBounds isSlice len cap lo hi none).run P w = .ok (l, h, cap) w := by
  unfold Instr.sliceBounds
  rcases hh with ⟨rfl, rfl⟩ | ⟨k, rfl, hh⟩ <;> rcases hl with ⟨rfl, rfl⟩ | ⟨k', rfl, hl⟩
  · simp
  · simp [run_sliceBound _ hl]
  · simp [run_sliceBound _ hh]
  · simp [run_sliceBound _ hh, run_sliceBound _ hl]

theorem run_bounds3 {isSlice : Bool} {len cap mm h l : Nat} {k k2 : IntKind} {lo : Option Value} (hm : mm ≤ cap) (hh : h ≤ mm) (hl : (lo = none ∧ l = 0) ∨ (∃ k, lo = some (.int k (l : Int)) ∧ l ≤ h)) (w : World) :
    (Instr.sliceBounds isSlice len cap lo (some (.int k (h : Int))) (some (.int k2 (mm : Int)))).run P w = .ok (l, h, mm) w := by
  unfold Instr.sliceBounds
  rcases hl with ⟨rfl, rfl⟩ | ⟨k', rfl, hl⟩
  · simp [run_sliceBound _ hm, run_sliceBound _ hh]
  · simp [run_sliceBound _ hm, run_sliceBound _ hh, run_sliceBound _ hl]

theorem run_sliceAt_slice {t e : TypeId} {i : TypeInfo} (hu : P.underlying t = some (.slice e)) (hi : P.info? e = some i) {a : Option Addr} {len cap l h mm : Nat} {lo hi' mx : Option Value} {w : World}
    (hb : (Instr.sliceBounds true len cap lo hi' mx).run P w = .ok (l, h, mm) w) :
    (Instr.sliceAt t (.slice a len cap) lo hi' mx).run P w = .ok (.slice (if mm = l then a else a.map (·.add (l * i.size))) (h - l) (mm - l)) w := by
  simp [Instr.sliceAt, run_underlying hu, Instr.slice, hb, run_sizeOf' hi]

theorem run_sliceAt_array {t e : TypeId} {i : TypeInfo} {n : Nat} (hu : P.underlying t = some (.array n e)) (hi : P.info? e = some i) {a : Addr} {l h mm : Nat} {lo hi' mx : Option Value} {w : World}
    (hb : (Instr.sliceBounds false n n lo hi' mx).run P w = .ok (l, h, mm) w) :
    (Instr.sliceAt t (.pointer (some a)) lo hi' mx).run P w = .ok (.slice (some (if mm = l then a else a.add (l * i.size))) (h - l) (mm - l)) w := by
  simp [Instr.sliceAt, run_underlying hu, Instr.sureAddr, hb, run_sizeOf' hi]

theorem run_sliceAt_string {t : TypeId} (hu : P.underlying t = some .string) {s : ByteArray} {l h mm : Nat} {lo hi' : Option Value} {w : World}
    (hb : (Instr.sliceBounds false s.size s.size lo hi' none).run P w = .ok (l, h, mm) w) :
    (Instr.sliceAt t (.string s) lo hi' none).run P w = .ok (.string (s.extract l h)) w := by
  simp [Instr.sliceAt, run_underlying hu, Instr.slice, hb]

theorem slice_sound (hE : Tys E P) {t : Nat} {x v : AV} {cx : Value} {lo hi mx : Option AV} {clo chi cmx : Option Value} (hx : VT X x cx)
    (hlo : OptV X lo clo) (hhi : OptV X hi chi) (hmx : OptV X mx cmx) (h : sliceOf E t x lo hi mx = some v) :
    ∃ y, (Instr.sliceAt t cx clo chi cmx).run P X.w = .ok y X.w ∧ VT X v y := by
  unfold sliceOf at h
  split at h
  · -- a string
    rename_i s
    cases hx.str
    split at h
    · rename_i hti
      have hu := kind_str (hE _ _ hti) rfl
      split at h
      · rename_i hh hhi'
        have hc : cmx = none := by cases cmx <;> simp_all [OptV]
        subst hc
        split at h
        · rename_i l hl'
          simp at h; subst h
          have b := run_bounds2 (P := P) (isSlice := false) (len := s.size) (cap := s.size) (optNat_some hhi hhi') (optNat_some hlo hl') X.w
          exact ⟨_, run_sliceAt_string hu b, VT.of_one (.str _) rfl rfl⟩
        · simp at h
      · simp at h
    · simp at h
  · -- nil
    cases hx.nils
    split at h
    · rename_i hti
      obtain ⟨i, hu, hi', _, _⟩ := kind_slice (hE _ _ hti) rfl
      split at h
      · rename_i hh hhi'
        have hc : cmx = none := by cases cmx <;> simp_all [OptV]
        subst hc
        split at h
        · rename_i l hl'
          simp at h; subst h
          have hz : hh = 0 := by
            rcases optNat_some hhi hhi' with ⟨_, h0⟩ | ⟨_, _, h0⟩ <;> omega
          subst hz
          have hz : l = 0 := by
            rcases optNat_some hlo hl' with ⟨_, h0⟩ | ⟨_, _, h0⟩ <;> omega
          subst hz
          have b := run_bounds2 (P := P) (isSlice := true) (len := 0) (cap := 0) (optNat_some hhi hhi') (optNat_some hlo hl') X.w
          exact ⟨_, run_sliceAt_slice hu hi' b, VT.of_one (by simpa using VR.nils) rfl rfl⟩
        · simp at h
      · simp at h
    · simp at h
  · -- a value slice
    rename_i e es tok
    split at h
    · rename_i el esz eb _ _ _ _ hti
      obtain ⟨i, hu, hi', hsz, _⟩ := kind_slice (hE _ _ hti) rfl
      split at h
      · rename_i hee
        subst hee
        obtain ⟨b, o, cap, css, rfl, h0, h1, h2, h3, h4, h5, h6, h7⟩ := hx.vsl
        split at h
        · rename_i mv
          cases hcm : cmx with
          | none => rw [hcm] at hmx; exact hmx.elim
          | some cm =>
          rw [hcm] at hmx
          split at h
          · rename_i mm hv hm
            cases hch : chi with
            | none => rw [hch] at hhi; exact hhi.elim
            | some ch =>
            rw [hch] at hhi
            split at h
            · rename_i hh hhh
              split at h
              · rename_i l hl'
                simp at h; subst h
                obtain ⟨k2, rfl, hm'⟩ := natOf_some hmx hm
                obtain ⟨k1, rfl, hh'⟩ := natOf_some hhi hhh
                have hl2 := optNat_some hlo hl'
                have hll : l ≤ hh := by rcases hl2 with ⟨_, h0⟩ | ⟨_, _, h0⟩ <;> omega
                have bd := run_bounds3 (P := P) (isSlice := true) (len := es.length) (cap := cap) (k := k1) (k2 := k2) (Nat.le_trans hm' h6) hh' hl2 X.w
                refine ⟨_, run_sliceAt_slice hu hi' bd, VT.of_one ?_ rfl rfl⟩
                have tk : ∀ o', TokOK X (if hh = mm then Tok.exact else Tok.no) b o' (hh - l) (mm - l) e := by
                  intro o'; split
                  · rename_i hq; subst hq; rfl
                  · trivial
                by_cases hml : mm = l
                · rw [if_pos hml]
                  have hz : hh - l = 0 := by omega
                  have hz' := tk o
                  rw [hz] at hz'
                  rw [hz, List.take_zero]
                  exact vsl_nil hz'
                · rw [if_neg hml]
                  simp only [Option.map_some, add_none, hsz]
                  exact vsl_sub h0 h1 h2 h3 h4 h5 (by omega) (by omega) (tk _)
              · simp at h
            · simp at h
          · simp at h
        · have hcm : cmx = none := by cases cmx <;> simp_all [OptV]
          subst hcm
          split at h
          · simp at h
          · rename_i hh hhh
            split at h
            · rename_i l hl'
              simp at h; subst h
              have hh2 := optNat_some hhi hhh
              have hl2 := optNat_some hlo hl'
              have hhl : hh ≤ es.length := by rcases hh2 with ⟨_, h0⟩ | ⟨_, _, h0⟩ <;> omega
              have hll : l ≤ hh := by rcases hl2 with ⟨_, h0⟩ | ⟨_, _, h0⟩ <;> omega
              have bd := run_bounds2 (P := P) (isSlice := true) (len := es.length) (cap := cap)
                (by rcases hh2 with h | ⟨k, h, _⟩
                    · exact .inl h
                    · exact .inr ⟨k, h, by omega⟩) hl2 X.w
              refine ⟨_, run_sliceAt_slice hu hi' bd, VT.of_one ?_ rfl rfl⟩
              by_cases hml : cap = l
              · rw [if_pos hml]
                have hz : hh - l = 0 := by omega
                rw [hz, List.take_zero]
                refine vsl_nil ?_
                split
                · cases tok with
                  | no => trivial
                  | exact => show cap - l = 0; omega
                  | live t st => exact ⟨h7.1, .inl (by omega)⟩
                · trivial
              · rw [if_neg hml]
                simp only [Option.map_some, add_none, hsz]
                refine vsl_sub h0 h1 h2 h3 h4 h5 (by omega) (by omega) ?_
                split
                · rename_i hq
                  subst hq
                  cases tok with
                  | no => trivial
                  | exact => show cap - l = es.length - l; have : cap = es.length := h7; omega
                  | live t st =>
                    refine ⟨h7.1, ?_⟩
                    rcases h7.2 with h8 | ⟨h8, h9⟩
                    · exact .inl (by omega)
                    · refine .inr ⟨h8, ?_⟩
                      rw [h9]
                      have e1 : o + l * e + (es.length - l) * e = o + es.length * e := by
                        rw [Nat.add_assoc, ← Nat.add_mul]; congr 2; omega
                      have e2 : cap - l - (es.length - l) = cap - es.length := by omega
                      rw [e1, e2]
                · trivial
            · simp at h
      · simp at h
    · simp at h
  · -- a slice of an object
    rename_i e l st p off lo0 len
    split at h
    · rename_i el esz eb _ _ _ _ hti
      obtain ⟨i, hu, hi', hsz, _⟩ := kind_slice (hE _ _ hti) rfl
      split at h
      · rename_i hee
        subst hee
        obtain ⟨b, o, cap, rfl, h1, h2, h3⟩ := hx.sref
        split at h
        · rename_i mv
          cases hcm : cmx with
          | none => rw [hcm] at hmx; exact hmx.elim
          | some cm =>
          rw [hcm] at hmx
          split at h
          · rename_i mm hv hm
            cases hch : chi with
            | none => rw [hch] at hhi; exact hhi.elim
            | some ch =>
            rw [hch] at hhi
            split at h
            · rename_i hh hhh
              split at h
              · rename_i l' hl'
                split at h
                · rename_i hz
                  obtain ⟨rfl, rfl⟩ := hz
                  simp at h; subst h
                  obtain ⟨k2, rfl, hm'⟩ := natOf_some hmx hm
                  obtain ⟨k1, rfl, hh'⟩ := natOf_some hhi hhh
                  have hl2 := optNat_some hlo hl'
                  have bd := run_bounds3 (P := P) (isSlice := true) (len := len) (cap := cap) (k := k1) (k2 := k2) (Nat.le_trans hm' h2) hh' hl2 X.w
                  refine ⟨_, run_sliceAt_slice hu hi' bd, VT.of_one ?_ rfl rfl⟩
                  rw [if_pos rfl, Nat.sub_self]
                  exact vsl_nil rfl
                · simp at h
              · simp at h
            · simp at h
          · simp at h
        · have hcm : cmx = none := by cases cmx <;> simp_all [OptV]
          subst hcm
          split at h
          · simp at h
          · rename_i hh hhh
            split at h
            · rename_i a hl'
              simp at h; subst h
              have hh2 := optNat_some hhi hhh
              have hl2 := optNat_some hlo hl'
              have hhl : hh ≤ len := by rcases hh2 with ⟨_, h0⟩ | ⟨_, _, h0⟩ <;> omega
              have hll : a ≤ hh := by rcases hl2 with ⟨_, h0⟩ | ⟨_, _, h0⟩ <;> omega
              have bd := run_bounds2 (P := P) (isSlice := true) (len := len) (cap := cap)
                (by rcases hh2 with h | ⟨k, h, _⟩
                    · exact .inl h
                    · exact .inr ⟨k, h, by omega⟩) hl2 X.w
              refine ⟨_, run_sliceAt_slice hu hi' bd, VT.of_one ?_ rfl rfl⟩
              by_cases hml : cap = a
              · rw [if_pos hml]
                exact .sref _ _ _ _ _ _ _ _ _ _ h1 (by omega) (.inl (by omega))
              · rw [if_neg hml]
                simp only [Option.map_some, add_none, hsz]
                refine .sref _ _ _ _ _ _ _ _ _ _ h1 (by omega) (.inr ?_)
                rcases h3 with h3 | ⟨h3, h4⟩
                · omega
                · exact ⟨h3, by rw [h4, Nat.add_mul]; omega⟩
            · simp at h
      · simp at h
    · simp at h
  · -- an array of an object
    rename_i l st p off
    split at h
    · rename_i n el esz g _ _ _ _ hti
      obtain ⟨i, hu, hi', hsz, _⟩ := kind_array (hE _ _ hti) rfl
      have hcm : cmx = none := by cases cmx <;> simp_all [OptV]
      subst hcm
      obtain ⟨rfl, h1⟩ := hx.ref
      split at h
      · simp at h
      · rename_i hh hhh
        split at h
        · rename_i a hl'
          simp at h; subst h
          have hh2 := optNat_some hhi hhh
          have hl2 := optNat_some hlo hl'
          have hhl : hh ≤ n := by rcases hh2 with ⟨_, h0⟩ | ⟨_, _, h0⟩ <;> omega
          have hll : a ≤ hh := by rcases hl2 with ⟨_, h0⟩ | ⟨_, _, h0⟩ <;> omega
          have bd := run_bounds2 (P := P) (isSlice := false) (len := n) (cap := n) hh2 hl2 X.w
          refine ⟨_, run_sliceAt_array hu hi' bd, VT.of_one ?_ rfl rfl⟩
          by_cases hml : n = a
          · rw [if_pos hml]
            exact .sref _ _ _ _ _ _ _ _ _ _ h1 (by omega) (.inl (by omega))
          · rw [if_neg hml]
            simp only [add_none, hsz]
            exact .sref _ _ _ _ _ _ _ _ _ _ h1 (by omega) (.inr ⟨rfl, rfl⟩)
        · simp at h
    · simp at h
  · -- an array that stays
    rename_i nn e ks
    split at h
    · rename_i n el esz g _ _ _ _ hti
      obtain ⟨i, hu, hi', hsz, _⟩ := kind_array (hE _ _ hti) rfl
      have hcm : cmx = none := by cases cmx <;> simp_all [OptV]
      subst hcm
      obtain ⟨b, o, cs, rfl, hv, hb, hc, him⟩ := hx.vptr
      split at h
      · rename_i hcond
        obtain ⟨rfl, hkn⟩ := hcond
        split at h
        · simp at h
        · rename_i hh hhh
          split at h
          · rename_i a hl'
            simp at h; subst h
            have hh2 := optNat_some hhi hhh
            have hl2 := optNat_some hlo hl'
            have hhl : hh ≤ n := by rcases hh2 with ⟨_, h0⟩ | ⟨_, _, h0⟩ <;> omega
            have hll : a ≤ hh := by rcases hl2 with ⟨_, h0⟩ | ⟨_, _, h0⟩ <;> omega
            have bd := run_bounds2 (P := P) (isSlice := false) (len := n) (cap := n) hh2 hl2 X.w
            refine ⟨_, run_sliceAt_array hu hi' bd, VT.of_one ?_ rfl rfl⟩
            cases hv with
            | arr n2 e2 ks css hl h1 he2 hbk hn2 =>
              have tk : ∀ o', TokOK X (if hh = n then Tok.exact else Tok.no) b o' (hh - a) (n - a) e := by
                intro o'; split
                · rename_i hq; subst hq; rfl
                · trivial
              by_cases hml : n = a
              · rw [if_pos hml]
                have hz : hh - a = 0 := by omega
                have hz' := tk o
                rw [hz] at hz'
                rw [hz, List.take_zero]
                exact vsl_nil hz'
              · rw [if_neg hml]
                simp only [add_none, hsz]
                exact vsl_sub hl h1 he2 hbk hc him (by omega) (by omega) (tk _)
          · simp at h
      · simp at h
    · simp at h
  · simp at h

end
end Go.AM

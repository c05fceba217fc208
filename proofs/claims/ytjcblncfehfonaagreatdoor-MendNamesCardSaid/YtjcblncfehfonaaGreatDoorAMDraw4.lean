/- A part of the abstract machine on which the proof of this claim stands: AMDraw4 (definitions and lemmas alone; no statement of the claim; no condition). -/
import Derived.Test.YtjcblncfehfonaaGreatDoorAMDraw3
import Derived.Test.YtjcblncfehfonaaGreatDoorAMExec
import Derived.OrdersIn
namespace Go.AM
open Go Go.RowKit
section
variable {P : Program} {E : Env} {inv : Inv}

theorem binds_any {md : Region.Mode} {e : Edge} (h : Region.binds .any e = true) : Region.binds md e = true := by
  unfold Region.binds at h ⊢
  split at h
  · simp at h
  · simp at h
  · rfl

theorem ready_iff {md : Region.Mode} {ops : Array Oper} {L : Array Bool} (hL : L.size = ops.size) {i : Nat} : i ∈ Region.ready md ops L ↔
    ∃ o, ops.toList[i]? = some o ∧ L.getD i false = false ∧ ∀ e ∈ o.after.toList, Region.binds md e = true → L.getD e.on false = true := by
  unfold Region.ready
  rw [List.mem_filter, List.mem_range]
  constructor
  · rintro ⟨h1, h2⟩
    rw [Bool.and_eq_true] at h2
    obtain ⟨h2, h3⟩ := h2
    refine ⟨ops[i], by simp [h1], ?_, ?_⟩
    · simp only [Bool.not_eq_true'] at h2
      rw [Array.getD_eq_getD_getElem?, Array.getElem?_eq_getElem (by omega)] at h2 ⊢
      exact h2
    · intro e he hb
      simp only [Array.getElem?_eq_getElem h1, Option.map_some, Option.getD_some] at h3
      have := Array.all_eq_true_iff_forall_mem.1 h3 e (by simpa using he)
      simpa [hb] using this
  · rintro ⟨o, h1, h2, h3⟩
    have hi : i < ops.size := by
      have := (List.getElem?_eq_some_iff.1 h1).1
      simpa using this
    have ho : ops[i]? = some o := by simpa using h1
    refine ⟨hi, ?_⟩
    rw [Bool.and_eq_true]
    constructor
    · rw [Array.getD_eq_getD_getElem?, Array.getElem?_eq_getElem (by omega)] at h2 ⊢
      simp only [Option.getD_some] at h2 ⊢
      simp [h2]
    · simp only [ho, Option.map_some, Option.getD_some]
      rw [Array.all_eq_true_iff_forall_mem]
      intro e he
      cases hb : Region.binds md e with
      | false => rfl
      | true => simp [h3 e (by simpa using he) hb]

theorem cover_spec {md : Region.Mode} {ops : Array Oper} {L : Array Bool} (hL : L.size = ops.size) (hr : Region.ready md ops L = []) : ∀ (is : List Nat) (seen : Nat), cover md ops is seen = true →
    (∀ j, seen.testBit j = true → L.getD j false = true) → ∀ j, j < ops.size → L.getD j false = true
  | [], seen, h, hs, j, hj => by
    simp only [cover, List.all_eq_true, List.mem_range] at h
    exact hs j (h j hj)
  | i :: is, seen, h, hs, j, hj => by
    simp only [cover, Bool.and_eq_true] at h
    obtain ⟨h1, h2⟩ := h
    refine cover_spec hL hr is _ h2 ?_ j hj
    intro k hk
    simp only [Nat.testBit_or, Bool.or_eq_true] at hk
    rcases hk with hk | hk
    · exact hs k hk
    · rw [Nat.testBit_two_pow] at hk
      obtain rfl : i = k := by simpa using hk
      split at h1
      · rename_i o ho
        by_cases hl : L.getD i false = true
        · exact hl
        · exfalso
          have : i ∈ Region.ready md ops L := (ready_iff hL).2 ⟨o, by simpa using ho, by simpa using hl, fun e he hb => by
            have := List.all_eq_true.1 h1 e he
            simp only [hb, Bool.not_true, Bool.false_or] at this
            exact hs _ this⟩
          rw [hr] at this
          simp at this
      · simp at h1

theorem any_sound (hE : Tys E P) (hinv : InvOK P E inv) {r : Option Nat} {n nt : Nat} {ops : Array Oper} {md : Region.Mode} {fr' : Fr} (hok : okAll E ops fr' (ancs ops.toList []) [] ops.toList 0 = true) {is : List Nat} (hcov : cover md ops is 0 = true) {Q : Exit → Act → World → Prop} :
    ∀ (fuel : Nat) {L : Array Bool} {m : Mem} {X : Cx} {fr : Fr} {m' : Mem} {a : Act}, L.size = ops.size →
    (∀ (k : Nat) (o : Oper), ops.toList[k]? = some o → L.getD k false = true → ∀ e ∈ o.after.toList, Region.binds .any e = true → L.getD e.on false = true) →
    (restL L ops.toList 0).length ≤ fuel → Sim m X → FR X fr a.tmps → nt ≤ a.tmps.size → execOps E inv nt ops (restL L ops.toList 0) fr m = some (fr', m') →
    (∀ (a' : Act) (Y : Cx), X.le Y → Sim m' Y → FR Y fr' a'.tmps → a'.tmps.size = a.tmps.size → a'.defers = a.defers → Q .normal a' Y.w) →
    wpAnyIn (WF r) n P md ops Q fuel L a X.w := by
  have hspec := okAll_spec (E := E) (ops := ops) ops.toList [] 0 rfl hok
  simp only [List.nil_append] at hspec
  have hm : Masks ops.toList (ancs ops.toList []) := ancs_masks ops.toList ops.toList [] [] rfl rfl (by intro i o _ hi; simp at hi)
  have hlen : ∀ (os : List Oper) (acc : List Nat), (ancs os acc).length = acc.length + os.length := by
    intro os
    induction os with
    | nil => intro acc; simp [ancs]
    | cons o os ih => intro acc; simp [ancs, ih]; omega
  -- nothing is ready: nothing is left
  have stuck : ∀ {L : Array Bool}, L.size = ops.size → Region.ready md ops L = [] → restL L ops.toList 0 = [] := by
    intro L hL hr
    by_cases hne : restL L ops.toList 0 = []
    · exact hne
    · exfalso
      obtain ⟨j, _, h2, h3, h4⟩ := restL_least _ _ hne
      have hj : j < ops.size := by simpa using h2
      have := cover_spec hL hr is 0 hcov (fun k hk => by simp at hk) j hj
      rw [this] at h3; cases h3
  intro fuel
  induction fuel with
  | zero =>
    intro L m X fr m' a hL hD hf hs hfr hn h hQ
    have hnil : restL L ops.toList 0 = [] := List.eq_nil_of_length_eq_zero (by omega)
    rw [hnil] at h
    simp only [execOps, Option.some.injEq, Prod.mk.injEq] at h
    obtain ⟨rfl, rfl⟩ := h
    refine ⟨?_, hQ a X (Cx.le.refl X) hs hfr rfl rfl⟩
    cases hr : Region.ready md ops L with
    | nil => rfl
    | cons i is =>
      exfalso
      obtain ⟨o, h1, h2, _⟩ := (ready_iff hL).1 (show i ∈ Region.ready md ops L by rw [hr]; exact List.mem_cons_self ..)
      have := restL_nil _ _ hnil i (Nat.zero_le _) (by have := (List.getElem?_eq_some_iff.1 h1).1; omega)
      rw [this] at h2; cases h2
  | succ fuel ih =>
    intro L m X fr m' a hL hD hf hs hfr hn h hQ
    refine ⟨fun hr => ?_, fun i hi => ?_⟩
    · rw [stuck hL hr] at h
      simp only [execOps, Option.some.injEq, Prod.mk.injEq] at h
      obtain ⟨rfl, rfl⟩ := h
      exact hQ a X (Cx.le.refl X) hs hfr rfl rfl
    · obtain ⟨o, h1, h2, h3⟩ := (ready_iff hL).1 hi
      have hilt : i < ops.size := by
        have := (List.getElem?_eq_some_iff.1 h1).1
        simpa using this
      have h3' : ∀ e ∈ o.after.toList, Region.binds .any e = true → L.getD e.on false = true := fun e he hb => h3 e he (binds_any hb)
      obtain ⟨pre, post, q1, q2, q3, q4⟩ := restL_take (L := L) (i := i) (by omega) h2 (o := o) ops.toList 0 (Nat.zero_le _) (by simpa using h1)
      rw [q1] at h hf
      have hpre : ∀ pre1 p pre2, pre = pre1 ++ p :: pre2 → Pair E ops fr' post o p pre2 := by
        intro pre1 p pre2 hp
        obtain ⟨j, _, j2, j3, j4, j5⟩ := q3 pre1 p pre2 hp
        rw [Nat.sub_zero] at j3 j5
        rcases hspec i o (Nat.zero_le _) h1 j p j2 j3 with hb | hb | ⟨hb1, hb2⟩
        · have := hm i o h1 (by rw [hlen]; have := (List.getElem?_eq_some_iff.1 h1).1; simpa using this) (fun k => L.getD k false = true) hD h3' j hb
          rw [j4] at this; cases this
        · exact Or.inl hb
        · unfold dynOk at hb2
          split at hb2
          · rename_i x y hx hy
            simp only [Bool.and_eq_true] at hb2
            refine Or.inr ⟨hb1, x, y, hx, hy, hb2.1.1, noWrite_mem hb2.1.2 j5, noWrite_mem hb2.2 ?_⟩
            rw [Nat.sub_zero] at q4
            exact q4
          · simp at hb2
      obtain ⟨fr1, m1, k1, k2⟩ := ops_front pre fr m hpre h
      rw [← q2] at k2
      unfold wpOpIn
      have ho : ops[i]? = some o := by simpa using h1
      simp only [ho]
      refine oper_sound hE hinv hs hfr hn k1 ?_
      intro a' Y hle hs' hfr' hz hd
      refine ih (by simpa using hL) ?_ ?_ hs' hfr' (by omega) k2 (fun a'' Z hle' hs'' hf'' hz' hd' => hQ a'' Z (hle.trans hle') hs'' hf'' (hz'.trans hz) (hd'.trans hd))
      · intro k o' hk hLk e he hbe
        rw [getD_set L i k (by omega)] at hLk
        rw [getD_set L i e.on (by omega)]
        split
        · rfl
        · split at hLk
          · rename_i hki
            subst hki
            rw [h1] at hk
            cases hk
            exact h3' e he hbe
          · exact hD k o' hk hLk e he hbe
      · rw [q2]
        simp only [List.length_append, List.length_cons] at hf ⊢
        omega

theorem Sim.drawn1 {m : Mem} {X : Cx} (h : Sim m X) : Sim m { X with w := { X.w with drawn := X.w.drawn + 1 } } ∧ X.le { X with w := { X.w with drawn := X.w.drawn + 1 } } := by
  have hle : X.le { X with w := { X.w with drawn := X.w.drawn + 1 } } :=
    ⟨rfl, Nat.le_refl _, fun _ h => h, fun _ _ => rfl, fun _ _ => rfl, fun _ _ h => ⟨h, rfl⟩, fun _ _ _ h => h, fun _ h => ⟨h, rfl⟩, ⟨rfl, rfl, rfl, Nat.le_refl _, fun _ _ => rfl⟩⟩
  refine ⟨?_, hle⟩
  exact h.same hle rfl (fun _ h => h) (fun _ _ => rfl) (fun _ _ h => Or.inl h) (fun _ h => Or.inl h) (fun b k hi => h.immB b k hi) (fun r hr => h.fixB r hr)

/-- regions that draw: whatever the order -/
theorem draw_ok (hE : Tys E P) (hinv : InvOK P E inv) (r : Option Nat) (n : Nat) (ann : Ann) : DrawOK P E r n inv ann := by
  intro id ops iter jmp fid bid X fr m a ctl fr' m' hs hf hn h
  simp only [exec] at h
  split at h
  rotate_left
  · simp at h
  rename_i fr1 m1 he
  split at h
  · simp at h
  rename_i hok
  simp only [Bool.true_and, Bool.not_eq_true, Bool.not_eq_false'] at hok
  simp only [Option.some.injEq, Prod.mk.injEq] at h
  obtain ⟨rfl, rfl, rfl⟩ := h
  refine wpIn_region_draw fun t => ?_
  obtain ⟨hs', hle⟩ := hs.drawn1
  unfold drawOk at hok
  simp only [Bool.and_eq_true, Bool.or_eq_true, Bool.not_eq_true'] at hok
  obtain ⟨⟨hok1, hok2⟩, hok3⟩ := hok
  have hx : ∀ (md : Region.Mode) (is : List Nat), cover md ops is 0 = true → ∀ t, wpOpsIn (WF r) n P ops (fun e a' w' => e = ctlEx .normal ∧ At X a m1 (forget ann fr1) a' w') (Region.linearise md ops t) a { X.w with drawn := X.w.drawn + 1 } := by
    intro md is hcov t
    unfold Region.linearise
    refine wpAnyIn_sound _ _ _ _ _ ?_
    refine any_sound (m' := m1) (fr' := fr1) hE hinv hok1 hcov ops.size (L := Array.replicate ops.size false) (X := { X with w := { X.w with drawn := X.w.drawn + 1 } }) (by simp) ?_ ?_ hs' (hf.mono hle) hn ?_ ?_
    · intro k o _ hk
      rw [Array.getD_eq_getD_getElem?, Array.getElem?_replicate] at hk
      split at hk <;> simp at hk
    · rw [restL_all]; simp
    · rw [restL_all]; exact he
    · intro a' Y hle' hs'' hf' hz hd
      exact ⟨rfl, (At.of (hle.trans hle') hs'' hf' hz hd).weak (fun _ h => h) (fun t ht => get_forget ann _ t ht)⟩
  unfold Region.schedule
  split
  · exact hx _ _ hok2 _
  · rename_i hc
    simp only [Bool.or_eq_true, Bool.not_eq_true', not_or, Bool.not_eq_true, Bool.not_eq_false] at hc
    rcases hok3 with hd | ⟨hd1, hd2⟩
    · rw [hc.2] at hd; cases hd
    · split
      · exact hx _ _ hd1 _
      · exact hx _ _ hd2 _

end
end Go.AM

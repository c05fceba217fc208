/- A part of the abstract machine on which the proof of this claim stands: AMOps15 (definitions and lemmas alone; no statement of the claim; no condition). -/
import Derived.Test.YtjcblncfehfonaaGreatDoorAMOps14
namespace Go.AM
open Go Go.RowKit
section
variable {P : Program} {E : Env} {m : Mem} {X : Cx}

theorem run_getMap {w : World} {r : Nat} {es : Array MapEntry} {clock : Nat} (h : w.heap[r]? = some (.map es clock)) : (getObj r).run P w = .ok (.map es clock) w := by simp [getObj, Sem.run, h]
theorem run_setMap {w : World} {r : Nat} {es : Array MapEntry} {clock : Nat} (o : Obj) (h : w.heap[r]? = some (.map es clock)) : (setObj r o).run P w = .ok () { w with heap := w.heap.setIfInBounds r o } := by simp [setObj, Sem.run, h]

def KeyD (b : Bool) (d : TypeDesc) : Prop := (b = true ∧ ∃ k, d = .int k) ∨ (b = false ∧ d = .string)

theorem keyKind_sound (hE : Tys E P) {kt : Nat} {b : Bool} (h : keyKind E kt = some b) : ∃ d, P.underlying kt = some d ∧ KeyD b d := by
  unfold keyKind at h
  split at h
  · rename_i k _ _ _ _ hti
    simp at h; subst h
    obtain ⟨i, d, h1, h2, _, _, h5⟩ := tyI_info (hE _ _ hti)
    refine ⟨d, h2, .inl ⟨rfl, ?_⟩⟩
    unfold kindOf at h5
    (repeat' split at h5) <;> (try (cases h5; done))
    exact ⟨_, rfl⟩
  · rename_i hti
    simp at h; subst h
    exact ⟨_, kind_str (hE _ _ hti) rfl, .inr ⟨rfl, rfl⟩⟩
  · simp at h

/-- entries, held against keys -/
structure Ents (X : Cx) (es : List (AV × AV)) (ents : List MapEntry) : Prop where
  hl : ents.length = es.length
  vr : ∀ (i : Nat) (e : AV × AV) (en : MapEntry), es[i]? = some e → ents[i]? = some en → VT X e.1 en.key ∧ VT X e.2 en.val

theorem Ents.tail {e : AV × AV} {es : List (AV × AV)} {en : MapEntry} {ents : List MapEntry} (h : Ents X (e :: es) (en :: ents)) : Ents X es ents :=
  ⟨by simpa using h.hl, fun i e en he hen => h.vr (i + 1) e en (by simpa using he) (by simpa using hen)⟩

def FindPost (X : Cx) (d : TypeDesc) (k w : AV) (ck : Value) (es : List (AV × AV)) (ents : List MapEntry) (i0 : Nat) : Option AV → Prop
  | some v => ∃ i x en, Instr.findNow d ck ents i0 = some (some (i0 + i, x)) ∧ VT X v x ∧ i < es.length ∧ mapPut k w es = es.set i (k, w) ∧ ents[i]? = some en ∧ Instr.sameBits 10000 en.key ck = true
  | none => Instr.findNow d ck ents i0 = some none ∧ mapPut k w es = es ++ [(k, w)]

theorem find_step {d : TypeDesc} {k w j u : AV} {ck : Value} {es : List (AV × AV)} {en : MapEntry} {ents : List MapEntry} {i0 : Nat} {r : Option AV} (hq : Instr.sameNow d ck en.key = some false)
    (hput : mapPut k w ((j, u) :: es) = (j, u) :: mapPut k w es) (ih : FindPost X d k w ck es ents (i0 + 1) r) : FindPost X d k w ck ((j, u) :: es) (en :: ents) i0 r := by
  cases r with
  | none => exact ⟨by unfold Instr.findNow; rw [hq]; exact ih.1, by rw [hput, ih.2]; rfl⟩
  | some v =>
    obtain ⟨i, x, en', h1, h2, h3, h4, h5, h6⟩ := ih
    refine ⟨i + 1, x, en', ?_, h2, by simp; omega, by rw [hput, h4]; rfl, by simpa using h5, h6⟩
    unfold Instr.findNow; rw [hq, show i0 + (i + 1) = i0 + 1 + i by omega]; exact h1

theorem find_sound {b : Bool} {d : TypeDesc} (hd : KeyD b d) {k w : AV} {ck : Value} (hk : VT X k ck) : ∀ (es : List (AV × AV)) (ents : List MapEntry) (i0 : Nat) {r : Option AV}, Ents X es ents → mapFind b k es = some r →
    FindPost X d k w ck es ents i0 r := by
  intro es
  induction es with
  | nil =>
    intro ents i0 r hr h
    simp [mapFind] at h; subst h
    have := hr.hl
    have : ents = [] := List.length_eq_zero_iff.1 this
    subst this
    exact ⟨rfl, rfl⟩
  | cons e es ih =>
    obtain ⟨j, u⟩ := e
    intro ents i0 r hr h
    match ents, hr with
    | [], hr => exact absurd hr.hl (by simp)
    | en :: ents, hr =>
      obtain ⟨hj, hu⟩ := hr.vr 0 _ _ rfl rfl
      simp only at hj hu
      unfold mapFind at h
      split at h
      · rename_i ka x kb y
        cases hk.int
        have hj := hj.int
        obtain ⟨_, kk, rfl⟩ | ⟨h0, _⟩ := hd
        rotate_left
        · simp at h0
        split at h
        · rename_i hkk
          subst hkk
          split at h
          · rename_i hxy
            subst hxy
            simp at h; subst h
            refine ⟨0, en.val, en, ?_, hu, by simp, by simp [mapPut], rfl, by rw [hj]; simp [Instr.sameBits]⟩
            unfold Instr.findNow
            rw [hj]
            simp [Instr.sameNow]
          · rename_i hne
            exact find_step (by rw [hj]; simp [Instr.sameNow, hne]) (by simp [mapPut, hne]) (ih _ _ hr.tail h)
        · simp at h
      · rename_i x y _
        cases hk.str
        have hj := hj.str
        obtain ⟨h0, _⟩ | ⟨_, rfl⟩ := hd
        · simp at h0
        have hbe : (x == y) = decide (x.data.toList = y.data.toList) := by
          rw [ba_beq, Bool.eq_iff_iff]
          rcases x with ⟨⟨x⟩⟩
          rcases y with ⟨⟨y⟩⟩
          simp
        split at h
        · rename_i hxy
          simp at h; subst h
          have hbe' : (y == x) = true := by
            rw [ba_beq]
            rcases x with ⟨⟨x⟩⟩
            rcases y with ⟨⟨y⟩⟩
            simp at hxy ⊢
            exact hxy.symm
          refine ⟨0, en.val, en, ?_, hu, by simp, by simp [mapPut, hxy], rfl, by rw [hj]; simpa [Instr.sameBits] using hbe'⟩
          unfold Instr.findNow
          rw [hj]
          simp only [Instr.sameNow, hbe, hxy, decide_true]
          rfl
        · rename_i hne
          exact find_step (by rw [hj]; simp only [Instr.sameNow, hbe, hne, decide_false]) (by simp [mapPut, hne]) (ih _ _ hr.tail h)
      · simp at h

theorem checkKey_ok {b : Bool} {d : TypeDesc} {kt : Nat} (hd : KeyD b d) (hu : P.underlying kt = some d) (em : Bool) (n : Nat) (ck : Value) (w : World) : (Instr.checkKey em (n + 1) kt ck).run P w = .ok () w := by
  rcases hd with ⟨_, k, rfl⟩ | ⟨_, rfl⟩ <;> simp [Instr.checkKey, run_underlying hu]

theorem lookup_sound (hE : Tys E P) (hs : Sim m X) {t : Nat} {ok : Bool} {x k v : AV} {cx ck : Value} (hx : VT X x cx) (hk : VT X k ck) (h : lookup E m t x k ok = some v) :
    ∃ cv, VT X v cv ∧ (Instr.lookup t cx ck ok).run P X.w = .ok cv X.w := by
  unfold lookup at h
  split at h
  · rename_i kt e _ _ _ _ hti
    have hu := kind_map (hE _ _ hti) rfl
    split at h
    · rename_i kk ti es hkk hte hes
      obtain ⟨d, hd1, hd⟩ := keyKind_sound hE hkk
      split at h
      · rename_i hki
        have hents : ∃ ents : Array MapEntry, Ents X es ents.toList ∧ ((cx = .map none ∧ ents = #[]) ∨ ∃ r clock, cx = .map (some r) ∧ X.w.heap[r]? = some (.map ents clock)) := by
          unfold entries at hes
          split at hes
          · simp at hes; subst hes
            exact ⟨#[], ⟨rfl, by simp⟩, .inl ⟨hx.nilm, rfl⟩⟩
          · rename_i l st
            split at hes
            · rename_i es' ho
              simp at hes; subst hes
              obtain ⟨rfl, hst⟩ := hx.map
              obtain ⟨_, _, ⟨ents, clock, h1, h2, h3⟩, _⟩ := hs.objs l st _ (obj_obj ho rfl)
              exact ⟨ents, ⟨by simpa using h2, fun i e en he hen => h3 i e en he (by simpa using hen)⟩, .inr ⟨_, clock, rfl, h1⟩⟩
            · simp at hes
          · simp at hes
        obtain ⟨ents, hents, hcase⟩ := hents
        have hck : ∀ em, (Instr.checkKey em 10000 kt ck).run P X.w = .ok () X.w := fun em => checkKey_ok hd hd1 em 9999 ck X.w
        have hfs : ∀ (v : AV) (x : Value) (b : Bool), VT X v x → VT X (found ok v b) (if ok then .tuple #[x, .bool b] else x) := by
          intro v x b hv
          unfold found
          split
          · refine VT.of_one (.tup [v, .bool b] [x, .bool b] rfl ?_ ?_) rfl rfl
            · intro i a y ha hy
              match i with
              | 0 => simp at ha hy; subst ha hy; exact hv.1
              | 1 => simp at ha hy; subst ha hy; exact .bool b
              | i + 2 => simp at ha
            · intro i a y ha hy
              match i with
              | 0 => simp at ha hy; subst ha hy; exact hv.2
              | 1 => simp at ha hy; subst ha hy; rfl
              | i + 2 => simp at ha
          · exact hv
        split at h
        · rename_i v' hf
          simp at h; subst h
          obtain ⟨i, x, en, h1, h2, _⟩ := find_sound (w := .nilp) hd hk es ents.toList 0 hents hf
          refine ⟨_, hfs v' x true h2, ?_⟩
          rcases hcase with ⟨rfl, rfl⟩ | ⟨r, clock, rfl, hr⟩
          · simp [Instr.lookup, run_underlying hu, hck, Instr.findKey, run_underlying hd1] at h1 ⊢
            simp [h1]
          · have hg := run_getMap (P := P) hr
            simp [Instr.lookup, run_underlying hu, hck, Instr.findKey, run_underlying hd1, h1, hg]
        · rename_i hf
          split at h
          · simp at h
          · rename_i hzb
            simp at h; subst h
            obtain ⟨i, z, hi, hz, _, hzv⟩ := tyI_zero (hE _ _ hte) (by simpa using hzb)
            obtain ⟨h1, _⟩ := find_sound (w := .nilp) hd hk es ents.toList 0 hents hf
            refine ⟨_, hfs _ z false (hzv X), ?_⟩
            rcases hcase with ⟨rfl, rfl⟩ | ⟨r, clock, rfl, hr⟩
            · simp [Instr.lookup, run_underlying hu, hck, Instr.findKey, run_underlying hd1, zeroValue, typeInfo] at h1 ⊢
              simp [h1, hi, hz]
            · have hg := run_getMap (P := P) hr
              simp [Instr.lookup, run_underlying hu, hck, Instr.findKey, run_underlying hd1, h1, hg, zeroValue, typeInfo, hi, hz]
        · simp at h
      · simp at h
    · simp at h
  · simp at h


theorem put_block (w : World) (r : Nat) (o : Obj) : ∀ b, b ≠ r → (({ w with heap := w.heap.setIfInBounds r o } : World)).heap[b]? = w.heap[b]? := by
  intro b hb
  simp [Ne.symm hb]

theorem mapUpdate_sound (hE : Tys E P) (hs : Sim m X) {t : Nat} {x k v : AV} {cx ck cv : Value} {m' : Mem} (hx : VT X x cx) (hk : VT X k ck) (hv : VT X v cv) (h : mapUpdate E m t x k v = some m') :
    ∃ Y, X.le Y ∧ Sim m' Y ∧ (Instr.mapUpdate t cx ck cv).run P X.w = .ok () Y.w := by
  unfold mapUpdate at h
  split at h
  · rename_i kt e _ _ _ _ hti
    have hu := kind_map (hE _ _ hti) rfl
    split at h
    · rename_i kk l st hkk
      obtain ⟨d, hd1, hd⟩ := keyKind_sound hE hkk
      split at h
      · rename_i es ho
        split at h
        · obtain ⟨rfl, hst⟩ := hx.map
          obtain ⟨_, _, ⟨ents, clock, h1, h2, h3⟩, _⟩ := hs.objs l st _ (obj_obj ho rfl)
          have hents : Ents X es ents.toList := ⟨by simpa using h2, fun i e en he hen => h3 i e en he (by simpa using hen)⟩
          have hck : ∀ em, (Instr.checkKey em 10000 kt ck).run P X.w = .ok () X.w := fun em => checkKey_ok hd hd1 em 9999 ck X.w
          have hg := run_getMap (P := P) h1
          have hlt := heap_lt h1
          split at h
          · rename_i r hf
            simp at h; subst h
            have hp := find_sound (w := v) hd hk es ents.toList 0 hents hf
            have hfin : ∀ (ents' : Array MapEntry) (c' : Nat), (∀ Y, X.le Y → Ents Y (mapPut k v es) ents'.toList) →
                X.le (X.at { X.w with heap := X.w.heap.setIfInBounds (X.blk st) (.map ents' c') }) ∧
                Sim { m with objs := m.objs.set l (st, .map (mapPut k v es)) } (X.at { X.w with heap := X.w.heap.setIfInBounds (X.blk st) (.map ents' c') }) := by
              intro ents' c' he
              have hle := Cx.le_block hs (obj_obj ho rfl) (put_block X.w (X.blk st) (.map ents' c')) (by simp) rfl rfl rfl
              refine ⟨hle, hs.setBlock (obj_obj ho rfl) (put_block X.w (X.blk st) (.map ents' c')) (by simp) rfl rfl rfl ?_⟩
              have he' := he _ hle
              refine ⟨ents', c', by simp [Cx.at, hlt], by simpa using he'.hl, fun i e en h1 h2 => he'.vr i e en h1 (by simpa using h2)⟩
            cases r with
            | some u =>
              obtain ⟨i, y, en, q1, q2, q3, q4, q5, q6⟩ := hp
              simp only [Nat.zero_add] at q1
              suffices he : _ by
                obtain ⟨f1, f2⟩ := hfin (ents.modify i fun e => { e with key := ck, val := cv }) clock he
                refine ⟨_, f1, f2, ?_⟩
                have q5' : ents[i]? = some en := by simpa using q5
                simp [Instr.mapUpdate, run_underlying hu, hck, Instr.findKey, run_underlying hd1, hg, q1, q5', Instr.keyThatStays, q6, run_setMap _ h1, Cx.at]
              · intro Y hY
                rw [q4]
                refine ⟨by simpa using hents.hl, ?_⟩
                intro j e en' he hen
                simp only [Array.toList_modify, List.getElem?_modify] at hen
                rcases set_get he with ⟨hij, rfl⟩ | ⟨hij, he⟩
                · subst hij
                  rw [q5] at hen
                  simp at hen
                  subst hen
                  exact ⟨hk.mono hY, hv.mono hY⟩
                · cases hej : ents.toList[j]? with
                  | none => rw [hej] at hen; simp at hen
                  | some en2 =>
                    rw [hej] at hen
                    simp [hij] at hen
                    subst hen
                    have := hents.vr j e en2 he hej
                    exact ⟨this.1.mono hY, this.2.mono hY⟩
            | none =>
              obtain ⟨q1, q2⟩ := hp
              suffices he : _ by
                obtain ⟨f1, f2⟩ := hfin (ents.push { key := ck, val := cv, born := clock }) (clock + 1) he
                refine ⟨_, f1, f2, ?_⟩
                simp [Instr.mapUpdate, run_underlying hu, hck, Instr.findKey, run_underlying hd1, hg, q1, run_setMap _ h1, Cx.at]
              · intro Y hY
                rw [q2]
                have hl := hents.hl
                refine ⟨by simpa using hl, ?_⟩
                intro j e en' he hen
                rw [Array.toList_push, List.getElem?_append] at hen
                rw [List.getElem?_append] at he
                rw [hl] at hen
                split at he
                · rename_i hlt
                  rw [if_pos hlt] at hen
                  have := hents.vr j e en' he hen
                  exact ⟨this.1.mono hY, this.2.mono hY⟩
                · rename_i hlt
                  rw [if_neg hlt] at hen
                  have hj := lt_of_some he
                  have : j - es.length = 0 := by simp at hj; omega
                  rw [this] at he hen
                  simp at he hen
                  subst he hen
                  exact ⟨hk.mono hY, hv.mono hY⟩
          · simp at h
        · simp at h
      · simp at h
    · simp at h
  · simp at h

end
end Go.AM

/- A part of the abstract machine on which the proof of this claim stands: AMTy (definitions and lemmas alone; no statement of the claim; no condition). -/
import Derived.Test.YtjcblncfehfonaaGreatDoorAMSim
namespace Go.AM
open Go Go.RowKit

def leafAV : Value → Option AV
  | .int k n => some (.int k n)
  | .bool b => some (.bool b)
  | .string s => some (.str s)
  | .float k b => some (.flt k b)
  | .pointer none => some .nilp
  | .slice none 0 0 => some .nils
  | .map none => some .nilm
  | .nilFunc => some .nilf
  | .nilIface => some .nili
  | _ => none

theorem leafAV_sound {X : Cx} {c : Value} {v : AV} (h : leafAV c = some v) : VR X v [c] ∧ v.bad = false ∧ v.isAgg = false ∧ isAggV c = false := by
  unfold leafAV at h
  split at h <;> simp at h <;> subst h
  · exact ⟨.int _ _, rfl, rfl, rfl⟩
  · exact ⟨.bool _, rfl, rfl, rfl⟩
  · exact ⟨.str _, rfl, rfl, rfl⟩
  · exact ⟨.flt _ _, rfl, rfl, rfl⟩
  · exact ⟨.nilp, rfl, rfl, rfl⟩
  · exact ⟨.nils, rfl, rfl, rfl⟩
  · exact ⟨.nilm, rfl, rfl, rfl⟩
  · exact ⟨.nilf, rfl, rfl, rfl⟩
  · exact ⟨.nili, rfl, rfl, rfl⟩

def szOf (P : Program) (t : Nat) : Nat := match P.info? t with | some i => i.size | none => 0

def unFields (f : Nat → List Value → Option AV) (P : Program) : List Field → Nat → List Value → Option (List AV)
  | [], _, [] => some []
  | [], _, _ :: _ => none
  | fd :: r, pos, cs =>
    if fd.offset = pos ∧ szOf P fd.type ≤ cs.length then
      match f fd.type (cs.take (szOf P fd.type)), unFields f P r (pos + szOf P fd.type) (cs.drop (szOf P fd.type)) with
      | some v, some vs => some (v :: vs)
      | _, _ => none
    else none
def unElems (f : List Value → Option AV) (sz : Nat) : Nat → List Value → Option (List AV)
  | 0, [] => some []
  | 0, _ :: _ => none
  | n + 1, cs =>
    if sz ≤ cs.length then
      match f (cs.take sz), unElems f sz n (cs.drop sz) with
      | some v, some vs => some (v :: vs)
      | _, _ => none
    else none
/-- cells read as a tree, by a type -/
def unflat (P : Program) : Nat → Nat → List Value → Option AV
  | 0, _, _ => none
  | n + 1, t, cs =>
    match P.underlying t with
    | some (.struct fs) => (match unFields (unflat P n) P fs.toList 0 cs with | some ks => some (.agg cs.length ks) | none => none)
    | some (.array len e) => (match unElems (unflat P n e) (szOf P e) len cs with | some ks => some (.arr cs.length (szOf P e) ks) | none => none)
    | some _ => (match cs with | [c] => leafAV c | _ => none)
    | none => none

def aggD : TypeDesc → Bool
  | .struct _ => true
  | .array _ _ => true
  | _ => false

theorem unFields_sound {X : Cx} {P : Program} {f : Nat → List Value → Option AV} (hf : ∀ t cs v, f t cs = some v → VR X v cs ∧ v.bad = false) :
    ∀ (fs : List Field) (pos : Nat) (cs : List Value) (ks : List AV), unFields f P fs pos cs = some ks →
      ∃ css : List (List Value), css.flatten = cs ∧ ks.length = css.length ∧ (∀ (i : Nat) a c, ks[i]? = some a → css[i]? = some c → VR X a c) ∧ ∀ a ∈ ks, a.bad = false
  | [], _, cs, ks, h => by
    cases cs <;> simp [unFields] at h
    subst h
    exact ⟨[], rfl, rfl, by simp, by simp⟩
  | fd :: r, pos, cs, ks, h => by
    simp only [unFields] at h
    split at h
    · rename_i hc
      split at h
      · rename_i v vs h1 h2
        simp at h
        subst h
        obtain ⟨css, e1, e2, e3, e4⟩ := unFields_sound hf r _ _ _ h2
        obtain ⟨g1, g2⟩ := hf _ _ _ h1
        refine ⟨cs.take (szOf P fd.type) :: css, by rw [List.flatten_cons, e1, List.take_append_drop], by simp [e2], fun i a c ha hc => ?_, fun a ha => ?_⟩
        · cases i with
          | zero => simp at ha hc; subst ha; subst hc; exact g1
          | succ i => exact e3 i a c (by simpa using ha) (by simpa using hc)
        · rcases List.mem_cons.1 ha with rfl | ha
          · exact g2
          · exact e4 a ha
      · simp at h
    · simp at h

theorem unElems_sound {X : Cx} {f : List Value → Option AV} {sz : Nat} (hf : ∀ cs v, f cs = some v → VR X v cs ∧ v.bad = false) :
    ∀ (n : Nat) (cs : List Value) (ks : List AV), unElems f sz n cs = some ks →
      ∃ css : List (List Value), css.flatten = cs ∧ ks.length = css.length ∧ ks.length = n ∧ (∀ (i : Nat) a c, ks[i]? = some a → css[i]? = some c → VR X a c) ∧
        (∀ (i : Nat) (c : List Value), css[i]? = some c → c.length = sz) ∧ ∀ a ∈ ks, a.bad = false
  | 0, cs, ks, h => by
    cases cs <;> simp [unElems] at h
    subst h
    exact ⟨[], rfl, rfl, rfl, by simp, by simp, by simp⟩
  | n + 1, cs, ks, h => by
    simp only [unElems] at h
    split at h
    · rename_i hc
      split at h
      · rename_i v vs h1 h2
        simp at h
        subst h
        obtain ⟨css, e1, e2, e2', e3, e5, e4⟩ := unElems_sound hf n _ _ h2
        obtain ⟨g1, g2⟩ := hf _ _ h1
        refine ⟨cs.take sz :: css, by rw [List.flatten_cons, e1, List.take_append_drop], by simp [e2], by simp [e2'], fun i a c ha hc => ?_, fun i c hc => ?_, fun a ha => ?_⟩
        · cases i with
          | zero => simp at ha hc; subst ha; subst hc; exact g1
          | succ i => exact e3 i a c (by simpa using ha) (by simpa using hc)
        · cases i with
          | zero => simp at hc; subst hc; simp; omega
          | succ i => exact e5 i c (by simpa using hc)
        · rcases List.mem_cons.1 ha with rfl | ha
          · exact g2
          · exact e4 a ha
      · simp at h
    · simp at h

theorem unflat_sound {X : Cx} {P : Program} : ∀ (n t : Nat) (cs : List Value) (v : AV), unflat P n t cs = some v → VR X v cs ∧ v.bad = false
  | 0, _, _, _, h => by simp [unflat] at h
  | n + 1, t, cs, v, h => by
    simp only [unflat] at h
    split at h
    · split at h
      · rename_i ks hk
        simp at h; subst h
        obtain ⟨css, e1, e2, e3, e4⟩ := unFields_sound (fun t cs v h => unflat_sound (X := X) n t cs v h) _ _ _ _ hk
        refine ⟨?_, rfl⟩
        rw [← e1]
        exact .agg _ ks css e2 e3 e4 rfl
      · simp at h
    · split at h
      · rename_i ks hk
        simp at h; subst h
        obtain ⟨css, e1, e2, _, e3, e5, e4⟩ := unElems_sound (fun cs v h => unflat_sound (X := X) n _ cs v h) _ _ _ hk
        refine ⟨?_, rfl⟩
        rw [← e1]
        exact .arr _ _ ks css e2 e3 e5 e4 rfl
      · simp at h
    · split at h
      · have := leafAV_sound (X := X) h
        exact ⟨this.1, this.2.1⟩
      · simp at h
    · simp at h

theorem unflat_agg {P : Program} {n t : Nat} {cs : List Value} {v : AV} {d : TypeDesc} (hd : P.underlying t = some d) (h : unflat P n t cs = some v) : v.isAgg = aggD d := by
  cases n with
  | zero => simp [unflat] at h
  | succ n =>
    simp only [unflat, hd] at h
    split at h
    · rename_i he
      split at h
      · cases he; simp at h; subst h; rfl
      · simp at h
    · rename_i he
      split at h
      · cases he; simp at h; subst h; rfl
      · simp at h
    · rename_i h1 h2 he
      cases he
      split at h
      · have := (leafAV_sound (X := ⟨default, 0, 0, fun _ => False, fun _ => 0, fun _ => (0, 0), fun _ _ => False, fun _ => False⟩) h).2.2.1
        rw [this]
        cases d <;> simp [aggD] at * 
      · simp at h
    · simp at h

def aggOf (P : Program) (t : Nat) : Bool := match P.underlying t with | some d => aggD d | none => false

def kindOf (P : Program) : TypeDesc → Option TK
  | .bool => some .bool
  | .int k => some (.int k)
  | .float k => some (.flt k)
  | .string => some .str
  | .pointer e => some (.ptr e)
  | .slice e => (match P.info? e with | some i => some (.slice e i.size i.bytes) | none => none)
  | .array n e => (match P.info? e with | some i => (match P.underlying e with | some d => some (.array n e i.size (aggD d)) | none => none) | none => none)
  | .map k e => some (.map k e)
  | .struct fs => if fs.toList.all (fun f => szOf P f.type != 0 && (P.underlying f.type).isSome) then some (.struct (fs.toList.map fun f => (f.offset, szOf P f.type, aggOf P f.type, f.type))) else none
  | .func _ _ _ => some .func
  | .interface _ => some .iface
  | _ => some .other

/-- may values of a type be held against each other part by part? -/
def eqOK (P : Program) (t : Nat) (d : TypeDesc) : Bool :=
  !P.eqGuardType P.depth t && (match d with
  | .struct fs => !P.stoodInHeld t && fs.toList.all fun f => f.name != "_"
  | _ => true)

/-- what the machine is told of a type -/
def tyI (P : Program) (t : Nat) : Option TyI :=
  match P.info? t, P.underlying t with
  | some i, some d =>
    (match kindOf P d with
    | some k => some { kind := k, size := i.size, bytes := i.bytes, zero := (match i.zero with | some z => if isAggV z = aggD d then (unflat P 20 t z.cells.toList).getD .und else .und | none => .und), eq := eqOK P t d }
    | none => none)
  | _, _ => none

theorem tyI_info {P : Program} {t : Nat} {ti : TyI} (h : tyI P t = some ti) : ∃ i d, P.info? t = some i ∧ P.underlying t = some d ∧ i.size = ti.size ∧ i.bytes = ti.bytes ∧ kindOf P d = some ti.kind := by
  unfold tyI at h
  split at h
  · rename_i i d h1 h2
    split at h
    · rename_i k hk
      simp at h; subst h
      exact ⟨i, d, h1, h2, rfl, rfl, hk⟩
    · simp at h
  · simp at h

theorem tyI_eq {P : Program} {t : Nat} {ti : TyI} {d : TypeDesc} (h : tyI P t = some ti) (hd : P.underlying t = some d) : ti.eq = eqOK P t d := by
  unfold tyI at h
  split at h
  · rename_i i d' h1 h2
    rw [hd] at h2; cases h2
    split at h
    · simp at h; rw [← h]
    · simp at h
  · simp at h

theorem kindOf_agg {P : Program} {d : TypeDesc} {ti : TyI} (h : kindOf P d = some ti.kind) : ti.isAgg = aggD d := by
  unfold TyI.isAgg
  unfold kindOf at h
  cases d <;> simp only at h <;> (repeat' split at h) <;> first
    | (injection h with h; rw [← h]; rfl)
    | (cases h; done)

theorem tyI_zero {P : Program} {t : Nat} {ti : TyI} (h : tyI P t = some ti) (hb : ti.zero.bad = false) :
    ∃ i z, P.info? t = some i ∧ i.zero = some z ∧ ti.zero.isAgg = ti.isAgg ∧ ∀ X, VT X ti.zero z := by
  obtain ⟨i, d, h1, h2, _, _, hk⟩ := tyI_info h
  unfold tyI at h
  rw [h1, h2] at h
  simp only [hk, Option.some.injEq] at h
  have hz : ti.zero = (match i.zero with | some z => if isAggV z = aggD d then (unflat P 20 t z.cells.toList).getD .und else .und | none => .und) := by rw [← h]
  split at hz
  · rename_i z hz'
    split at hz
    · rename_i hag
      cases hu : unflat P 20 t z.cells.toList with
      | none => rw [hu] at hz; rw [hz] at hb; simp [AV.bad] at hb
      | some v =>
        rw [hu] at hz
        simp at hz
        have e1 : ti.zero.isAgg = ti.isAgg := by rw [hz, unflat_agg h2 hu, kindOf_agg hk]
        refine ⟨i, z, h1, hz', e1, fun X => ⟨?_, ?_⟩⟩
        · rw [hz]; exact (unflat_sound _ _ _ _ hu).1
        · rw [hag, e1, kindOf_agg hk]
    · rw [hz] at hb; simp [AV.bad] at hb
  · rw [hz] at hb; simp [AV.bad] at hb

theorem info_of_underlying {P : Program} {t : TypeId} {d : TypeDesc} (h : P.underlying t = some d) : ∃ i, P.info? t = some i := by
  unfold Program.underlying at h
  cases hi : P.info? t with
  | none => rw [hi] at h; simp at h
  | some i => exact ⟨i, rfl⟩

end Go.AM

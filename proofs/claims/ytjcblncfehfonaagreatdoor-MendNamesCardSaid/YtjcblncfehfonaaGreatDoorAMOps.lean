/- A part of the abstract machine on which the proof of this claim stands: AMOps (definitions and lemmas alone; no statement of the claim; no condition). -/
import Derived.Test.YtjcblncfehfonaaGreatDoorAMTy
import Derived.Laws.Entries
namespace Go.AM
open Go Go.RowKit

/-- an operand's value -/
def ev (tmps : Array Value) : Operand → Value
  | .tmp t => tmps.getD t undef
  | .const v => v
  | .global g => .pointer (some ⟨g, 0, none⟩)
  | .func f => .func (.func f) #[] #[]

theorem ofVal_sound {X : Cx} {v : Value} (h : (ofVal v).isUnd = false) : VT X (ofVal v) v := by
  unfold ofVal at h ⊢
  split <;> first
    | exact ⟨.int _ _, rfl⟩ | exact ⟨.bool _, rfl⟩ | exact ⟨.str _, rfl⟩ | exact ⟨.flt _ _, rfl⟩ | exact ⟨.nilp, rfl⟩ | exact ⟨.nils, rfl⟩
    | exact ⟨.nilm, rfl⟩ | exact ⟨.nilf, rfl⟩ | exact ⟨.nili, rfl⟩ | skip
  · simp_all [AV.isUnd]

theorem eval_sound {X : Cx} {fr : Fr} {tmps : Array Value} (hf : FR X fr tmps) {x : Operand} (h : (fr.eval x).isUnd = false) : VT X (fr.eval x) (ev tmps x) := by
  cases x with
  | tmp t => exact (hf t h).2
  | const v => exact ofVal_sound h
  | global g => simp [Fr.eval, AV.isUnd] at h
  | func f => exact ⟨.fn f [] [] [] [] rfl rfl (by simp) (by simp) (by simp) (by simp), rfl⟩

theorem VT.int {X : Cx} {k : IntKind} {n : Int} {x : Value} (h : VT X (.int k n) x) : x = .int k n := by
  have := h.one rfl; cases this; rfl
theorem VT.bool {X : Cx} {b : Bool} {x : Value} (h : VT X (.bool b) x) : x = .bool b := by
  have := h.one rfl; cases this; rfl
theorem VT.str {X : Cx} {s : ByteArray} {x : Value} (h : VT X (.str s) x) : x = .string s := by
  have := h.one rfl; cases this; rfl
theorem VT.flt {X : Cx} {k : FloatKind} {n : Nat} {x : Value} (h : VT X (.flt k n) x) : x = .float k n := by
  have := h.one rfl; cases this; rfl
theorem VT.nilp {X : Cx} {x : Value} (h : VT X .nilp x) : x = .pointer none := by
  have := h.one rfl; cases this; rfl
theorem VT.nils {X : Cx} {x : Value} (h : VT X .nils x) : x = .slice none 0 0 := by
  have := h.one rfl; cases this; rfl
theorem VT.nilm {X : Cx} {x : Value} (h : VT X .nilm x) : x = .map none := by
  have := h.one rfl; cases this; rfl
theorem VT.nilf {X : Cx} {x : Value} (h : VT X .nilf x) : x = .nilFunc := by
  have := h.one rfl; cases this; rfl
theorem VT.nili {X : Cx} {x : Value} (h : VT X .nili x) : x = .nilIface := by
  have := h.one rfl; cases this; rfl
theorem VT.vptr {X : Cx} {v : AV} {x : Value} (h : VT X (.vptr v) x) : ∃ b o cs, x = .pointer (some ⟨b, o, none⟩) ∧ VR X v cs ∧ v.bad = false ∧
    (∀ i c, cs[i]? = some c → X.cell b (o + i) = some c) ∧ (∀ i, i < cs.length → X.imm b (o + i)) := by
  have := h.one rfl; cases this
  exact ⟨_, _, _, rfl, by assumption, by assumption, by assumption, by assumption⟩
theorem VT.ref {X : Cx} {l st : Nat} {p : List Nat} {off : Nat} {x : Value} (h : VT X (.ref l st p off) x) : x = .pointer (some ⟨X.blk st, off, none⟩) ∧ X.live st := by
  have := h.one rfl; cases this
  exact ⟨rfl, by assumption⟩
theorem VT.map {X : Cx} {l st : Nat} {x : Value} (h : VT X (.map l st) x) : x = .map (some (X.blk st)) ∧ X.live st := by
  have := h.one rfl; cases this
  exact ⟨rfl, by assumption⟩
theorem VT.tup {X : Cx} {vs : List AV} {x : Value} (h : VT X (.tup vs) x) : ∃ xs : List Value, x = .tuple xs.toArray ∧ vs.length = xs.length ∧
    ∀ (i : Nat) (a : AV) (y : Value), vs[i]? = some a → xs[i]? = some y → VT X a y := by
  have := h.one rfl; cases this
  rename_i xs hl h1 h2
  exact ⟨xs, rfl, hl, fun i a y ha hy => ⟨h1 i a y ha hy, h2 i a y ha hy⟩⟩
theorem VT.iface {X : Cx} {t : TypeId} {v : AV} {x : Value} (h : VT X (.iface t v) x) : ∃ y, x = .iface t y ∧ VT X v y ∧ v.bad = false := by
  have := h.one rfl; cases this
  exact ⟨_, rfl, ⟨by assumption, by assumption⟩, by assumption⟩
theorem VT.vsl {X : Cx} {e : Nat} {es : List AV} {tok : Tok} {x : Value} (h : VT X (.vsl e es tok) x) : ∃ (b o cap : Nat) (css : List (List Value)), x = .slice (some ⟨b, o, none⟩) es.length cap ∧
    es.length = css.length ∧ (∀ (i : Nat) (a : AV) (c : List Value), es[i]? = some a → css[i]? = some c → VR X a c) ∧ (∀ (i : Nat) (c : List Value), css[i]? = some c → c.length = e) ∧
    (∀ a ∈ es, a.bad = false) ∧ (∀ i c, css.flatten[i]? = some c → X.cell b (o + i) = some c) ∧ (∀ i, i < css.flatten.length → X.imm b (o + i)) ∧ es.length ≤ cap ∧
    TokOK X tok b o es.length cap e := by
  have := h.one rfl; cases this
  exact ⟨_, _, _, _, rfl, by assumption, by assumption, by assumption, by assumption, by assumption, by assumption, by assumption, by assumption⟩
theorem VT.sref {X : Cx} {e l st : Nat} {p : List Nat} {off lo len : Nat} {x : Value} (h : VT X (.sref e l st p off lo len) x) : ∃ b o cap, x = .slice (some ⟨b, o, none⟩) len cap ∧
    X.live st ∧ len ≤ cap ∧ (cap = 0 ∨ (b = X.blk st ∧ o = off + lo * e)) := by
  have := h.one rfl; cases this
  exact ⟨_, _, _, rfl, by assumption, by assumption, by assumption⟩

section
/-- the machine's types are the program's -/
def Tys (E : Env) (P : Program) : Prop := ∀ t ti, E.ty t = some ti → tyI P t = some ti
variable {P : Program} {E : Env} {m : Mem} {X : Cx}

theorem obj_obj {m : Mem} {l st : Nat} {o : AO} (h : m.obj l st = some o) (hh : o.isHole = false) : m.has l st o := by
  unfold Mem.obj at h
  split at h
  · rename_i s o' ho
    split at h
    · rename_i hs; subst hs; simp at h; subst h; exact ⟨ho, hh⟩
    · simp at h
  · simp at h

theorem tree_obj {m : Mem} {l st : Nat} {v : AV} (h : m.tree l st = some v) : m.has l st (.tree v) := by
  unfold Mem.tree at h
  split at h
  · rename_i v' hv
    simp at h; subst h
    exact obj_obj hv rfl
  · simp at h

/-- an object's part: its cells -/
theorem Sim.part (hs : Sim m X) {l st : Nat} {v u : AV} {p : List Nat} {o : Nat} (ht : m.tree l st = some v) (hr : v.resolve p = some (u, o)) :
    ∃ cs T pre cu post, X.w.heap[X.blk st]? = some (.cells cs T (0, 0)) ∧ cs.toList = pre ++ cu ++ post ∧ pre.length = o ∧ VR X u cu ∧ u.bad = false ∧
      (∀ i c, cu[i]? = some c → X.cell (X.blk st) (o + i) = some c) ∧
      ∀ x cx, VR X x cx → x.bad = false → cx.length = cu.length → VR X (v.put p x) (pre ++ cx ++ post) ∧ (v.put p x).bad = false := by
  obtain ⟨_, _, ⟨hb, cs, T, hc, hv⟩, _⟩ := hs.objs l st _ (tree_obj ht)
  obtain ⟨pre, cu, post, e1, e2, e3, e4, e5⟩ := resolve_sound p hv hr
  refine ⟨cs, T, pre, cu, post, hc, e1, e2, e3, e4 hb, fun i c hi => ?_, e5⟩
  show X.w.cell? ⟨X.blk st, o + i, none⟩ = some c
  rw [cell_of_block hc, ← Array.getElem?_toList, e1, ← e2]
  have := lt_of_some hi
  rw [List.append_assoc, List.getElem?_append_right (by omega), List.getElem?_append_left (by omega)]
  simpa using hi

theorem add_none (b o i : Nat) : (⟨b, o, none⟩ : Addr).add i = ⟨b, o + i, none⟩ := by
  unfold Addr.add; split
  · rename_i h; subst h; rfl
  · rfl

/-- cells read as a value of a type -/
theorem loadVar_sound {t : Nat} {ti : TyI} (ht : tyI P t = some ti) {v : AV} {cu : List Value} {b o : Nat} (hv : VR X v cu) (ha : v.isAgg = ti.isAgg) (hz : v.size = ti.size)
    (hc : ∀ i c, cu[i]? = some c → X.cell b (o + i) = some c) : ∃ x, (loadVar t ⟨b, o, none⟩).run P X.w = .ok x X.w ∧ VT X v x := by
  obtain ⟨i, d, h1, h2, h3, h4, hk⟩ := tyI_info ht
  have hlen : cu.length = i.size := by rw [hv.size, hz, h3]
  have hagg : (isAgg t).run P X.w = .ok (aggD d) X.w := by
    unfold isAgg
    rw [Sem.run_bind, run_underlying h2]
    cases d <;> rfl
  unfold loadVar
  rw [Sem.run_bind, hagg, Result.andThen_ok]
  rw [kindOf_agg hk] at ha
  cases hd : aggD d with
  | true =>
    rw [hd] at ha
    simp only [if_true]
    have hsz : (sizeOf t).run P X.w = .ok cu.length X.w := by
      simp [sizeOf, typeInfo, h1, hlen]
    rw [Sem.run_bind, hsz, Result.andThen_ok, Sem.run_bind, run_loadCells_list]
    · exact ⟨.agg cu.toArray, rfl, VT.of_agg hv ha⟩
    · intro j c hj; rw [add_none]; exact hc j c hj
  | false =>
    rw [hd] at ha
    have h1' : cu.length = 1 := by
      rw [hv.size]; cases v <;> simp_all [AV.size, AV.isAgg]
    obtain ⟨c, rfl⟩ := List.length_eq_one_iff.1 h1'
    have := hc 0 c rfl
    have hcell : X.w.cell? ⟨b, o, none⟩ = some c := this
    simp only [Bool.false_eq_true, if_false]
    rw [run_load, hcell]
    refine ⟨c, rfl, VT.of_one hv ha ?_⟩
    cases v with
    | tup vs => cases hv; rfl
    | und => cases hv
    | _ =>
      have := hv.one (by first | rfl | (simp [AV.isAgg] at ha)) c (by simp)
      cases c <;> simp_all [isAggV, Value.oneCell']

theorem load_sound (hE : Tys E P) (hs : Sim m X) {t : Nat} {a v : AV} {ca : Value} (ha : VT X a ca) (h : load E m t a = some v) :
    ∃ x, (Instr.loadAt t ca).run P X.w = .ok x X.w ∧ VT X v x := by
  unfold load at h
  split at h
  · simp at h
  · rename_i ti hti
    have hti := hE t ti hti
    split at h
    · split at h
      · rename_i hc
        simp at h; subst h
        obtain ⟨b, o, cs, rfl, hv, _, h3, _⟩ := ha.vptr
        obtain ⟨x, hx, hvx⟩ := loadVar_sound hti hv hc.1 hc.2 h3
        exact ⟨x, by simp [Instr.loadAt, Instr.sureAddr, hx], hvx⟩
      · simp at h
    · split at h
      · simp at h
      · rename_i v' hv'
        split at h
        · simp at h
        · rename_i u o hr
          split at h
          · rename_i hc
            simp at h; subst h
            obtain ⟨rfl, _⟩ := ha.ref
            obtain ⟨cs, T, pre, cu, post, g1, g2, g3, g4, g5, g6, _⟩ := hs.part hv' hr
            obtain ⟨ho, h1, h2⟩ := hc
            subst ho
            obtain ⟨x, hx, hvx⟩ := loadVar_sound hti g4 h1 h2 g6
            exact ⟨x, by simp [Instr.loadAt, Instr.sureAddr, hx], hvx⟩
          · simp at h
    · simp at h

theorem setTree_some {m m' : Mem} {l st : Nat} {v x : AV} (h : m.setTree l st v x = some m') :
    m.lo ≤ l ∧ (m.lo2 ≤ l ∨ x.free = true) ∧ m' = { m with objs := m.objs.set l (st, .tree v) } := by
  unfold Mem.setTree at h
  split at h
  · rename_i hc; simp at h; exact ⟨hc.1, hc.2, h.symm⟩
  · simp at h

theorem put_cells {pre cu post cx : List Value} {cs : Array Value} {o : Nat} (e1 : cs.toList = pre ++ cu ++ post) (e2 : pre.length = o) (e3 : cx.length = cu.length) :
    cs.toList.take o ++ cx ++ cs.toList.drop (o + cx.length) = pre ++ cx ++ post := by
  rw [e1, ← e2]
  have h1 : List.take pre.length (pre ++ cu ++ post) = pre := by
    rw [List.append_assoc]; exact List.take_left
  have h2 : List.drop (pre.length + cx.length) (pre ++ cu ++ post) = post := by
    rw [e3, ← List.length_append]; exact List.drop_left
  rw [h1, h2]

theorem store_sound (hE : Tys E P) (hs : Sim m X) {t : Nat} {a x : AV} {ca cx : Value} {m' : Mem} (ha : VT X a ca) (hx : VT X x cx) (h : store E m t a x = some m') :
    ∃ Y, X.le Y ∧ Sim m' Y ∧ (Instr.storeAt t ca cx).run P X.w = .ok () Y.w := by
  unfold store at h
  split at h
  · simp at h
  · rename_i ti hti
    have hti := hE t ti hti
    split at h
    · split at h
      · simp at h
      · rename_i v' hv'
        split at h
        · simp at h
        · rename_i u o hr
          split at h
          · rename_i hc
            obtain ⟨hb, ho, hz, hag, hsz⟩ := hc
            obtain ⟨_, _, rfl⟩ := setTree_some h
            obtain ⟨rfl, _⟩ := ha.ref
            obtain ⟨cs, T, pre, cu, post, g1, g2, g3, g4, g5, g6, g7⟩ := hs.part hv' hr
            have hlen : cx.cells.toList.length = cu.length := by rw [hx.1.size, g4.size, hz]
            obtain ⟨k1, k2⟩ := g7 x _ hx.1 hb hlen
            obtain ⟨i, d, i1, i2, i3, i4, i5⟩ := tyI_info hti
            have hpc := put_cells g2 g3 hlen
            obtain ⟨hle, hsim⟩ := hs.setTree (tree_obj hv') g1 (cs := (pre ++ cx.cells.toList ++ post).toArray) (by simpa using k1) k2
            refine ⟨_, hle, hsim, ?_⟩
            have hsize : cx.cells.size = i.size := by rw [← Array.length_toList, hx.1.size, hsz, i3]
            have hcs : cs.size = pre.length + cu.length + post.length := by rw [← Array.length_toList, g2]; simp; omega
            have hst := run_storeCells_at (P := P) (X.blk _) o T cx.cells.toList 0 cs X.w g1 (by omega) (hx.1.one hb)
            simp only [Nat.add_zero] at hst
            rw [hpc] at hst
            subst ho
            simp only [Instr.storeAt, Instr.sureAddr, storeVar, Sem.run_bind, Sem.run_pure, Result.andThen_ok, sizeOf, typeInfo, run_program, i1, hsize]
            simpa [Cx.at, List.append_assoc] using hst
          · simp at h
    · simp at h

end
end Go.AM

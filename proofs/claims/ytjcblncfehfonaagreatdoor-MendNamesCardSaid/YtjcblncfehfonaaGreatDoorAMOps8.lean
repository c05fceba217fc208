/- A part of the abstract machine on which the proof of this claim stands: AMOps8 (definitions and lemmas alone; no statement of the claim; no condition). -/
import Derived.Test.YtjcblncfehfonaaGreatDoorAMOps7
import Derived.Laws.IdiomStrings
namespace Go.AM
open Go Go.RowKit
section
variable {P : Program} {E : Env} {m : Mem} {X : Cx}

/-- a slice whose elements are known, where they stand -/
theorem elems_sound (hs : Sim m X) {x : AV} {e : Nat} {es : List AV} {cx : Value} (hx : VT X x cx) (h : elems m x = some (e, es)) :
    ∃ (b o cap : Nat) (css : List (List Value)), cx = .slice (some ⟨b, o, none⟩) es.length cap ∧ es.length = css.length ∧
      (∀ (i : Nat) (a : AV) (c : List Value), es[i]? = some a → css[i]? = some c → VR X a c) ∧ (∀ (i : Nat) (c : List Value), css[i]? = some c → c.length = e) ∧
      (∀ a ∈ es, a.bad = false) ∧ (∀ i c, css.flatten[i]? = some c → X.cell b (o + i) = some c) ∧ es.length ≤ cap := by
  unfold elems at h
  split at h
  · simp only [Option.some.injEq, Prod.mk.injEq] at h
    obtain ⟨rfl, rfl⟩ := h
    obtain ⟨b, o, cap, css, rfl, h0, h1, h2, h3, h4, h5, h6, h7⟩ := hx.vsl
    exact ⟨b, o, cap, css, rfl, h0, h1, h2, h3, h4, h6⟩
  · rename_i e' l st p off lo len
    split at h
    · simp at h
    · rename_i v hv
      split at h
      · rename_i n e2 ks o2 hr
        split at h
        · rename_i hc
          obtain ⟨rfl, rfl, hlen⟩ := hc
          simp only [Option.some.injEq, Prod.mk.injEq] at h
          obtain ⟨rfl, rfl⟩ := h
          obtain ⟨b, o, cap, rfl, hst, hcap, hor⟩ := hx.sref
          obtain ⟨cs, T, pre, cu, post, g1, g2, g3, g4, g5, g6, _⟩ := hs.part hv hr
          have hlen' : ((ks.drop lo).take len).length = len := by simp; omega
          cases g4 with
          | arr _ _ _ css hl h1 he hb hn =>
            refine ⟨b, o, cap, (css.drop lo).take len, by rw [hlen'], by simp [hl], ?_, ?_, ?_, ?_, by omega⟩
            · intro i a c ha hc'
              rw [List.getElem?_take] at ha hc'
              split at ha
              · rename_i hik
                rw [if_pos hik, List.getElem?_drop] at hc'
                rw [List.getElem?_drop] at ha
                exact h1 _ a c ha hc'
              · simp at ha
            · intro i c hc'
              rw [List.getElem?_take] at hc'
              split at hc'
              · rw [List.getElem?_drop] at hc'
                exact he _ c hc'
              · simp at hc'
            · exact fun a ha => hb a (List.mem_of_mem_drop (List.mem_of_mem_take ha))
            · intro i c hc'
              rcases hor with rfl | ⟨rfl, rfl⟩
              · have : len = 0 := by omega
                subst this
                simp at hc'
              · have := g6 _ c (flat_sub he (by omega) i c hc')
                rwa [← Nat.add_assoc] at this
        · simp at h
      · simp at h
  · simp at h

theorem bytesOf_some : ∀ {es : List AV} {l : List UInt8}, bytesOf es = some l → ∃ ns : List Int, es = ns.map (AV.int .u8) ∧ l = ns.map fun n => UInt8.ofNat n.toNat
  | [], l, h => by simp [bytesOf] at h; subst h; exact ⟨[], rfl, rfl⟩
  | x :: es, l, h => by
    unfold bytesOf at h
    split at h
    · simp at *
    · rename_i n r hq
      simp only [List.cons.injEq] at hq
      obtain ⟨rfl, rfl⟩ := hq
      split at h
      · rename_i l' hl'
        simp at h; subst h
        obtain ⟨ns, rfl, rfl⟩ := bytesOf_some hl'
        exact ⟨n :: ns, rfl, rfl⟩
      · simp at h
    · simp at h

theorem cells_ints {k : IntKind} : ∀ {ns : List Int} {css : List (List Value)}, ns.length = css.length →
    (∀ (i : Nat) (a : AV) (c : List Value), (ns.map (AV.int k))[i]? = some a → css[i]? = some c → VR X a c) → css.flatten = ns.map (Value.int k)
  | [], css, hl, _ => by
    cases css with
    | nil => rfl
    | cons => simp at hl
  | n :: ns, css, hl, h => by
    cases css with
    | nil => simp at hl
    | cons c css =>
      have h0 := h 0 (.int k n) c rfl rfl
      cases h0
      have ih := cells_ints (ns := ns) (css := css) (by simpa using hl) (fun i a c ha hc => h (i + 1) a c (by simpa using ha) (by simpa using hc))
      simp [ih]

theorem foldl_push : ∀ (ns : List Int) (r : ByteArray), ns.foldl (fun r n => r.push (UInt8.ofNat n.toNat)) r = ⟨r.data ++ (ns.map fun n => UInt8.ofNat n.toNat).toArray⟩
  | [], r => by simp
  | n :: ns, r => by
    rw [List.foldl_cons, foldl_push ns]
    congr 1
    apply Array.ext'
    simp [ByteArray.push]

/-- a block whose first cells stay as they are -/
def Cx.more (X : Cx) (w : World) (n : Nat) : Cx := { X with w := w, imm := fun b k => X.imm b k ∨ (b = X.w.heap.size ∧ k < n) }

theorem more_le (hs : Sim m X) {w0 : World} (h0 : w0.heap = X.w.heap) (ho : w0.os = X.w.os) (ht : w0.tape = X.w.tape) (hu : w0.output = X.w.output) {cs : Array Value} {T : TypeId} {f : Nat × Nat} {n : Nat} (hn : n ≤ cs.size) :
    X.le (X.more (w0.alloc (.cells cs T f)) n) ∧ Sim m (X.more (w0.alloc (.cells cs T f)) n) := by
  have hsz : w0.heap.size = X.w.heap.size := by rw [h0]
  have hlt : ∀ b, b < X.w.heap.size → (w0.alloc (.cells cs T f)).heap[b]? = X.w.heap[b]? := by
    intro b hb
    rw [heap_alloc_lt _ _ (by rw [hsz]; exact hb), h0]
  have hnew : (w0.alloc (.cells cs T f)).heap[X.w.heap.size]? = some (.cells cs T f) := by
    have := heap_alloc_new w0 (.cells cs T f)
    rwa [hsz] at this
  have hle : X.le (X.more (w0.alloc (.cells cs T f)) n) :=
    ⟨rfl, Nat.le_refl _, fun _ h => h, fun _ _ => rfl, fun _ _ => rfl, fun b k h => ⟨.inl h, cell_eq (hlt b (cell_block (hs.immB b k h)))⟩, fun b k hf h => h.elim id (fun h => by have := hs.fixB b hf; omega), fun r h => ⟨h, hlt r (hs.fixB r h)⟩,
      ⟨ho, ht, hu, by show X.w.heap.size ≤ (w0.heap.push _).size; rw [Array.size_push]; omega, fun k hk => hlt k (Nat.lt_of_lt_of_le hk hs.B)⟩⟩
  refine ⟨hle, hs.same hle rfl (fun _ h => h) hlt ?_ (fun r h => .inl h) ?_ ?_⟩
  · rintro b k (h | ⟨rfl, _⟩)
    · exact .inl h
    · exact .inr (Nat.le_refl _)
  · rintro b k (h | ⟨rfl, hk⟩)
    · have := hs.immB b k h
      show ((w0.alloc _).cell? ⟨b, k, none⟩).isSome = true
      rw [cell_eq (hlt b (cell_block this))]; exact this
    · show ((w0.alloc _).cell? ⟨_, k, none⟩).isSome = true
      rw [cell_of_block hnew]
      simp; omega
  · intro r hr
    have := hs.fixB r hr
    show r < (w0.heap.push _).size
    rw [Array.size_push]; omega

theorem VR.bytes {Y : Cx} {s : ByteArray} {b cap : Nat} (hc : ∀ i c, (s.data.toList.map fun x => Value.int .u8 x.toNat)[i]? = some c → Y.cell b i = some c) (hi : ∀ i, i < s.size → Y.imm b i) (hcap : s.size ≤ cap) :
    VR Y (.vsl 1 (bytesAV s) .no) [.slice (some ⟨b, 0, none⟩) s.size cap] := by
  have hlen : (bytesAV s).length = s.size := by rw [bytesAV, List.length_map, Array.length_toList]; rfl
  have key := VR.vsl (X := Y) 1 (bytesAV s) .no b 0 cap ((s.data.toList.map fun x => [Value.int .u8 x.toNat])) (by simp [bytesAV])
    (fun i a c ha hc' => by
      simp only [bytesAV, List.getElem?_map, Option.map_eq_some_iff] at ha hc'
      obtain ⟨x, hx, rfl⟩ := ha
      obtain ⟨x', hx', rfl⟩ := hc'
      rw [hx] at hx'; cases hx'
      exact .int _ _)
    (fun i c hc' => by
      simp only [List.getElem?_map, Option.map_eq_some_iff] at hc'
      obtain ⟨x', hx', rfl⟩ := hc'
      rfl)
    (fun a ha => by
      simp only [bytesAV, List.mem_map] at ha
      obtain ⟨x, _, rfl⟩ := ha
      rfl)
    (fun i c hc' => by
      rw [Nat.zero_add]
      refine hc i c ?_
      rw [← hc']
      congr 1
      induction s.data.toList with
      | nil => rfl
      | cons x l ih => simp [ih])
    (fun i hi' => by
      rw [Nat.zero_add]
      refine hi i ?_
      have : (s.data.toList.map fun x => [Value.int .u8 x.toNat]).flatten.length = s.data.toList.length := by
        induction s.data.toList with
        | nil => rfl
        | cons x l ih => simp [ih]
      rw [this] at hi'
      exact hi')
    (by rw [hlen]; exact hcap) trivial
  rw [hlen] at key
  exact key

theorem isU8_some (hE : Tys E P) {t : Nat} (h : isU8 E t = true) : P.underlying t = some (.int .u8) := by
  unfold isU8 at h
  split at h
  · rename_i hti; exact kind_int (hE _ _ hti) rfl
  · simp at h

theorem conv_sound (hE : Tys E P) (hs : Sim m X) {s d : Nat} {x v : AV} {cx : Value} (hx : VT X x cx) (h : convRes E m s d x = some v) :
    ∃ Y z, X.le Y ∧ Sim m Y ∧ (convert s d cx).run P X.w = .ok z Y.w ∧ VT Y v z := by
  unfold convRes at h
  split at h
  · rename_i si di hsi hdi
    have hsi := hE _ _ hsi
    have hdi := hE _ _ hdi
    obtain ⟨sd, hus⟩ := kind_any hsi
    split at h
    · rename_i k hk
      have hud := kind_int hdi hk
      split at h
      · cases hx.int
        simp at h; subst h
        refine ⟨X, _, Cx.le.refl _, hs, ?_, VT.mkint _ _⟩
        simp [convert, run_underlying hus, run_underlying hud, Conv.intToInt]
      · simp at h
    · rename_i hk
      have hud := kind_str hdi hk
      split at h
      · cases hx.str
        simp at h; subst h
        exact ⟨X, _, Cx.le.refl _, hs, by simp [convert, run_underlying hus, run_underlying hud], VT.mkstr _⟩
      · cases hx.nils
        split at h
        · rename_i e sz eb hsk
          obtain ⟨i, hus', _, _, _⟩ := kind_slice hsi hsk
          split at h
          · rename_i hu8
            simp at h; subst h
            exact ⟨X, _, Cx.le.refl _, hs, by simp [convert, run_underlying hus', run_underlying hud, run_underlying (isU8_some hE hu8), Conv.bytesToString]; rfl, VT.mkstr _⟩
          · simp at h
        · simp at h
      · split at h
        · rename_i e sz eb hsk
          obtain ⟨i, hus', _, _, _⟩ := kind_slice hsi hsk
          split at h
          · rename_i hu8
            split at h
            · rename_i es hes
              split at h
              · rename_i l hl
                simp at h; subst h
                obtain ⟨b, o, cap, css, rfl, h0, h1, h2, h3, h4, h5⟩ := elems_sound hs hx hes
                obtain ⟨ns, rfl, rfl⟩ := bytesOf_some hl
                have hfl := cells_ints (by simpa using h0) h1
                refine ⟨X, _, Cx.le.refl _, hs, ?_, VT.mkstr _⟩
                have hload : (loadCells ⟨b, o, none⟩ ns.length).run P X.w = .ok (ns.map (Value.int .u8)).toArray X.w := by
                  have := run_loadCells_list (P := P) (w := X.w) ⟨b, o, none⟩ (ns.map (Value.int .u8)) (fun j v hj => by rw [add_none]; exact h4 j v (by rw [hfl]; exact hj))
                  simpa using this
                have := run_bytesToString (P := P) X.w ⟨b, o, none⟩ ns.length cap ns hload
                rw [foldl_push] at this
                simp only [convert, run_underlying hus', run_underlying hud, run_underlying (isU8_some hE hu8), Sem.run_bind, Result.andThen_ok, List.length_map, this]
                have e0 : ByteArray.empty.data ++ (ns.map fun n => UInt8.ofNat n.toNat).toArray = (ns.map fun n => UInt8.ofNat n.toNat).toArray := by
                  apply Array.ext'
                  rw [Array.toList_append]
                  rfl
                rw [e0]
                rfl
              · simp at h
            · simp at h
          · simp at h
        · simp at h
    · rename_i e sz eb hk
      obtain ⟨i, hud, _, _, _⟩ := kind_slice hdi hk
      split at h
      · rename_i s' hsk
        cases hx.str
        split at h
        · rename_i hu8
          simp at h; subst h
          have hu := isU8_some hE hu8
          have hrun := run_bytes_of_string (P := P) X.w s d e s' (kind_str hsi hsk) hud hu
          have hcap : s'.size ≤ grownCap X.w s'.size 0 e := by simp only [grownCap, Question.cut]; omega
          have hsize : (bytesRow s' (grownCap X.w s'.size 0 e)).size = grownCap X.w s'.size 0 e := by
            have : s'.data.size = s'.size := rfl
            simp [bytesRow, this]; omega
          obtain ⟨hle, hsim⟩ := more_le (m := m) hs (w0 := X.w.drew) rfl rfl rfl rfl (cs := bytesRow s' (grownCap X.w s'.size 0 e)) (T := e)
            (f := ((bytesRow s' (grownCap X.w s'.size 0 e)).size, (bytesRow s' (grownCap X.w s'.size 0 e)).size + 1)) (n := s'.size) (by rw [hsize]; exact hcap)
          refine ⟨_, _, hle, hsim, hrun, VT.of_one (VR.bytes (fun i c hc => ?_) (fun i hi => .inr ⟨rfl, hi⟩) hcap) rfl rfl⟩
          show (X.w.drew.alloc _).cell? ⟨X.w.drew.heap.size, i, none⟩ = some c
          have hnew := heap_alloc_new X.w.drew (.cells (bytesRow s' (grownCap X.w s'.size 0 e)) e ((bytesRow s' (grownCap X.w s'.size 0 e)).size, (bytesRow s' (grownCap X.w s'.size 0 e)).size + 1))
          rw [cell_of_block (w := X.w.drew.alloc _) hnew]
          have hlt := lt_of_some hc
          simp only [bytesRow]
          rw [Array.getElem?_append_left (by simpa using hlt), ← hc]
          simp
        · simp at h
      · simp at h
    · simp at h
  · simp at h

end
end Go.AM

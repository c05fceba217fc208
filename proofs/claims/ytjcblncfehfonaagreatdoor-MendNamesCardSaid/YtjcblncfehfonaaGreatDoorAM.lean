/- A part of the abstract machine on which the proof of this claim stands: AM (definitions and lemmas alone; no statement of the claim; no condition). -/
import GoSem.Dispatch
import GoSem.Machine.Return
namespace Go.AM
open Go

/-- who may append to a value slice: nobody; whoever (it has no spare room); the holder of a live token -/
inductive Tok where
  | no
  | exact
  | live (t st : Nat)
  deriving DecidableEq, Repr, Inhabited

/-- abstract values: trees -/
inductive AV where
  | und
  | int (k : IntKind) (n : Int)
  | bool (b : Bool)
  | str (s : ByteArray)
  | flt (k : FloatKind) (b : Nat)
  | nilp | nils | nilm | nilf | nili
  | vptr (v : AV)
  | ref (l st : Nat) (path : List Nat) (off : Nat)
  | vsl (esz : Nat) (es : List AV) (tok : Tok)
  | sref (esz l st : Nat) (path : List Nat) (off lo len : Nat)
  | map (l st : Nat)
  | fn (f : Fn) (first cap : List AV)
  | yld (l st : Nat)
  | iface (t : TypeId) (v : AV)
  | agg (n : Nat) (kids : List AV)
  | arr (n esz : Nat) (kids : List AV)
  | tup (vs : List AV)
  deriving Inhabited

namespace AV
def size : AV → Nat
  | .agg n _ => n
  | .arr n _ _ => n
  | _ => 1
def isAgg : AV → Bool
  | .agg _ _ => true
  | .arr _ _ _ => true
  | _ => false
def isUnd : AV → Bool
  | .und => true
  | _ => false
/-- what never lies in memory -/
def bad : AV → Bool
  | .und => true
  | .tup _ => true
  | _ => false
/-- the cells that stand ahead of kid i -/
def offs : List AV → Nat → Nat
  | _, 0 => 0
  | [], _ => 0
  | k :: ks, i + 1 => k.size + offs ks i
/-- the part at a path, and its first cell's place -/
def resolve : AV → List Nat → Option (AV × Nat)
  | v, [] => some (v, 0)
  | .agg _ ks, i :: p =>
    match ks[i]? with
    | some k => (match k.resolve p with | some (u, o) => some (u, offs ks i + o) | none => none)
    | none => none
  | .arr _ e ks, i :: p =>
    match ks[i]? with
    | some k => (match k.resolve p with | some (u, o) => some (u, i * e + o) | none => none)
    | none => none
  | _, _ :: _ => none
/-- the tree with another part at a path -/
def put : AV → List Nat → AV → AV
  | _, [], u => u
  | .agg n ks, i :: p, u => match ks[i]? with | some k => .agg n (ks.set i (k.put p u)) | none => .agg n ks
  | .arr n e ks, i :: p, u => match ks[i]? with | some k => .arr n e (ks.set i (k.put p u)) | none => .arr n e ks
  | v, _ :: _, _ => v
end AV

mutual
/-- no address of an object numbered b or more, no token numbered t or more, none made at the time c or later -/
def AV.under (b t c : Nat) : AV → Bool
  | .und | .int _ _ | .bool _ | .str _ | .flt _ _ | .nilp | .nils | .nilm | .nilf | .nili => true
  | .vptr v => v.under b t c
  | .ref l s _ _ => decide (l < b) && decide (s < c)
  | .sref _ l s _ _ _ _ => decide (l < b) && decide (s < c)
  | .map l s => decide (l < b) && decide (s < c)
  | .yld l s => decide (l < b) && decide (s < c)
  | .vsl _ es tok => (match tok with | .live n s => decide (n < t) && decide (s < c) | _ => true) && AV.unders b t c es
  | .fn _ fs cs => AV.unders b t c fs && AV.unders b t c cs
  | .iface _ v => v.under b t c
  | .agg _ ks => AV.unders b t c ks
  | .arr _ _ ks => AV.unders b t c ks
  | .tup vs => AV.unders b t c vs
def AV.unders (b t c : Nat) : List AV → Bool
  | [] => true
  | v :: vs => v.under b t c && AV.unders b t c vs
end

def AV.free (v : AV) : Bool := v.under 0 0 0

inductive Mode where
  | pure | mut | keep
  deriving DecidableEq, Repr, Inhabited

structure Ann where
  mode : Mode := .pure
  ntmps : Nat
  nloc : Nat
  exports : List Nat := []
  heads : List (Nat × List Nat) := []      -- slots that live at the head of the loop in a block
  keeps : List Nat := []                   -- blocks whose loops keep what their rounds make
  noRange : Bool := false
  pairs : List (Nat × List (Nat × Nat)) := []   -- regions that draw: a load and a store that must be apart
  deriving Inhabited

/-- loops over functions -/
structure ALoop where
  state : LoopState
  pending : Option Code
  fn : Nat
  ann : Ann
  frame : List (Nat × AV)
  params : List Nat
  assign : Code
  body : Code
  deriving Inhabited

inductive AO where
  | tree (v : AV)
  | map (es : List (AV × AV))
  | loop (l : ALoop)
  | hole
  deriving Inhabited
def AO.isHole : AO → Bool
  | .hole => true
  | _ => false

structure Mem where
  objs : List (Nat × AO)
  toks : List Nat
  clk : Nat
  lo : Nat := 0
  lo2 : Nat := 0
  tlo : Nat := 0
  deriving Inhabited

/-- an object that is there -/
def Mem.has (m : Mem) (l st : Nat) (o : AO) : Prop := m.objs[l]? = some (st, o) ∧ o.isHole = false
def Mem.obj (m : Mem) (l st : Nat) : Option AO :=
  match m.objs[l]? with
  | some (s, o) => if s = st then some o else none
  | none => none
def Mem.tree (m : Mem) (l st : Nat) : Option AV :=
  match m.obj l st with
  | some (.tree v) => some v
  | _ => none
def Mem.new (m : Mem) (o : AO) : Nat × Nat × Mem :=
  (m.objs.length, m.clk, { m with objs := m.objs ++ [(m.clk, o)], clk := m.clk + 1 })
def Mem.newTok (m : Mem) : Nat × Nat × Mem :=
  (m.toks.length, m.clk, { m with toks := m.toks ++ [m.clk], clk := m.clk + 1 })
def Mem.setTree (m : Mem) (l st : Nat) (v : AV) (stored : AV) : Option Mem :=
  if m.lo ≤ l ∧ (m.lo2 ≤ l ∨ stored.free = true) then some { m with objs := m.objs.set l (st, .tree v) } else none

/-- frames: sorted lists of slots -/
abbrev Fr := List (Nat × AV)
def Fr.get : Fr → Nat → AV
  | [], _ => .und
  | (k, v) :: r, t => if k = t then v else Fr.get r t
def Fr.set : Fr → Nat → AV → Fr
  | [], t, v => [(t, v)]
  | (k, u) :: r, t, v => if t < k then (t, v) :: (k, u) :: r else if k = t then (t, v) :: r else (k, u) :: Fr.set r t v

/-- what is known of a type -/
inductive TK where
  | bool | int (k : IntKind) | flt (k : FloatKind) | str
  | ptr (e : Nat) | slice (e esz ebytes : Nat) | array (len e esz : Nat) (eagg : Bool)
  | map (k e : Nat) | struct (fs : List (Nat × Nat × Bool × Nat)) | func | iface | other
  deriving DecidableEq, Repr, Inhabited
structure TyI where
  kind : TK
  size : Nat
  bytes : Nat
  zero : AV
  eq : Bool
  deriving Inhabited
def TyI.isAgg (t : TyI) : Bool := match t.kind with | .array .. => true | .struct _ => true | _ => false

inductive Prim where
  | indexByte
  | errorsAs
  deriving DecidableEq, Repr, Inhabited

structure FnI where
  body : Code
  nparams : Nat
  results : List ResultVar
  ann : Ann
  deriving Inhabited

structure Env where
  ty : Nat → Option TyI
  fn : Nat → Option FnI
  prim : Nat → Option Prim

inductive Ctl where
  | normal
  | exit (id : Nat)
  | goto (l : Nat)
  | ret
  deriving DecidableEq, Repr, Inhabited

def ofVal : Value → AV
  | .int k n => .int k n
  | .bool b => .bool b
  | .string s => .str s
  | .float k b => .flt k b
  | .pointer none => .nilp
  | .slice none 0 0 => .nils
  | .map none => .nilm
  | .nilFunc => .nilf
  | .nilIface => .nili
  | _ => .und

def Fr.eval (fr : Fr) : Operand → AV
  | .tmp t => fr.get t
  | .const v => ofVal v
  | .global _ => .und
  | .func f => .fn (.func f) [] []

def def? (v : AV) : Option AV := if v.isUnd then none else some v
def plain? (v : AV) : Option AV := if v.bad then none else some v

/-! ### memory -/
def load (E : Env) (m : Mem) (t : Nat) (a : AV) : Option AV :=
  match E.ty t with
  | none => none
  | some ti =>
    match a with
    | .vptr v => if v.isAgg = ti.isAgg ∧ v.size = ti.size then some v else none
    | .ref l st p off =>
      match m.tree l st with
      | none => none
      | some v =>
        match v.resolve p with
        | none => none
        | some (u, o) => if o = off ∧ u.isAgg = ti.isAgg ∧ u.size = ti.size then some u else none
    | _ => none

def store (E : Env) (m : Mem) (t : Nat) (a x : AV) : Option Mem :=
  match E.ty t with
  | none => none
  | some ti =>
    match a with
    | .ref l st p off =>
      match m.tree l st with
      | none => none
      | some v =>
        match v.resolve p with
        | none => none
        | some (u, o) => if x.bad = false ∧ o = off ∧ u.size = x.size ∧ u.isAgg = x.isAgg ∧ x.size = ti.size then m.setTree l st (v.put p x) x else none
    | _ => none

def fieldAddr (E : Env) (t : Nat) (a : AV) (f : Nat) : Option AV :=
  match E.ty t with
  | some { kind := .struct os, .. } =>
    match os[f]? with
    | none => none
    | some (o, _) =>
      match a with
      | .ref l st p off => some (.ref l st (p ++ [f]) (off + o))
      | .vptr (.agg _ ks) =>
        match ks[f]? with
        | some k => if AV.offs ks f = o then some (.vptr k) else none
        | none => none
      | _ => none
  | _ => none

def field (E : Env) (t : Nat) (x : AV) (f : Nat) : Option AV :=
  match E.ty t with
  | some { kind := .struct os, .. } =>
    match os[f]?, x with
    | some (o, z, g, _), .agg _ ks =>
      match ks[f]? with
      | some k => if AV.offs ks f = o ∧ k.size = z ∧ k.isAgg = g then some k else none
      | none => none
    | _, _ => none
  | _ => none

def indexAddr (E : Env) (t : Nat) (x i : AV) : Option AV :=
  match i with
  | .int _ n =>
    match E.ty t with
    | some { kind := .array len _ esz _, .. } =>
      if 0 ≤ n ∧ n < len then
        match x with
        | .ref l st p off => some (.ref l st (p ++ [n.toNat]) (off + n.toNat * esz))
        | .vptr (.arr _ e ks) =>
          match ks[n.toNat]? with
          | some k => if e = esz then some (.vptr k) else none
          | none => none
        | _ => none
      else none
    | some { kind := .slice _ esz _, .. } =>
      match x with
      | .vsl e es _ =>
        if 0 ≤ n ∧ e = esz then (match es[n.toNat]? with | some k => some (.vptr k) | none => none) else none
      | .sref e l st p off lo len =>
        if 0 ≤ n ∧ n < len ∧ e = esz then some (.ref l st (p ++ [lo + n.toNat]) (off + (lo + n.toNat) * e)) else none
      | _ => none
    | _ => none
  | _ => none

def index (E : Env) (t : Nat) (x i : AV) : Option AV :=
  match i with
  | .int _ n =>
    match x with
    | .str s =>
      match E.ty t with
      | some { kind := .str, .. } => if 0 ≤ n then (match s[n.toNat]? with | some b => some (.int .u8 b.toNat) | none => none) else none
      | _ => none
    | .arr _ e ks =>
      match E.ty t with
      | some { kind := .array len _ esz g, .. } =>
        if 0 ≤ n ∧ n < len ∧ e = esz then
          match ks[n.toNat]? with
          | some k => if k.isAgg = g then some k else none
          | none => none
        else none
      | _ => none
    | _ => none
  | _ => none

/-- the elements of a slice -/
def elems (m : Mem) : AV → Option (Nat × List AV)
  | .vsl e es _ => some (e, es)
  | .sref e l st p off lo len =>
    match m.tree l st with
    | none => none
    | some v =>
      match v.resolve p with
      | some (.arr _ e' ks, o) => if o = off ∧ e' = e ∧ lo + len ≤ ks.length then some (e, (ks.drop lo).take len) else none
      | _ => none
  | _ => none

def natOf (y : Nat) (x : AV) : Option Nat :=
  match x with
  | .int _ n => if 0 ≤ n ∧ n ≤ y then some n.toNat else none
  | _ => none
def optNat (y d : Nat) : Option AV → Option Nat
  | none => some d
  | some x => natOf y x

def sliceOf (E : Env) (t : Nat) (x : AV) (lo hi mx : Option AV) : Option AV :=
  match x with
  | .str s =>
    match E.ty t with
    | some { kind := .str, .. } =>
      (match mx, optNat s.size s.size hi with
      | none, some h => (match optNat h 0 lo with | some l => some (.str (s.extract l h)) | none => none)
      | _, _ => none)
    | _ => none
  | .nils =>
    match E.ty t with
    | some { kind := .slice _ _ _, .. } =>
      (match mx, optNat 0 0 hi with
      | none, some h => (match optNat h 0 lo with | some _ => some .nils | none => none)
      | _, _ => none)
    | _ => none
  | .vsl e es tok =>
    match E.ty t with
    | some { kind := .slice _ esz _, .. } =>
      if e = esz then
        match mx with
        | some mv =>
          (match natOf es.length mv, hi with
          | some m, some hv => (match natOf m hv with
            | some h => (match optNat h 0 lo with
              | some l => some (.vsl e ((es.drop l).take (h - l)) (if h = m then .exact else .no))
              | none => none)
            | none => none)
          | _, _ => none)
        | none =>
          match optNat es.length es.length hi with
          | none => none
          | some h => match optNat h 0 lo with
            | some l => some (.vsl e ((es.drop l).take (h - l)) (if h = es.length then tok else .no))
            | none => none
      else none
    | _ => none
  | .sref e l st p off lo0 len =>
    match E.ty t with
    | some { kind := .slice _ esz _, .. } =>
      if e = esz then
        match mx with
        | some mv =>
          match natOf len mv, hi with
          | some m, some h => (match natOf m h with
            | some h => (match optNat h 0 lo with
              | some l => if h = l ∧ m = h then some (.vsl e [] .exact) else none
              | none => none)
            | none => none)
          | _, _ => none
        | none =>
          match optNat len len hi with
          | none => none
          | some h => match optNat h 0 lo with
            | some a => some (.sref e l st p off (lo0 + a) (h - a))
            | none => none
      else none
    | _ => none
  | .ref l st p off =>
    match E.ty t, mx with
    | some { kind := .array n _ esz _, .. }, none =>
      (match optNat n n hi with
      | none => none
      | some h => match optNat h 0 lo with
        | some a => some (.sref esz l st p off a (h - a))
        | none => none)
    | _, _ => none
  | .vptr (.arr _ e ks) =>
    match E.ty t, mx with
    | some { kind := .array n _ esz _, .. }, none =>
      if e = esz ∧ ks.length = n then
        (match optNat n n hi with
        | none => none
        | some h => match optNat h 0 lo with
          | some a => some (.vsl e ((ks.drop a).take (h - a)) (if h = n then .exact else .no))
          | none => none)
      else none
    | _, _ => none
  | _ => none

/-! ### operators -/
def cmpRes (op : BinOp) (a b : Int) : Option AV :=
  match op with
  | .eql => some (.bool (a == b))
  | .neq => some (.bool (a != b))
  | .lss => some (.bool (a < b))
  | .leq => some (.bool (a ≤ b))
  | .gtr => some (.bool (a > b))
  | .geq => some (.bool (a ≥ b))
  | _ => none
def bitsRes (op : BinOp) (k : IntKind) (x y : Int) : Option AV :=
  let a := BitVec.ofInt k.bits x
  let b := BitVec.ofInt k.bits y
  match op with
  | .and => some (.int k (k.wrap (a &&& b).toNat))
  | .or => some (.int k (k.wrap (a ||| b).toNat))
  | .xor => some (.int k (k.wrap (a ^^^ b).toNat))
  | .andNot => some (.int k (k.wrap (a &&& ~~~b).toNat))
  | _ => none
def intRes (op : BinOp) (k : IntKind) (a b : Int) : Option AV :=
  match op with
  | .add => some (.int k (k.wrap (a + b)))
  | .sub => some (.int k (k.wrap (a - b)))
  | .mul => some (.int k (k.wrap (a * b)))
  | .quo => if b = 0 then none else some (.int k (k.wrap (a.tdiv b)))
  | .rem => if b = 0 then none else some (.int k (a.tmod b))
  | .and | .or | .xor | .andNot => bitsRes op k a b
  | op => cmpRes op a b
def strRes (op : BinOp) (a b : ByteArray) : Option AV :=
  match op with
  | .add => if a.size + b.size ≤ 4611686018427387904 then some (.str (a ++ b)) else none
  | .eql => some (.bool (a.data.toList == b.data.toList))
  | .neq => some (.bool (!(a.data.toList == b.data.toList)))
  | _ => none

/-- two lists, one by one -/
def eqL (f : AV → AV → Option Bool) : List AV → List AV → Option Bool
  | [], [] => some true
  | x :: xs, y :: ys =>
    match f x y with
    | some true => eqL f xs ys
    | r => r
  | _, _ => none
def eqF (f : Nat → AV → AV → Option Bool) : List (Nat × Nat × Bool × Nat) → Nat → List AV → List AV → Option Bool
  | [], _, [], [] => some true
  | (o, z, g, t) :: r, pos, x :: xs, y :: ys =>
    if o = pos ∧ x.size = z ∧ y.size = z ∧ x.isAgg = g ∧ y.isAgg = g then
      match f t x y with
      | some true => eqF f r (pos + z) xs ys
      | q => q
    else none
  | _, _, _, _ => none
def allSize (z : Nat) (g : Bool) (l : List AV) : Bool := l.all fun x => x.size == z && x.isAgg == g
/-- == of plain values of a type: numbers, bools, strings, structs and arrays of them -/
def eqT (E : Env) : Nat → Nat → AV → AV → Option Bool
  | 0, _, _, _ => none
  | n + 1, t, x, y =>
    match E.ty t with
    | none => none
    | some ti =>
      match ti.kind with
      | .int _ => (match x, y with | .int k a, .int j b => if k = j then some (a == b) else none | _, _ => none)
      | .bool => (match x, y with | .bool a, .bool b => some (a == b) | _, _ => none)
      | .str => (match x, y with | .str a, .str b => some (a.data.toList == b.data.toList) | _, _ => none)
      | .struct fs => (match x, y with
        | .agg _ xs, .agg _ ys => if ti.eq then eqF (eqT E n) fs 0 xs ys else none
        | _, _ => none)
      | .array len e z g => (match x, y with
        | .arr _ e1 xs, .arr _ e2 ys => if xs.length = len ∧ ys.length = len ∧ e1 = z ∧ e2 = z ∧ allSize z g xs ∧ allSize z g ys then eqL (eqT E n e) xs ys else none
        | _, _ => none)
      | _ => none

/-- is a pointer into a live object right? -/
def liveRef (m : Mem) (l st : Nat) (p : List Nat) (off : Nat) : Bool :=
  match m.tree l st with
  | some v => (match v.resolve p with | some (u, o) => o == off && decide (0 < u.size) | none => false)
  | none => false
def neg (n b : Bool) : Option AV := some (.bool (if n then !b else b))
def eqRes (E : Env) (m : Mem) (isC n : Bool) (t : Nat) (x y : AV) : Option AV :=
  match E.ty t with
  | none => none
  | some ti =>
    match ti.kind with
    | .bool => (match x, y with | .bool a, .bool b => neg n (a == b) | _, _ => none)
    | .ptr e =>
      (match x, y with
      | .nilp, .nilp => neg n true
      | .nilp, .vptr _ => neg n false
      | .nilp, .ref .. => neg n false
      | .vptr _, .nilp => neg n false
      | .ref .., .nilp => neg n false
      | .vptr v, .ref l st p o => if liveRef m l st p o && decide (0 < v.size) && (match E.ty e with | some te => te.size != 0 | none => false) then neg n false else none
      | _, _ => none)
    | .slice _ _ _ =>
      (match x, y with
      | .nils, .nils => neg n true
      | .vsl .., .nils => neg n false
      | .sref .., .nils => neg n false
      | _, _ => none)
    | .func =>
      (match x, y with
      | .nilf, .nilf => neg n true
      | .fn .., .nilf => neg n false
      | .yld .., .nilf => neg n false
      | _, _ => none)
    | .iface =>
      (match x, y with
      | .nili, .nili => if isC then neg n true else none
      | .iface .., .nili => neg n false
      | .nili, .iface .. => neg n false
      | _, _ => none)
    | .struct _ => if ti.eq then (match eqT E 12 t x y with | some r => neg n r | none => none) else none
    | .array _ _ _ _ => if ti.eq then (match eqT E 12 t x y with | some r => neg n r | none => none) else none
    | _ => none

def shiftRes (op : BinOp) (k : IntKind) (x y : Int) : Option AV :=
  if y < 0 then none
  else
    let n := min y.toNat k.bits
    match op with
    | .shl => some (.int k (k.wrap (x * 2 ^ n)))
    | .shr => some (.int k (x.fdiv (2 ^ n)))
    | _ => none

def binRes (E : Env) (m : Mem) (isC : Bool) (op : BinOp) (t : Nat) (x y : AV) : Option AV :=
  match x, y with
  | .int k a, .int j b =>
    (match op with
    | .shl => shiftRes .shl k a b
    | .shr => shiftRes .shr k a b
    | op => if k = j then intRes op k a b else none)
  | .str a, .str b => strRes op a b
  | x, y =>
    match op with
    | .eql => eqRes E m isC false t x y
    | .neq => eqRes E m isC true t x y
    | _ => none

def unRes (op : UnOp) (x : AV) : Option AV :=
  match op, x with
  | .neg, .int k n => some (.int k (k.wrap (0 - n)))
  | .not, .bool b => some (.bool !b)
  | .xor, .int k n => bitsRes .xor k (if k.signed then -1 else k.max) n
  | _, _ => none

def bytesOf : List AV → Option (List UInt8)
  | [] => some []
  | .int .u8 n :: r => (match bytesOf r with | some l => some (UInt8.ofNat n.toNat :: l) | none => none)
  | _ => none
def strOf (l : List UInt8) : ByteArray := ⟨l.toArray⟩
def bytesAV (s : ByteArray) : List AV := s.data.toList.map fun b => .int .u8 b.toNat

def isU8 (E : Env) (t : Nat) : Bool := match E.ty t with | some { kind := .int .u8, .. } => true | _ => false
def convRes (E : Env) (m : Mem) (src dst : Nat) (x : AV) : Option AV :=
  match E.ty src, E.ty dst with
  | some s, some d =>
    match d.kind with
    | .int k => (match x with | .int _ n => some (.int k (k.wrap n)) | _ => none)
    | .str =>
      (match x with
      | .str s => some (.str s)
      | .nils => (match s.kind with | .slice e _ _ => if isU8 E e then some (.str ⟨#[]⟩) else none | _ => none)
      | x =>
        (match s.kind with
        | .slice e _ _ =>
          if isU8 E e then
            (match elems m x with
            | some (1, es) => (match bytesOf es with | some l => some (.str (strOf l)) | none => none)
            | _ => none)
          else none
        | _ => none))
    | .slice e _ _ => (match s.kind, x with | .str, .str b => if isU8 E e then some (.vsl 1 (bytesAV b) .no) else none | _, _ => none)
    | _ => none
  | _, _ => none

/-! ### builtins -/
def lenOf (E : Env) (t : Nat) (x : AV) : Option AV :=
  match E.ty t with
  | some { kind := .str, .. } => (match x with | .str s => some (.int .i64 s.size) | _ => none)
  | some { kind := .slice _ _ _, .. } =>
    (match x with
    | .nils => some (.int .i64 0)
    | .vsl _ es _ => some (.int .i64 es.length)
    | .sref _ _ _ _ _ _ n => some (.int .i64 n)
    | _ => none)
  | some { kind := .array n _ _ _, .. } => some (.int .i64 n)
  | some { kind := .ptr a, .. } => (match E.ty a with | some { kind := .array n _ _ _, .. } => some (.int .i64 n) | _ => none)
  | _ => none

def maxBytes : Nat := 140737488355328

/-- append onto a slice whose spare room is free or is not there -/
def grow (m : Mem) (e eb : Nat) (es : List AV) (tok : Tok) (xs : List AV) : Option (AV × Mem) :=
  if (es.length + xs.length) * eb ≤ maxBytes then
    match tok with
    | .no => none
    | .exact => let (t, s, m) := m.newTok; some (.vsl e (es ++ xs) (.live t s), m)
    | .live t s =>
      if m.toks[t]? = some s ∧ m.tlo ≤ t then
        some (.vsl e (es ++ xs) (.live t m.clk), { m with toks := m.toks.set t m.clk, clk := m.clk + 1 })
      else none
  else none

def isSl : AV → Bool
  | .nils => true
  | .vsl _ _ _ => true
  | .sref _ _ _ _ _ _ _ => true
  | _ => false
/-- what is taken from: a slice, or a text as bytes -/
def source (E : Env) (m : Mem) (t2 esz : Nat) (x : AV) : Option (List AV) :=
  match E.ty t2 with
  | some { kind := .str, .. } => (match x with | .str b => if esz = 1 then some (bytesAV b) else none | _ => none)
  | some { kind := .slice _ _ _, .. } => (match x with | .nils => some [] | x => (match elems m x with | some (e, xs) => if e = esz then some xs else none | none => none))
  | _ => none
def appendRes (E : Env) (m : Mem) (t t2 : Nat) (s x : AV) : Option (AV × Mem) :=
  match E.ty t with
  | some { kind := .slice el esz eb, .. } =>
    match source E m t2 esz x, E.ty el with
    | some xs, some te =>
      if 0 < esz ∧ 0 < eb ∧ te.zero.bad = false ∧ te.zero.size = esz then
        match xs, s with
        | [], s => if isSl s then some (s, m) else none
        | xs, .nils => grow m esz eb [] .exact xs
        | xs, .vsl e es tok => if e = esz then grow m e eb es tok xs else none
        | _, _ => none
      else none
    | _, _ => none
  | _ => none

def copyRes (E : Env) (m : Mem) (t t2 : Nat) (d x : AV) : Option (AV × Mem) :=
  match E.ty t with
  | some { kind := .slice _ esz _, .. } =>
    match d, source E m t2 esz x with
    | .nils, some _ => some (.int .i64 0, m)
    | .sref e l st p off lo len, some xs =>
      if e = esz then
        match m.tree l st with
        | some v =>
          match v.resolve p with
          | some (.arr n e'' ks, o) =>
            let k := min xs.length len
            if o = off ∧ e'' = e ∧ lo + len ≤ ks.length ∧ m.lo ≤ l ∧ (m.lo2 ≤ l ∨ AV.unders 0 0 0 xs = true) then
              some (.int .i64 k, { m with objs := m.objs.set l (st, .tree (v.put p (.arr n e'' (ks.take lo ++ xs.take k ++ ks.drop (lo + k))))) })
            else none
          | _ => none
        | none => none
      else none
    | _, _ => none
  | _ => none

def foldMM (mx : Bool) : AV → List AV → Option AV
  | v, [] => some v
  | .int k a, .int j b :: r => if k = j then foldMM mx (.int k (if mx then (if b > a then b else a) else (if b < a then b else a))) r else none
  | _, _ => none
def minMax (mx : Bool) : List AV → Option AV
  | [] => none
  | x :: r => foldMM mx x r

def makeSlice (E : Env) (m : Mem) (t : Nat) (zeroLen : Bool) (l c : AV) : Option (AV × Mem) :=
  match E.ty t, l, c with
  | some { kind := .slice e esz eb, .. }, .int _ l, .int _ c =>
    match E.ty e with
    | some ti =>
      if 0 ≤ l ∧ l ≤ c ∧ c.toNat * eb ≤ maxBytes ∧ 0 < eb ∧ 0 < esz ∧ ti.zero.bad = false ∧ ti.zero.size = esz then
        if zeroLen then (if l = 0 then (let (tk, s, m) := m.newTok; some (.vsl esz [] (.live tk s), m)) else none)
        else if l = c then
          let (o, s, m) := m.new (.tree (.arr (l.toNat * esz) esz (List.replicate l.toNat ti.zero)))
          some (.sref esz o s [] 0 0 l.toNat, m)
        else none
      else none
    | none => none
  | _, _, _ => none

def mkIface (E : Env) (t : Nat) (x : AV) : Option AV :=
  match E.ty t with
  | some ti => if ti.kind = .iface ∨ x.bad then none else some (.iface t x)
  | none => none

def fillKids (place : Nat → Option (Nat × Nat)) (ks : List AV) : List (Nat × AV) → Option (List AV)
  | [] => some ks
  | (i, v) :: r =>
    match ks[i]?, place i with
    | some k, some (o, z) => if o = AV.offs ks i ∧ z = v.size ∧ k.size = v.size ∧ v.bad = false then fillKids place (ks.set i v) r else none
    | _, _ => none

def build (E : Env) (t : Nat) (parts : List (Nat × AV)) : Option AV :=
  match E.ty t with
  | some { kind := .struct fs, zero := .agg n ks, .. } =>
    (match fillKids (fun i => (fs[i]?).map fun f => (f.1, f.2.1)) ks parts with | some ks => some (.agg n ks) | none => none)
  | some { kind := .array _ _ esz _, zero := .arr n e ks, .. } =>
    (match fillKids (fun i => some (i * esz, esz)) ks parts with | some ks => some (.arr n e ks) | none => none)
  | _ => none

def buildSlice (E : Env) (t n : Nat) (parts : List (Nat × AV)) : Option AV :=
  match E.ty t with
  | some { kind := .slice e esz _, .. } =>
    match E.ty e with
    | some ti =>
      if ti.zero.bad = false ∧ ti.zero.size = esz ∧ 0 < esz ∧ n * esz ≤ 16777216 then
        (match fillKids (fun i => some (i * esz, esz)) (List.replicate n ti.zero) parts with | some ks => some (.vsl esz ks .exact) | none => none)
      else none
    | none => none
  | _ => none

/-! ### maps -/
def mapFind (isInt : Bool) (k : AV) : List (AV × AV) → Option (Option AV)
  | [] => some none
  | (j, v) :: r =>
    match isInt, k, j with
    | true, .int a x, .int b y => if a = b then (if x = y then some (some v) else mapFind isInt k r) else none
    | false, .str x, .str y => if x.data.toList = y.data.toList then some (some v) else mapFind isInt k r
    | _, _, _ => none
def mapPut (k v : AV) : List (AV × AV) → List (AV × AV)
  | [] => [(k, v)]
  | (j, u) :: r =>
    match k, j with
    | .int _ x, .int _ y => if x = y then (k, v) :: r else (j, u) :: mapPut k v r
    | .str x, .str y => if x.data.toList = y.data.toList then (k, v) :: r else (j, u) :: mapPut k v r
    | _, _ => (j, u) :: mapPut k v r
def keyKind (E : Env) (k : Nat) : Option Bool :=
  match E.ty k with
  | some { kind := .int _, .. } => some true
  | some { kind := .str, .. } => some false
  | _ => none
def keyIs (b : Bool) : AV → Bool
  | .int _ _ => b
  | .str _ => !b
  | _ => false
def entries (m : Mem) : AV → Option (List (AV × AV))
  | .nilm => some []
  | .map l st => (match m.obj l st with | some (.map es) => some es | _ => none)
  | _ => none
def found (ok : Bool) (v : AV) (b : Bool) : AV := if ok then .tup [v, .bool b] else v
def lookup (E : Env) (m : Mem) (t : Nat) (x k : AV) (ok : Bool) : Option AV :=
  match E.ty t with
  | some { kind := .map kt e, .. } =>
    match keyKind E kt, E.ty e, entries m x with
    | some kk, some ti, some es =>
      if keyIs kk k then
        (match mapFind kk k es with
        | some (some v) => some (found ok v true)
        | some none => if ti.zero.bad then none else some (found ok ti.zero false)
        | none => none)
      else none
    | _, _, _ => none
  | _ => none
def mapUpdate (E : Env) (m : Mem) (t : Nat) (x k v : AV) : Option Mem :=
  match E.ty t with
  | some { kind := .map kt _, .. } =>
    match keyKind E kt, x with
    | some kk, .map l st =>
      (match m.obj l st with
      | some (.map es) =>
        if keyIs kk k = true ∧ m.lo ≤ l ∧ (m.lo2 ≤ l ∨ v.free = true) ∧ v.isUnd = false then
          match mapFind kk k es with
          | some _ => some { m with objs := m.objs.set l (st, .map (mapPut k v es)) }
          | none => none
        else none
      | _ => none)
    | _, _ => none
  | _ => none

def isConst : Operand → Bool
  | .const _ => true
  | _ => false

end Go.AM

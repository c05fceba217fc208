/- A part of the abstract machine on which the proof of this claim stands: AMX (definitions and lemmas alone; no statement of the claim; no condition). -/
import Derived.Test.YtjcblncfehfonaaGreatDoorAM
import Derived.Orders
namespace Go.AM
open Go

/-! ### what a call gives back, in values of its own -/
def mapO {α β : Type} (f : α → Option β) : List α → Option (List β)
  | [] => some []
  | v :: vs =>
    match f v with
    | some v => (match mapO f vs with | some vs => some (v :: vs) | none => none)
    | none => none
def freeze (m : Mem) (b t c : Nat) : Nat → AV → Option AV
  | 0, _ => none
  | n + 1, v =>
    if v.under b t c then some v else
    match v with
    | .vptr v => (match freeze m b t c n v with | some v => some (.vptr v) | none => none)
    | .ref l st p off =>
      (match m.tree l st with
      | some v => (match v.resolve p with
        | some (u, o) => if o = off ∧ b ≤ l then (match freeze m b t c n u with | some u => some (.vptr u) | none => none) else none
        | none => none)
      | none => none)
    | .sref e l st p off lo len =>
      if l < b then none else
      (match elems m (.sref e l st p off lo len) with
      | some (_, es) => (match mapO (freeze m b t c n) es with | some es => some (.vsl e es .no) | none => none)
      | none => none)
    | .vsl e es tok =>
      (match mapO (freeze m b t c n) es with
      | some es => some (.vsl e es (match tok with | .live k s => if k < t ∧ s < c then .live k s else .no | x => x))
      | none => none)
    | .fn f fs cs => (match mapO (freeze m b t c n) fs, mapO (freeze m b t c n) cs with | some fs, some cs => some (.fn f fs cs) | _, _ => none)
    | .iface t' v => (match freeze m b t c n v with | some v => some (.iface t' v) | none => none)
    | .agg k ks => (match mapO (freeze m b t c n) ks with | some ks => some (.agg k ks) | none => none)
    | .arr k e ks => (match mapO (freeze m b t c n) ks with | some ks => some (.arr k e ks) | none => none)
    | .tup vs => (match mapO (freeze m b t c n) vs with | some vs => some (.tup vs) | none => none)
    | _ => none

/-! ### running -/
abbrev Inv := AV → List AV → Mem → Option (AV × Mem)
abbrev Iter := (Fr → Mem → Option (Ctl × Fr × Mem)) → Fr → Mem → Option (Ctl × Fr × Mem)

def evals (fr : Fr) (xs : List Operand) : List AV := xs.map fr.eval
def allPlain (l : List AV) : Bool := l.all fun v => !v.bad
def allDef (l : List AV) : Bool := l.all fun v => !v.isUnd

def builtinRes (E : Env) (m : Mem) (b : Builtin) (ts : List Nat) (args : List AV) : Option (AV × Mem) :=
  match b, ts, args with
  | .len, [t], [x] => (match lenOf E t x with | some v => some (v, m) | none => none)
  | .append, [t, t2], [s, x] => appendRes E m t t2 s x
  | .copy, [t, t2], [d, x] => copyRes E m t t2 d x
  | .min, _, l => (match minMax false l with | some v => some (v, m) | none => none)
  | .max, _, l => (match minMax true l with | some v => some (v, m) | none => none)
  | _, _, _ => none

def with0 (m : Mem) : Option AV → Option (AV × Mem)
  | some v => some (v, m)
  | none => none

/-- are the operands there? (of a choice between two only one has to be) -/
def ready (fr : Fr) : Op → Bool
  | .pick _ _ _ => true
  | .call _ => true
  | o => o.operands.toList.all fun x => !(fr.eval x).isUnd
def stepCore (E : Env) (inv : Inv) (fr : Fr) (o : Op) (m : Mem) : Option (AV × Mem) :=
  match o with
  | .move x | .assign x => with0 m (def? (fr.eval x))
  | .pick c a b => (match fr.eval c with | .bool true => with0 m (def? (fr.eval a)) | .bool false => with0 m (def? (fr.eval b)) | _ => none)
  | .alloc t => (match E.ty t with | some ti => if ti.zero.bad then none else (let (l, s, m) := m.new (.tree ti.zero); some (.ref l s [] 0, m)) | none => none)
  | .box _ x => (match plain? (fr.eval x) with | some v => (let (l, s, m) := m.new (.tree v); some (.ref l s [] 0, m)) | none => none)
  | .build t parts => with0 m (build E t (parts.toList.map fun p => (p.1, fr.eval p.2)))
  | .buildSlice t n parts => with0 m (buildSlice E t n (parts.toList.map fun p => (p.1, fr.eval p.2)))
  | .load t a => with0 m (load E m t (fr.eval a))
  | .store t a x => (match store E m t (fr.eval a) (fr.eval x) with | some m => some (.tup [], m) | none => none)
  | .nilCheck x => (match fr.eval x with
    | .ref l s p o => some (.ref l s p o, m)
    | .vptr v => some (.vptr v, m)
    | .fn f a b => (match f with | .func _ => some (.fn f a b, m) | _ => none)
    | .iface t v => some (.iface t v, m)
    | .yld l s => some (.yld l s, m)
    | _ => none)
  | .binOp op t x y _ => with0 m (binRes E m (isConst x || isConst y) op t (fr.eval x) (fr.eval y))
  | .unOp op _ x => with0 m (unRes op (fr.eval x))
  | .convert s d x => with0 m (convRes E m s d (fr.eval x))
  | .makeInterface t x => with0 m (mkIface E t (fr.eval x))
  | .makeFunc f fs cs =>
    (let a := evals fr fs.toList
     let b := evals fr cs.toList
     if allPlain a && allPlain b then (match f with | .func _ => some (.fn f a b, m) | _ => none) else none)
  | .makeMap _ none => (let (l, s, m) := m.new (.map []); some (.map l s, m))
  | .makeSlice t l c => makeSlice E m t (match l with | .const (.int _ 0) => true | _ => false) (fr.eval l) (fr.eval c)
  | .slice t x lo hi mx => with0 m (sliceOf E t (fr.eval x) (lo.map fr.eval) (hi.map fr.eval) (mx.map fr.eval))
  | .fieldAddr t x f => with0 m (fieldAddr E t (fr.eval x) f)
  | .field t x f => with0 m (field E t (fr.eval x) f)
  | .indexAddr t x i => with0 m (indexAddr E t (fr.eval x) (fr.eval i))
  | .index t x i => with0 m (index E t (fr.eval x) (fr.eval i))
  | .lookup t x k ok => with0 m (lookup E m t (fr.eval x) (fr.eval k) ok)
  | .mapUpdate t x k v | .insert t x k v => (match mapUpdate E m t (fr.eval x) (fr.eval k) (fr.eval v) with | some m => some (.tup [], m) | none => none)
  | .extract x i => (match fr.eval x with | .tup vs => with0 m vs[i]? | _ => none)
  | .call c =>
    let args := evals fr c.args.toList
    if allDef args then
      match c.callee with
      | .builtin b => builtinRes E m b c.argTypes.toList args
      | .value f => if (fr.eval f).isUnd then none else inv (fr.eval f) args m
      | .invoke _ _ => none
    else none
  | _ => none

def stepOp (E : Env) (inv : Inv) (fr : Fr) (o : Op) (m : Mem) : Option (AV × Mem) :=
  if ready fr o then stepCore E inv fr o m else none

def wanted (fr : Fr) (ops : Array Oper) (o : Oper) : Option Bool :=
  match o.guard with
  | none => some true
  | some (j, want) =>
    match (ops[j]?).bind (·.dst) with
    | some t => (match fr.get t with | .bool b => some (b == want) | .tup [] => some false | _ => none)
    | none => some false

def putD (nt : Nat) (fr : Fr) (d : Option Tmp) (v : AV) : Option Fr :=
  match d with
  | some t => if t < nt then some (fr.set t v) else none
  | none => some fr

/-- one operation, its guard looked at -/
def oper (E : Env) (inv : Inv) (nt : Nat) (ops : Array Oper) (o : Oper) (fr : Fr) (m : Mem) : Option (Fr × Mem) :=
  match wanted fr ops o with
  | some true =>
    (match stepOp E inv fr o.op m with
    | some (v, m) => (match putD nt fr o.dst v with | some fr => some (fr, m) | none => none)
    | none => none)
  | some false => (match putD nt fr o.dst (.tup []) with | some fr => some (fr, m) | none => none)
  | none => none
def execOps (E : Env) (inv : Inv) (nt : Nat) (ops : Array Oper) : List Oper → Fr → Mem → Option (Fr × Mem)
  | [], fr, m => some (fr, m)
  | o :: rest, fr, m =>
    match oper E inv nt ops o fr m with
    | some (fr, m) => execOps E inv nt ops rest fr m
    | none => none

def forget (a : Ann) (fr : Fr) : Fr := fr.filter fun p => decide (p.1 < a.nloc) || a.exports.contains p.1
def keepHead (a : Ann) (bid : Nat) (fr : Fr) : Fr :=
  match a.heads.lookup bid with
  | some l => fr.filter fun p => l.contains p.1
  | none => fr

/-! ### regions that draw: when the order does not matter -/
/-- 0: looks at no memory; 1: reads it; 2: may write it -/
def opKind (E : Env) : Op → Nat
  | .move _ | .assign _ | .pick _ _ _ | .build _ _ | .buildSlice _ _ _ | .nilCheck _ | .unOp _ _ _ | .makeInterface _ _ | .makeFunc _ _ _
  | .slice _ _ _ _ _ | .fieldAddr _ _ _ | .field _ _ _ | .indexAddr _ _ _ | .index _ _ _ | .extract _ _ => 0
  | .binOp op t _ _ _ => (match op with
    | .eql | .neq => (match E.ty t with | some ti => (match ti.kind with | .int _ | .bool | .str => 0 | _ => 1) | none => 1)
    | _ => 0)
  | .load _ _ | .convert _ _ _ | .lookup _ _ _ _ => 1
  | .call c => (match c.callee with | .builtin .len | .builtin .min | .builtin .max => 0 | _ => 2)
  | _ => 2
def freeKinds (a b : Nat) : Bool := a == 0 || b == 0 || (a == 1 && b == 1)
def indep (E : Env) (ops : Array Oper) (x y : Oper) : Bool := Oper.apart ops x y && freeKinds (opKind E x.op) (opKind E y.op)
/-- for each operation: those that are surely ahead of it -/
def anc1 (acc : List Nat) (o : Oper) : Nat := o.after.toList.foldl (fun s e => if Region.binds .any e then s ||| 2 ^ e.on ||| acc.getD e.on 0 else s) 0
def ancs : List Oper → List Nat → List Nat
  | [], acc => acc
  | o :: os, acc => ancs os (acc ++ [anc1 acc o])
/-- objects that are not the same one: told by the frame at the end -/
def farApart (fr : Fr) (x y : Operand) : Bool :=
  match fr.eval x, fr.eval y with
  | .ref l _ _ _, .ref l' _ _ _ => l != l'
  | _, _ => false
def noWrite (l : List Oper) : Operand → Bool
  | .tmp t => l.all fun o => o.dst != some t
  | _ => true
def adrOf : Op → Option Operand
  | .load _ x => some x
  | .store _ x _ => some x
  | _ => none
def dynOk (fr : Fr) (ps os : List Oper) (p o : Oper) : Bool :=
  match adrOf p.op, adrOf o.op with
  | some x, some y => farApart fr x y && noWrite ps x && noWrite os y
  | _, _ => false
/-- operation i (o, those ahead of it: b) against the earlier ones -/
def okWith (E : Env) (ops : Array Oper) (fr : Fr) (o : Oper) (i b : Nat) : List Oper → Nat → Bool
  | [], _ => true
  | p :: ps, j => (b.testBit j || indep E ops p o || (Oper.apart ops p o && dynOk fr (ops.toList.drop j) (ops.toList.drop i) p o)) && okWith E ops fr o i b ps (j + 1)
def okAll (E : Env) (ops : Array Oper) (fr : Fr) (B : List Nat) : List Oper → List Oper → Nat → Bool
  | _, [], _ => true
  | pre, o :: os, i => okWith E ops fr o i (B.getD i 0) pre 0 && okAll E ops fr B (pre ++ [o]) os (i + 1)
/-- an order of all of them: so that none waits for ever -/
def cover (md : Region.Mode) (ops : Array Oper) : List Nat → Nat → Bool
  | [], seen => (List.range ops.size).all fun i => seen.testBit i
  | i :: is, seen => (match ops[i]? with
    | some o => o.after.toList.all (fun e => !Region.binds md e || seen.testBit e.on)
    | none => false) && cover md ops is (seen ||| 2 ^ i)
def drawOk (E : Env) (ops : Array Oper) (fr : Fr) : Bool :=
  okAll E ops fr (ancs ops.toList []) [] ops.toList 0 && cover .any ops (List.range ops.size) 0 &&
    (!Region.departs ops || (cover .text ops (List.range ops.size) 0 && cover .gc ops (Region.linearise .gc ops 0) 0))

def cutBack (a : Ann) (bid n : Nat) (m : Mem) : Mem :=
  if a.keeps.contains bid then m else { m with objs := m.objs.take n }


/-- a function of the program's own -/
def isFn (E : Env) : AV → Bool
  | .fn (.func g) _ _ => (E.prim g).isNone
  | _ => false

section
abbrev Jmp := Code → Code → Nat → Fr → Mem → Option (Ctl × Fr × Mem)
variable (E : Env) (inv : Inv) (iter : Iter) (jmp : Jmp) (fid : Nat) (a : Ann)
def exec : Code → Nat → Fr → Mem → Option (Ctl × Fr × Mem)
  | .skip, _, fr, m => some (.normal, fr, m)
  | .label _, _, fr, m => some (.normal, fr, m)
  | .seq x y, b, fr, m =>
    match exec x b fr m with
    | some (.normal, fr, m) => exec y b fr m
    | r => r
  | .cond c x y, b, fr, m =>
    match fr.eval c with
    | .bool true => exec x b fr m
    | .bool false => exec y b fr m
    | _ => none
  | .block id c, _, fr, m =>
    match exec c id fr m with
    | some (.exit j, fr, m) => if j = id then some (.normal, fr, m) else some (.exit j, fr, m)
    | r => r
  | .loop c, b, fr, m => iter (fun fr m' => match exec c b fr m' with
      | some (.normal, fr, m') => some (.normal, keepHead a b fr, cutBack a b m.objs.length m')
      | r => r) (keepHead a b fr) m
  | .exit id, _, fr, m => some (.exit id, fr, m)
  | .goto l, _, fr, m => some (.goto l, fr, m)
  | .ret, _, fr, m => some (.ret, fr, m)
  | .scope c, b, fr, m =>
    match exec c b fr m with
    | some (.goto l, fr, m) =>
      (match findLabel c l with
      | some rest => jmp c rest b fr m
      | none => some (.goto l, fr, m))
    | r => r
  | .region _ ops draw, _, fr, m =>
    match execOps E inv a.ntmps ops ops.toList fr m with
    | some (fr, m) => if draw && !drawOk E ops fr then none else some (.normal, forget a fr, m)
    | none => none
  | .rangeFunc f params assign body, _, fr, m =>
    if a.noRange || !isFn E (fr.eval f) then none else
    match inv (fr.eval f) [.yld m.objs.length m.clk] (m.new (.loop { state := .ready, pending := none, fn := fid, ann := a, frame := fr, params := params.toList, assign, body })).2.2 with
    | some (_, m1) =>
      match m1.obj m.objs.length m.clk with
      | some (.loop L) =>
        if L.state = .busy then none else
        let m2 := { m1 with objs := m1.objs.set m.objs.length (m.clk, .loop { L with state := .exhausted }) }
        match L.pending with
        | none => some (.normal, fr, m2)
        | some .ret => some (.ret, fr, m2)
        | some (.exit id) => some (.exit id, fr, m2)
        | some _ => none
      | _ => none
    | none => none
  | .refuse _, _, _, _ => none
end

/-- jumps within a scope, by fuel -/
def jmpN (E : Env) (inv : Inv) (iter : Iter) (fid : Nat) (a : Ann) : Nat → Jmp
  | 0 => fun _ _ _ _ _ => none
  | n + 1 => fun c rest b fr m =>
    match exec E inv iter (jmpN E inv iter fid a n) fid a rest b fr m with
    | some (.goto l, fr, m) =>
      (match findLabel c l with
      | some rest => jmpN E inv iter fid a n c rest b fr m
      | none => some (.goto l, fr, m))
    | r => r

/-- loops, by fuel -/
def iterN : Nat → (Fr → Mem → Option (Ctl × Fr × Mem)) → Fr → Mem → Option (Ctl × Fr × Mem)
  | 0, _, _, _ => none
  | n + 1, f, fr, m =>
    match f fr m with
    | some (.normal, fr, m) => iterN n f fr m
    | r => r

def resultOf (E : Env) (fr : Fr) (m : Mem) : ResultVar → Option AV
  | .tmp t => def? (fr.get t)
  | .cell t ty => load E m ty (fr.get t)
def resultsOf (E : Env) (fr : Fr) (m : Mem) : List ResultVar → Option (List AV)
  | [] => some []
  | r :: rs =>
    match resultOf E fr m r with
    | some v => (match resultsOf E fr m rs with | some vs => some (v :: vs) | none => none)
    | none => none
def tupOf : List AV → AV
  | [v] => v
  | vs => .tup vs

def startFr : Nat → List AV → Fr
  | _, [] => []
  | i, v :: vs => (i, v) :: startFr (i + 1) vs

def enter (E : Env) (inv : Inv) (iter : Iter) (f : Nat) (i : FnI) (args : List AV) (m : Mem) : Option (AV × Mem) :=
  match exec E inv iter (jmpN E inv iter f i.ann 8) f i.ann i.body 0 (startFr 0 args) m with
  | some (.normal, fr, m) | some (.ret, fr, m) =>
    (match resultsOf E fr m i.results with
    | some vs => some (tupOf vs, m)
    | none => none)
  | _ => none

def depth : Nat := 60

def callFn (E : Env) (inv : Inv) (iter : Iter) (f : Nat) (args : List AV) (m : Mem) : Option (AV × Mem) :=
  match E.fn f with
  | none => none
  | some i =>
    match i.ann.mode with
    | .keep => enter E inv iter f i args m
    | .pure =>
      (match enter E inv iter f i args { m with lo := m.objs.length, tlo := m.toks.length } with
      | some (v, m') => (match freeze m' m.objs.length m.toks.length m.clk depth v with | some v => some (v, m) | none => none)
      | none => none)
    | .mut =>
      (match enter E inv iter f i args { m with lo2 := m.objs.length, tlo := m.toks.length } with
      | some (v, m') => (match freeze m' m.objs.length m.toks.length m.clk depth v with
        | some v => some (v, { m with objs := m'.objs.take m.objs.length })
        | none => none)
      | none => none)

def setAll : Fr → List Nat → List AV → Fr
  | fr, t :: ts, v :: vs => setAll (fr.set t v) ts vs
  | fr, _, _ => fr

def pend (p : Option (Option Code)) (d : Option Code) : Option Code := p.getD d
def setLoop (m : Mem) (l s : Nat) (st : LoopState) (p : Option (Option Code)) : Option Mem :=
  match m.obj l s with
  | some (.loop L) => if m.lo ≤ l then some { m with objs := m.objs.set l (s, .loop { L with state := st, pending := pend p L.pending }) } else none
  | _ => none
def loopReady (m : Mem) (l s : Nat) : Bool :=
  match m.obj l s with
  | some (.loop L) => L.state == .ready
  | _ => false
def inRound (a : Ann) : Ann := { a with noRange := true }
def round (E : Env) (inv : Inv) (k : Nat) (l s : Nat) (L : ALoop) (args : List AV) (m : Mem) : Option (AV × Mem) :=
  if args.length = L.params.length ∧ L.params.all (fun t => decide (t < L.ann.ntmps)) = true ∧ allDef args = true then
    match exec E inv (iterN k) (jmpN E inv (iterN k) L.fn (inRound L.ann) 8) L.fn (inRound L.ann) L.assign 0 (setAll L.frame L.params args) m with
    | some (.normal, fr, m1) =>
      if loopReady m1 l s then
        match setLoop m1 l s .busy none with
        | some m2 =>
          match exec E inv (iterN k) (jmpN E inv (iterN k) L.fn (inRound L.ann) 8) L.fn (inRound L.ann) L.body 0 fr m2 with
          | some (.normal, _, m3) => (match setLoop m3 l s .ready (some none) with | some m4 => some (.bool true, m4) | none => none)
          | some (.ret, _, m3) => (match setLoop m3 l s .done (some (some .ret)) with | some m4 => some (.bool false, m4) | none => none)
          | some (.exit id, _, m3) => (match setLoop m3 l s .done (some (some (.exit id))) with | some m4 => some (.bool false, m4) | none => none)
          | _ => none
        | none => none
      else none
    | _ => none
  else none

def primRes (_ : Env) (m : Mem) : Prim → List AV → Option (AV × Mem)
  | .indexByte, [.str s, .int .u8 c] =>
    some (.int .i64 (match s.data.toList.findIdx? (fun b => b.toNat == c.toNat) with | some i => (i : Int) | none => -1), m)
  | .errorsAs, [e, .iface _ (.ref l st p off)] =>
    (match e with
    | .nili => some (.bool false, m)
    | .iface _ v =>
      (match m.tree l st with
      | some u =>
        (match u.resolve p with
        | some (w, o) =>
          if o = off ∧ w.isAgg = false ∧ v.isAgg = false then
            -- the target's own type decides: see the primitive's law
            (match w, v with
            | .int .i64 _, .int .i64 _ => (match m.setTree l st (u.put p v) v with | some m => some (.bool true, m) | none => none)
            | .nilp, .vptr _ => (match m.setTree l st (u.put p v) v with | some m => some (.bool true, m) | none => none)
            | _, _ => none)
          else none
        | none => none)
      | none => none)
    | _ => none)
  | _, _ => none

/-- calls, by fuel -/
def invN (E : Env) : Nat → Inv
  | 0 => fun _ _ _ => none
  | n + 1 => fun f args m =>
    match f with
    | .fn (.func g) first cap =>
      let args := first ++ args ++ cap
      (match E.prim g with
      | some p => primRes E m p args
      | none => callFn E (invN E n) (iterN n) g args m)
    | .yld l s =>
      (match m.obj l s with
      | some (.loop L) => round E (invN E n) n l s L args m
      | _ => none)
    | _ => none

end Go.AM

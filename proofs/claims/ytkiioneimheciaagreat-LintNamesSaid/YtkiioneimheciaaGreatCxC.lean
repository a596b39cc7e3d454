/- The doer: regions, code, functions. -/
import Derived.Test.YtkiioneimheciaaGreatCxB
import Derived.Test.YtkiioneimheciaaGreatSxL
set_option linter.all false
namespace Go.Cx
open Go Go.Sx
noncomputable section

/-- An operation in its place. `sole`: none other may come before it. `cert`: none that acts may come before it. -/
structure Stp where
  dst : Option Tk
  op : COp
  guard : Option (Tk × Bool)
  ix : Nat
  sole : Bool
  cert : Bool

inductive CC where
  | skip
  | run (l : List Stp)
  | draw (er : List Tk) (l : List Stp)
  | seq (a b : CC)
  | cond (c : Opd) (a b : CC)
  | block (id : Nat) (a : CC)
  | loop (a : CC)
  | exit (id : Nat)
  | ret

inductive CE where
  | normal
  | exit (id : Nat)
  | ret

inductive CRes where
  | tmp (p : Tk)
  | cell (p : Tk) (n : Option Nat)

structure CFn where
  id : FuncId
  nt : Nat
  body : CC
  res : List CRes

/-! ### how code is laid out -/
def dstO (nt : Nat) : Option Tmp → Option (Option Tk)
  | none => some none
  | some d => bif Nat.blt d nt && Nat.blt d 18446744073709551616 then some (some (at_ d)) else none
def guardO (ops : List Oper) : Option (Nat × Bool) → Option (Option (Tk × Bool))
  | none => some none
  | some (j, b) => match ops[j]? with
    | some o => match o.dst with
      | some d => bif Nat.blt d 18446744073709551616 then some (some (at_ d, b)) else none
      | none => none
    | none => none

def stpO (Y : Tys) (nt : Nat) (ops : List Oper) (i : Nat) (sole cert : Bool) (o : Oper) : Option Stp :=
  match dstO nt o.dst, guardO ops o.guard, comp Y o with
  | some d, some g, some c => some ⟨d, c, g, i, sole, cert⟩
  | _, _, _ => none

def seqO (Y : Tys) (nt : Nat) (ops : List Oper) : Nat → List Oper → Option (List Stp)
  | _, [] => some []
  | i, o :: r => match stpO Y nt ops i true true o with
    | some s => match seqO Y nt ops (i + 1) r with
      | some l => some (s :: l)
      | none => none
    | none => none

def actsO (Y : Tys) (o : Oper) : Bool :=
  match comp Y o with
  | some c => !(c.pure || c.makes)
  | none => true
def actsAt (Y : Tys) : Nat → List Oper → List Nat
  | _, [] => []
  | i, o :: r => bif actsO Y o then i :: actsAt Y (i + 1) r else actsAt Y (i + 1) r

def pureO (Y : Tys) (o : Oper) : Bool :=
  match comp Y o with
  | some c => c.pure
  | none => false

/-- The first of those that may come up that may be taken ahead. -/
def aheadO (Y : Tys) (ops : Array Oper) (listed : List Bool) : List Nat → Option (Nat × Oper)
  | [] => none
  | i :: r => match ops[i]? with
    | none => aheadO Y ops listed r
    | some o => bif Region.free .any ops listed.toArray i && pureO Y o then some (i, o) else aheadO Y ops listed r

def sameD : Option Tmp → Option Tmp → Bool
  | some a, some b => Nat.beq a b
  | _, _ => false
/-- No other operation yields into its slot. -/
def loneD (ops : List Oper) (i : Nat) (d : Option Tmp) : Bool :=
  (List.range ops.length).all fun j => Nat.beq j i || match ops[j]? with
    | some o => !(sameD o.dst d)
    | none => true
/-- An operation that makes a block, whenever it likes. -/
def newO (Y : Tys) (nt : Nat) (ops : List Oper) (i : Nat) : Bool :=
  match ops[i]? with
  | some o => (match comp Y o with | some (.new _ _) => true | _ => false) && o.guard.isNone && (match o.dst with | some d => Nat.blt d nt && Nat.blt d 18446744073709551616 | none => false) && loneD ops i o.dst
  | none => false

def setAll : List Bool → List Nat → List Bool
  | l, [] => l
  | l, i :: r => setAll (l.set i true) r

/-- Whatever blocks are made ahead, nothing comes up but what may come up anyhow. -/
def chkO (ops : List Oper) (listed : List Bool) (ns rs : List Nat) (i : Nat) : Bool :=
  (readyX ops (setAll listed (ns.filter fun j => !(Nat.beq j i)))).all fun j => hasN rs j || Nat.beq j i

def pickO (Y : Tys) (ops : Array Oper) (listed : List Bool) (brk ns rs : List Nat) : Option (Nat × Bool × Bool) :=
  match rs with
  | [] => match ns with
    | i :: _ => some (i, true, true)
    | [] => none
  | [i] => some (i, true, true)
  | rs => match aheadO Y ops listed rs with
    | some (i, _) => some (i, false, certX ops.toList i listed (closeX i listed 0 ops.toList []) brk)
    | none => none

def schedO (Y : Tys) (nt : Nat) (ops : Array Oper) (brk : List Nat) : Nat → List Bool → Option (List Stp)
  | 0, listed => match readyX ops.toList listed with
    | [] => some []
    | _ => none
  | n + 1, listed => match readyX ops.toList listed with
    | [] => some []
    | rs =>
      let ns := rs.filter (newO Y nt ops.toList)
      let os := rs.filter fun j => !(newO Y nt ops.toList j)
      match pickO Y ops listed brk ns os with
      | some (i, sole, cert) => bif chkO ops.toList listed ns os i then match ops[i]? with
          | some o => match stpO Y nt ops.toList i sole cert o with
            | some s => match schedO Y nt ops brk n (listed.set i true) with
              | some l => some (s :: l)
              | none => none
            | none => none
          | none => none
        else none
      | none => none

/-- The slots of those that make blocks. -/
def eraseO (Y : Tys) (nt : Nat) (ops : List Oper) : List Tk :=
  (List.range ops.length).filterMap fun i => bif newO Y nt ops i then match ops[i]? with
    | some o => match o.dst with
      | some d => some (at_ d)
      | none => none
    | none => none
  else none

def ccR (Y : Tys) (nt : Nat) (ops : Array Oper) (draw : Bool) : Option CC :=
  bif draw then
      bif Region.noSelect ops then match schedO Y nt ops (actsAt Y 0 ops.toList) ops.size (List.replicate ops.size false) with
        | some l => some (.draw (eraseO Y nt ops.toList) l)
        | none => none
      else none
    else match seqO Y nt ops.toList 0 ops.toList with
      | some l => some (.run l)
      | none => none
/-- What is not served: nothing comes of it. -/
def bad : CC := .cond (.con .nils) .skip .skip
def orBad : Option CC → CC
  | some c => c
  | none => bad

def cc (Y : Tys) (nt : Nat) : Code → Option CC
  | .skip => some .skip
  | .label _ => some .skip
  | .region _ ops draw => some (orBad (ccR Y nt ops draw))
  | .seq a b => match cc Y nt a, cc Y nt b with
    | some x, some y => some (.seq x y)
    | _, _ => none
  | .cond c a b => match opd c, cc Y nt a, cc Y nt b with
    | some u, some x, some y => some (.cond u x y)
    | _, _, _ => none
  | .block id a => match cc Y nt a with
    | some x => some (.block id x)
    | none => none
  | .loop a => match cc Y nt a with
    | some x => some (.loop x)
    | none => none
  | .exit id => some (.exit id)
  | .ret => some .ret
  | _ => some bad

def resO (Y : Tys) : List ResultVar → Option (List CRes)
  | [] => some []
  | .tmp t :: r => bif Nat.blt t 18446744073709551616 then match resO Y r with
      | some l => some (.tmp (at_ t) :: l)
      | none => none
    else none
  | .cell a t :: r => bif Nat.blt a 18446744073709551616 then match lk Y.T t, resO Y r with
      | some e, some l => some (.cell (at_ a) (bif isAggD e.d then some e.size else none) :: l)
      | _, _ => none
    else none

def fnO (Y : Tys) (f : FuncId) (fn : Func) : Option CFn :=
  match fn.body with
  | some c => match cc Y fn.ntmps c, resO Y fn.results.toList with
    | some x, some r => some ⟨f, fn.ntmps, x, r⟩
    | _, _ => none
  | none => none

/-! ### carrying out -/
def putC (st : St) (d : Option Tk) (v : CV) : St :=
  match d with
  | none => st
  | some p => { st with sl := T.put (some v) p st.sl }

def wantC (sl : T CV) : Option (Tk × Bool) → Option Bool
  | none => some true
  | some (p, b) => match sl.get p with
    | some (.bool c) => some (bif c then b else !b)
    | some (.tup _) => some false
    | _ => none

/-- The call of functions, as a piece of the doer's words. -/
abbrev Self := CC → St → Option (CE × St)
abbrev Fns := Tk → Option CFn
abbrev Exts := FuncId → Option (List CV → Option CV)

def resC (st : St) : List CRes → Option (List CV)
  | [] => some []
  | .tmp p :: r => match st.sl.get p, resC st r with
    | some v, some vs => some (v :: vs)
    | _, _ => none
  | .cell p n :: r => match st.sl.get p, resC st r with
    | some (.ptr t o), some vs => match blkAt st t with
      | some b => match n with
        | none => match cellC b o with
          | some v => some (v :: vs)
          | none => none
        | some k => match rangeC b o k with
          | some l => some (.agg l :: vs)
          | none => none
      | none => none
    | _, _ => none
def oneC : List CV → CV
  | [v] => v
  | l => .tup l

def callC (self : Self) (fns : Fns) (exts : Exts) (st : St) (f : FuncId) (vs : List CV) : Option (CV × St) :=
  match fns (at_ f) with
  | some fn => bif Nat.beq fn.id f && Nat.ble vs.length fn.nt && Nat.ble fn.nt 65536 then
      match self fn.body { st with sl := layT 0 vs .nil } with
      | some (e, st') => match e with
        | .exit _ => none
        | _ => match resC st' fn.res with
          | some l => some (oneC l, { st' with sl := st.sl })
          | none => none
      | none => none
    else none
  | none => match exts f with
    | some g => match g vs with
      | some v => some (v, st)
      | none => none
    | none => none

def actC (self : Self) (fns : Fns) (exts : Exts) (st : St) (op : COp) : Option (CV × St) :=
  match op with
  | .call f args => match ev st.sl f, mapO (ev st.sl) args with
    | some (.fn f a b), some vs => callC self fns exts st f (a ++ vs ++ b)
    | _, _ => none
  | op => doC st op

def runL (self : Self) (fns : Fns) (exts : Exts) : List Stp → St → Option St
  | [], st => some st
  | s :: r, st => match wantC st.sl s.guard with
    | some true => match actC self fns exts st s.op with
      | some (v, st') => runL self fns exts r (putC st' s.dst v)
      | none => none
    | some false => runL self fns exts r (putC st s.dst undefC)
    | none => none

/-- As it stands, or as it stood at the region's head. -/
def drawL (self : Self) (fns : Fns) (exts : Exts) (g0 : Gt) : List Stp → St → List Tk → Option (St × List Tk)
  | [], st, tc => some (st, tc)
  | s :: r, st, tc => match wantC st.sl s.guard with
    | some false => drawL self fns exts g0 r (putC st s.dst undefC) tc
    | some true => bif s.sole then match actC self fns exts st s.op with
        | some (v, st') => drawL self fns exts g0 r (putC st' s.dst v) tc
        | none => none
      else match pureC st.sl g0 s.op with
        | some v => drawL self fns exts g0 r (putC st s.dst v) (bif s.cert then tc else match touchC st.sl s.op with
          | some t => t :: tc
          | none => tc)
        | none => none
    | none => none

def apartT (d : List Tk) : List Tk → Bool
  | [] => true
  | t :: r => bif hasT d t then false else apartT d r

def eraseT : List Tk → T CV → T CV
  | [], t => t
  | p :: r, t => eraseT r (T.put none p t)

def drawC (self : Self) (fns : Fns) (exts : Exts) (er : List Tk) (l : List Stp) (st : St) : Option St :=
  match drawL self fns exts st.h.at_.get l { st with sl := eraseT er st.sl, dirty := [] } [] with
  | some (st', tc) => bif apartT st'.dirty tc then some { st' with dirty := st'.dirty ++ st.dirty } else none
  | none => none

def ex (self : Self) (fns : Fns) (exts : Exts) : CC → St → Option (CE × St)
  | .skip, st => some (.normal, st)
  | .run l, st => match runL self fns exts l st with
    | some st' => some (.normal, st')
    | none => none
  | .draw er l, st => match drawC self fns exts er l st with
    | some st' => some (.normal, st')
    | none => none
  | .seq a b, st => match ex self fns exts a st with
    | some (e, st') => match e with
      | .normal => ex self fns exts b st'
      | e => some (e, st')
    | none => none
  | .cond c a b, st => match ev st.sl c with
    | some (.bool t) => bif t then ex self fns exts a st else ex self fns exts b st
    | _ => none
  | .block id a, st => match ex self fns exts a st with
    | some (e, st') => match e with
      | .exit i => bif Nat.beq i id then some (.normal, st') else some (.exit i, st')
      | e => some (e, st')
    | none => none
  | .loop a, st => match ex self fns exts a st with
    | some (e, st') => match e with
      | .normal => self (.loop a) st'
      | e => some (e, st')
    | none => none
  | .exit id, st => some (.exit id, st)
  | .ret, st => some (.ret, st)

def go (fns : Fns) (exts : Exts) (n : Nat) : Self :=
  Nat.rec (fun _ _ => none) (fun _ ih c st => ex ih fns exts c st) n

/-- Function f called with these, from nothing. -/
def callF (fns : Fns) (exts : Exts) (n : Nat) (f : FuncId) (vs : List CV) : Option (CV × St) :=
  callC (go fns exts n) fns exts ⟨.nil, ⟨.nil, .e⟩, []⟩ f vs

end
end Go.Cx

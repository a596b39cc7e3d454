/- A reckoner of preconditions for the model's code: the state of a call is told by symbolic values, and what is left to show is one plain statement. Here: the reckoner itself. -/
import Derived.OrdersHeld
import Derived.Laws.World
import Derived.KernelRfl
namespace Go.Sx
open Go

/-! ### the words of what is to be shown -/
abbrev wCell (w : World) (b o : Nat) (v : Value) : Prop := w.cell? ⟨b, o, none⟩ = some v
abbrev wAdd (o n : Nat) : Nat := o + n
abbrev wMul (n : Int) (s : Nat) : Nat := n.toNat * s
abbrev wIdx (n : Int) (l : Nat) : Prop := 0 ≤ n ∧ n < (l : Int)
abbrev wWrap (k : IntKind) (n r : Int) : Prop := k.wrap n = r
abbrev wPlus (a b : Int) : Int := a + b
abbrev wMinus (a b : Int) : Int := a - b
abbrev wTimes (a b : Int) : Int := a * b
abbrev wEq (a b : Int) : Bool := a == b
abbrev wNe (a b : Int) : Bool := a != b
abbrev wLt (a b : Int) : Bool := decide (a < b)
abbrev wLe (a b : Int) : Bool := decide (a ≤ b)
abbrev wGt (a b : Int) : Bool := decide (a > b)
abbrev wGe (a b : Int) : Bool := decide (a ≥ b)
abbrev wNot (b : Bool) : Bool := !b
abbrev wMin2 (a b : Int) : Int := if b < a then b else a
abbrev wMax2 (a b : Int) : Int := if a < b then b else a
abbrev wInt (n : Nat) : Int := (n : Int)
abbrev wSize (s : ByteArray) : Int := (s.size : Int)
abbrev wOut (b : Nat) (ρ : List Nat) : Prop := b ∉ ρ
abbrev wNew (w : World) (b : Nat) : Prop := w.heap.size ≤ b
abbrev wTop (w : World) : Nat := w.heap.size
abbrev wRun {α : Type} (P : Program) (s : Sem α) (w : World) (v : α) (w' : World) : Prop := s.run P w = .ok v w'
abbrev wCalls (P : Program) (f : FuncId) (args : List Value) (w : World) (R : Ending → World → Prop) : Prop := Calls P f args.toArray w R
abbrev wBlock (w : World) (b : Nat) (cs : List Value) (t : TypeId) : Prop := w.heap[b]? = some (.cells cs.toArray t (0, 0))
abbrev wAlloc (w : World) (o : Obj) : World := w.alloc o
abbrev wKeep (bs : List Nat) (w w' : World) : Prop := w.heap.size ≤ w'.heap.size ∧ ∀ b ∈ bs, w'.heap[b]? = w.heap[b]?
abbrev wBin (op : BinOp) (t : TypeId) (x y : Operand) (a b : Value) : Sem Value := do eqGuard op t x y a b; binOp op t a b
abbrev wUn (op : UnOp) (a : Value) : Sem Value := Op.unary op a
abbrev wConvert (s d : TypeId) (a : Value) : Sem Value := convert s d a
abbrev wSlice (t : TypeId) (a : Value) (lo hi mx : Option Value) : Sem Value := Instr.sliceAt t a lo hi mx
abbrev wIndex (t : TypeId) (a i : Value) : Sem Value := Instr.index t a i
abbrev wIndexAt (t : TypeId) (a i : Value) : Sem Value := Instr.indexAt t a i
abbrev wField (t : TypeId) (a : Value) (f : Nat) : Sem Value := Instr.field t a f
abbrev wFieldAt (t : TypeId) (a : Value) (f : Nat) : Sem Value := Instr.fieldAt t a f
abbrev wLoad (t : TypeId) (a : Value) : Sem Value := Instr.loadAt t a
abbrev wBuild (t : TypeId) (ps : Array (Nat × Value)) : Sem Value := Instr.build t ps
abbrev wBuildSlice (t : TypeId) (n : Nat) (ps : Array (Nat × Value)) : Sem Value := Instr.buildSlice t n ps
abbrev wLookup (t : TypeId) (a i : Value) (ok : Bool) : Sem Value := Instr.lookup t a i ok
abbrev wMakeMap (t : TypeId) (r : Option Value) : Sem Value := Instr.makeMap t r
abbrev wMakeSlice (t : TypeId) (l c : Value) : Sem Value := Instr.makeSlice t l c
abbrev wMapEntry (t : TypeId) (m k : Value) : Sem Value := Instr.mapEntry t m k
abbrev wRange (t : TypeId) (x : Value) : Sem Value := Instr.range t x
abbrev wNext (it : Value) (s : Bool) (t : TypeId) : Sem Value := Instr.next it s t
abbrev wEntry (it : Value) : Sem Value := Instr.entry it
abbrev wMakeSome (t : TypeId) : Sem Value := Instr.alloc t true (.tuple #[])
abbrev wBox (t : TypeId) (x : Value) : Sem Value := Instr.box t x
abbrev wMakeIface (t : TypeId) (x : Value) : Sem Value := Instr.makeInterface t x
abbrev wAssert (x : Value) (t a : TypeId) (ok : Bool) : Sem Value := Instr.typeAssert x t a ok
abbrev wAppend (ts : Array TypeId) (t : TypeId) (as : Array Value) : Sem Value := Builtin.append_ ts t as
abbrev wLen (ts : Array TypeId) (t : TypeId) (as : Array Value) : Sem Value := Builtin.len_ ts t as
abbrev wCap (ts : Array TypeId) (t : TypeId) (as : Array Value) : Sem Value := Builtin.cap_ ts t as
abbrev wCopy (ts : Array TypeId) (t : TypeId) (as : Array Value) : Sem Value := Builtin.copy_ ts t as
abbrev wMin (ts : Array TypeId) (t : TypeId) (as : Array Value) : Sem Value := Builtin.min_ ts t as
abbrev wMax (ts : Array TypeId) (t : TypeId) (as : Array Value) : Sem Value := Builtin.max_ ts t as
abbrev wDelete (ts : Array TypeId) (t : TypeId) (as : Array Value) : Sem Value := Builtin.delete_ ts t as
abbrev wClear (ts : Array TypeId) (t : TypeId) (as : Array Value) : Sem Value := Builtin.clear_ ts t as
abbrev wStore (t : TypeId) (a v : Value) : Sem Unit := Instr.storeAt t a v
abbrev wMapUpdate (t : TypeId) (m k v : Value) : Sem Unit := Instr.mapUpdate t m k v
abbrev wEntryStore (t : TypeId) (m s v : Value) : Sem Unit := Instr.entryStore t m s v
abbrev wExt (P : Program) (f : FuncId) (args : List Value) (w : World) (v : Value) : Prop := (callFunc f args.toArray).run P w = .ok (.value v) w
/-! ### end of the words -/

/-- A value as the reckoner knows it. `raw`: written out. `bol`: a Bool that is known. `adr`: an address elsewhere. `ptr`, `slc`: the place of a token. -/
inductive SV where
  | raw (v : Value)
  | bol (b : Bool)
  | adr (b o : Nat)
  | ptr (t o : Nat)
  | slc (t o l c : Nat)
  | fn (f : FuncId) (caps : List SV)
  | agg (l : List SV)
  | tup (l : List SV)

mutual
def SV.val (ρ : List Nat) : SV → Value
  | .raw v => v
  | .bol b => .bool b
  | .adr b o => .pointer (some ⟨b, o, none⟩)
  | .ptr t o => .pointer (some ⟨ρ.getD t 0, o, none⟩)
  | .slc t o l c => .slice (some ⟨ρ.getD t 0, o, none⟩) l c
  | .fn f caps => .func (.func f) #[] (SV.vals ρ caps).toArray
  | .agg l => .agg (SV.vals ρ l).toArray
  | .tup l => .tuple (SV.vals ρ l).toArray
def SV.vals (ρ : List Nat) : List SV → List Value
  | [] => []
  | v :: r => v.val ρ :: SV.vals ρ r
end

mutual
/-- All tokens are below n. -/
def SV.wf (n : Nat) : SV → Bool
  | .raw _ => true
  | .bol _ => true
  | .adr _ _ => true
  | .ptr t _ => Nat.blt t n
  | .slc t _ _ _ => Nat.blt t n
  | .fn _ caps => SV.wfs n caps
  | .agg l => SV.wfs n l
  | .tup l => SV.wfs n l
def SV.wfs (n : Nat) : List SV → Bool
  | [] => true
  | v :: r => v.wf n && SV.wfs n r
end

/-- The cells of a value. -/
def SV.cells : SV → List SV
  | .agg l => l
  | .raw (.agg cs) => cs.toList.map .raw
  | v => [v]

/-- A constant. -/
def ofVal : Value → SV
  | .bool b => .bol b
  | v => .raw v

def lk {α : Type} : List (Nat × α) → Nat → Option α
  | [], _ => none
  | (a, x) :: r, k => bif Nat.beq a k then some x else lk r k

def hasN : List Nat → Nat → Bool
  | [], _ => false
  | a :: r, k => bif Nat.beq a k then true else hasN r k

/-! ### types -/
structure TE where
  d : TypeDesc
  size : Nat
  bytes : Nat
  zero : Value

def isAggD : TypeDesc → Bool
  | .struct _ => true
  | .array _ _ => true
  | _ => false

structure TE.ok (P : Program) (t : TypeId) (e : TE) : Prop where
  und : P.underlying t = some e.d
  run : ∀ w, (underlying t).run P w = .ok e.d w
  sz : ∀ w, (sizeOf t).run P w = .ok e.size w
  zero : ∀ w, (zeroValue t).run P w = .ok e.zero w
  agg : ∀ w, (isAgg t).run P w = .ok (isAggD e.d) w
  bytes : ∀ w, ∃ i, (typeInfo t).run P w = .ok i w ∧ i.bytes = e.bytes ∧ i.size = e.size
  info : ∃ i, P.info? t = some i ∧ i.size = e.size ∧ i.bytes = e.bytes ∧ i.zero = some e.zero

abbrev Tab := List (Nat × TE)
def Tab.ok (P : Program) : Tab → Prop
  | [] => True
  | (t, e) :: r => e.ok P t ∧ Tab.ok P r

/-- What a value of a type looks like. -/
inductive Shape where
  | int (k : IntKind) | bool | str | ptr | adr | slice | map | val
  | lit (v : Value)
  | agg (l : List Shape) | tup (l : List Shape)

mutual
def Shape.ex : Shape → (SV → Prop) → Prop
  | .int k, p => ∃ n : Int, p (.raw (.int k n))
  | .bool, p => ∃ b : Bool, p (.raw (.bool b))
  | .str, p => ∃ s : ByteArray, p (.raw (.string s))
  | .ptr, p => ∃ a : Option Addr, p (.raw (.pointer a))
  | .adr, p => ∃ b o : Nat, p (.adr b o)
  | .slice, p => ∃ (a : Option Addr) (l c : Nat), p (.raw (.slice a l c))
  | .map, p => ∃ m : Option Nat, p (.raw (.map m))
  | .val, p => ∃ v : Value, p (.raw v)
  | .lit v, p => p (.raw v)
  | .agg l, p => Shape.exs l fun vs => p (.agg vs)
  | .tup l, p => Shape.exs l fun vs => p (.tup vs)
def Shape.exs : List Shape → (List SV → Prop) → Prop
  | [], p => p []
  | s :: r, p => s.ex fun v => Shape.exs r fun vs => p (v :: vs)
end

mutual
def Shape.all : Shape → (SV → Prop) → Prop
  | .int k, p => ∀ n : Int, p (.raw (.int k n))
  | .bool, p => ∀ b : Bool, p (.raw (.bool b))
  | .str, p => ∀ s : ByteArray, p (.raw (.string s))
  | .ptr, p => ∀ a : Option Addr, p (.raw (.pointer a))
  | .adr, p => ∀ b o : Nat, p (.adr b o)
  | .slice, p => ∀ (a : Option Addr) (l c : Nat), p (.raw (.slice a l c))
  | .map, p => ∀ m : Option Nat, p (.raw (.map m))
  | .val, p => ∀ v : Value, p (.raw v)
  | .lit v, p => p (.raw v)
  | .agg l, p => Shape.alls l fun vs => p (.agg vs)
  | .tup l, p => Shape.alls l fun vs => p (.tup vs)
def Shape.alls : List Shape → (List SV → Prop) → Prop
  | [], p => p []
  | s :: r, p => s.all fun v => Shape.alls r fun vs => p (v :: vs)
end

def IntKind.same : IntKind → IntKind → Bool
  | .i8, .i8 | .i16, .i16 | .i32, .i32 | .i64, .i64 | .u8, .u8 | .u16, .u16 | .u32, .u32 | .u64, .u64 => true
  | _, _ => false

mutual
/-- Is this value of that shape? -/
def Shape.fits : Shape → SV → Bool
  | .int k, .raw (.int j _) => IntKind.same k j
  | .bool, .raw (.bool _) => true
  | .bool, .bol _ => true
  | .str, .raw (.string _) => true
  | .ptr, .raw (.pointer _) => true
  | .ptr, .adr _ _ => true
  | .ptr, .ptr _ _ => true
  | .adr, .adr _ _ => true
  | .adr, .ptr _ _ => true
  | .slice, .raw (.slice _ _ _) => true
  | .slice, .slc _ _ _ _ => true
  | .map, .raw (.map _) => true
  | .val, _ => true
  | .agg l, .agg vs => Shape.fitss l vs
  | .tup l, .tup vs => Shape.fitss l vs
  | _, _ => false
def Shape.fitss : List Shape → List SV → Bool
  | [], [] => true
  | s :: r, v :: vs => s.fits v && Shape.fitss r vs
  | _, _ => false
end

def shapeCells (T : Tab) : Nat → TypeId → List Shape
  | 0, _ => [.val]
  | n + 1, t =>
    match lk T t with
    | none => [.val]
    | some e =>
      match e.d with
      | .int k => [.int k]
      | .bool => [.bool]
      | .string => [.str]
      | .pointer _ => [.ptr]
      | .slice _ => [.slice]
      | .map _ _ => [.map]
      | .struct fs => fs.toList.flatMap fun f => shapeCells T n f.type
      | .array len e => (List.replicate len (shapeCells T n e)).flatten
      | _ => [.val]
def shapeOne (T : Tab) (t : TypeId) : Shape :=
  match lk T t with
  | none => .val
  | some e =>
    match e.d with
    | .struct _ => .agg (shapeCells T 8 t)
    | .array _ _ => .agg (shapeCells T 8 t)
    | _ => (shapeCells T 8 t).headD .val
def shapeOf (T : Tab) (t : TypeId) : Shape :=
  match lk T t with
  | some { d := .tuple ts, .. } => .tup (ts.toList.map (shapeOne T))
  | _ => shapeOne T t

/-! ### the state -/
structure Blk where
  cells : List SV
  elem : TypeId
abbrev Heap := List (Option Blk)
abbrev kb (cs : List SV) (t : TypeId) : Option Blk := some ⟨cs, t⟩
abbrev ad (b o : Nat) : Addr := ⟨b, o, none⟩
abbrev vi8 (n : Int) : Value := .int .i8 n
abbrev ri8 (n : Int) : SV := .raw (.int .i8 n)
abbrev vi16 (n : Int) : Value := .int .i16 n
abbrev ri16 (n : Int) : SV := .raw (.int .i16 n)
abbrev vi32 (n : Int) : Value := .int .i32 n
abbrev ri32 (n : Int) : SV := .raw (.int .i32 n)
abbrev vi64 (n : Int) : Value := .int .i64 n
abbrev ri64 (n : Int) : SV := .raw (.int .i64 n)
abbrev vu8 (n : Int) : Value := .int .u8 n
abbrev ru8 (n : Int) : SV := .raw (.int .u8 n)
abbrev vu16 (n : Int) : Value := .int .u16 n
abbrev ru16 (n : Int) : SV := .raw (.int .u16 n)
abbrev vu32 (n : Int) : Value := .int .u32 n
abbrev ru32 (n : Int) : SV := .raw (.int .u32 n)
abbrev vu64 (n : Int) : Value := .int .u64 n
abbrev ru64 (n : Int) : SV := .raw (.int .u64 n)

structure St where
  nt : Nat
  sl : List (Nat × SV)
  hp : Heap

/-- The blocks of the tokens hold what is known of them. -/
structure Held (hp : Heap) (ρ : List Nat) (w : World) : Prop where
  len : hp.length = ρ.length
  nodup : ρ.Nodup
  lt : ∀ b, b ∈ ρ → b < w.heap.size
  held : ∀ (t : Nat) (k : Blk), hp[t]? = some (some k) → w.heap[ρ.getD t 0]? = some (.cells (SV.vals ρ k.cells).toArray k.elem (0, 0))

/-- Beside the tokens' blocks, whatever was there is as it was. -/
structure Ext (ρ : List Nat) (w0 w : World) : Prop where
  size : w0.heap.size ≤ w.heap.size
  same : ∀ b, b < w0.heap.size → b ∉ ρ → w.heap[b]? = w0.heap[b]?
  os : w.os = w0.os
  tape : w.tape = w0.tape
  output : w.output = w0.output

structure Fin (hp : Heap) (ρ : List Nat) (w0 w : World) : Prop extends Held hp ρ w, Ext ρ w0 w
/-! ### words again -/
abbrev wFin (hp : Heap) (ρ : List Nat) (w0 w : World) : Prop := Fin hp ρ w0 w
abbrev wOk (ρ : List Nat) (w0 : World) (ext : Bool) (w : World) : Prop := ext = true → Ext ρ w0 w
/-! ### end of words again -/

structure CallHint where
  res : Option Shape
  hv : List (Nat × Option (List Shape))
structure LoopHint where
  car : List (Nat × Shape)
  cells : List (Nat × List Shape)

structure Env where
  P : Program
  T : Tab
  fns : List FuncId
  calls : List (Nat × CallHint)
  opq : List Nat
  loops : List (Nat × LoopHint)
  cuts : List (Nat × LoopHint) := []
  fr : List (Nat × SV) := []

/-- What is looked at by an operation that only reads. -/
structure View where
  hp : Heap
  ρ : List Nat
  w0 : World
  ext : Bool
def View.ok (V : View) (w : World) : Prop := Held V.hp V.ρ w ∧ (V.ext = true → Ext V.ρ V.w0 w)

/-- What is known of a slot: by the state, or else by the frame around a loop. -/
def St.slot (fr : List (Nat × SV)) (st : St) (t : Nat) : Option SV :=
  match lk st.sl t with
  | some v => some v
  | none => lk fr t

def St.get (fr : List (Nat × SV)) (st : St) : Operand → Option SV
  | .tmp t => st.slot fr t
  | .const v => some (ofVal v)
  | .func f => some (.fn f [])
  | .global _ => none

def evS (ρ : List Nat) (get : Operand → Option SV) (x : Operand) : Value :=
  match get x with
  | some v => v.val ρ
  | none => undef

def getAll (get : Operand → Option SV) : List Operand → Option (List SV)
  | [] => some []
  | x :: r => match get x, getAll get r with
    | some v, some vs => some (v :: vs)
    | _, _ => none

def cellsAt (w : World) (b o : Nat) (ρ : List Nat) : Nat → List SV → Prop
  | _, [] => True
  | i, c :: r => wCell w b (wAdd o i) (c.val ρ) ∧ cellsAt w b o ρ (i + 1) r

/-- An operation of the kind that answers a value, as the model runs it. -/
def semV (ev : Operand → Value) (o : Oper) : Option (Sem Value) :=
  match o.op with
  | .binOp op t x y _ => some (wBin op t x y (ev x) (ev y))
  | .unOp op _ x => some (wUn op (ev x))
  | .convert s d x => some (wConvert s d (ev x))
  | .slice t x lo hi mx => some (wSlice t (ev x) (lo.map ev) (hi.map ev) (mx.map ev))
  | .index t x i => some (wIndex t (ev x) (ev i))
  | .indexAddr t x i => some (wIndexAt t (ev x) (ev i))
  | .field t x f => some (wField t (ev x) f)
  | .fieldAddr t x f => some (wFieldAt t (ev x) f)
  | .load t x => some (wLoad t (ev x))
  | .build t ps => some (wBuild t (ps.toList.map fun x => (x.1, ev x.2)).toArray)
  | .buildSlice t n ps => some (wBuildSlice t n (ps.toList.map fun x => (x.1, ev x.2)).toArray)
  | .lookup t x i ok => some (wLookup t (ev x) (ev i) ok)
  | .makeMap t r => some (wMakeMap t (r.map ev))
  | .makeSlice t l c => some (wMakeSlice t (ev l) (ev c))
  | .mapEntry t m k => some (wMapEntry t (ev m) (ev k))
  | .range t x => some (wRange t (ev x))
  | .next it isS => some (wNext (ev it) isS o.type)
  | .entry it => some (wEntry (ev it))
  | .alloc t => some (wMakeSome t)
  | .box t x => some (wBox t (ev x))
  | .makeInterface t x => some (wMakeIface t (ev x))
  | .typeAssert x t a ok => some (wAssert (ev x) t a ok)
  | .call { callee := .builtin b, args, argTypes } =>
    match b with
    | .append => some (wAppend argTypes o.type (args.toList.map ev).toArray)
    | .len => some (wLen argTypes o.type (args.toList.map ev).toArray)
    | .cap => some (wCap argTypes o.type (args.toList.map ev).toArray)
    | .copy => some (wCopy argTypes o.type (args.toList.map ev).toArray)
    | .min => some (wMin argTypes o.type (args.toList.map ev).toArray)
    | .max => some (wMax argTypes o.type (args.toList.map ev).toArray)
    | .delete => some (wDelete argTypes o.type (args.toList.map ev).toArray)
    | .clear => some (wClear argTypes o.type (args.toList.map ev).toArray)
    | _ => none
  | _ => none

def semU (ev : Operand → Value) (o : Oper) : Option (Sem Unit) :=
  match o.op with
  | .store t a x => some (wStore t (ev a) (ev x))
  | .mapUpdate t m k x => some (wMapUpdate t (ev m) (ev k) (ev x))
  | .insert t m k x => some (wMapUpdate t (ev m) (ev k) (ev x))
  | .entryStore t m s x => some (wEntryStore t (ev m) (ev s) (ev x))
  | _ => none

/-- Does an operation that is run as the model runs it look at no memory at all? -/
def blind : Op → Bool
  | .binOp .. | .unOp .. | .index .. | .slice .. | .field .. => true
  | .call { callee := .builtin .min, .. } | .call { callee := .builtin .max, .. } => true
  | _ => false
/-- .. does it only read? -/
def reads : Op → Bool
  | .lookup .. | .convert .. | .indexAddr .. | .fieldAddr .. | .load .. | .build .. => true
  | .call { callee := .builtin .len, .. } | .call { callee := .builtin .cap, .. } => true
  | _ => false

def runX (E : Env) (V : View) (s : Sem Value) (ty : TypeId) : Option ((SV → Prop) → Prop) :=
  some fun k => (shapeOf E.T ty).ex fun v => (∀ wc : World, wOk V.ρ V.w0 V.ext wc → wRun E.P s wc (v.val V.ρ) wc) ∧ k v

/-- What is run as the model runs it, if it only reads. -/
def genX (E : Env) (V : View) (ρ : List Nat) (get : Operand → Option SV) (o : Oper) : Option ((SV → Prop) → Prop) :=
  bif blind o.op || (V.ext && reads o.op) then
    match getAll get o.op.operands.toList, semV (evS ρ get) o with
    | some _, some s => runX E V s o.type
    | _, _ => none
  else none

def intOp : BinOp → Option (Int → Int → Int)
  | .add => some wPlus
  | .sub => some wMinus
  | .mul => some wTimes
  | _ => none
def cmpOp : BinOp → Option (Int → Int → Bool)
  | .eql => some wEq
  | .neq => some wNe
  | .lss => some wLt
  | .leq => some wLe
  | .gtr => some wGt
  | .geq => some wGe
  | _ => none

def binX (E : Env) (op : BinOp) (x y : SV) : Option ((SV → Prop) → Prop) :=
  match x, y with
  | .raw (.int k a), .raw (.int j b) =>
    bif IntKind.same k j then
      match intOp op with
      | some f => some fun K => ∃ r : Int, wWrap k (f a b) r ∧ K (.raw (.int k r))
      | none => match cmpOp op with
        | some f => some fun K => K (.raw (.bool (f a b)))
        | none => none
    else none
  | _, _ => none

def idxX (E : Env) (t : TypeId) (x i : SV) : Option ((SV → Prop) → Prop) :=
  match i, lk E.T t with
  | .raw (.int _ n), some e =>
    match e.d, x with
    | .slice el, .raw (.slice A l _) => match lk E.T el with
      | some ee => some fun K => ∃ b o : Nat, A = some ⟨b, o, none⟩ ∧ wIdx n l ∧ K (.adr b (wAdd o (wMul n ee.size)))
      | none => none
    | .slice el, .slc tk o l _ => match lk E.T el with
      | some ee => some fun K => wIdx n l ∧ K (.ptr tk (o + n.toNat * ee.size))
      | none => none
    | .array len el, .adr b o => match lk E.T el with
      | some ee => some fun K => wIdx n len ∧ K (.adr b (wAdd o (wMul n ee.size)))
      | none => none
    | .array len el, .ptr tk o => match lk E.T el with
      | some ee => some fun K => wIdx n len ∧ K (.ptr tk (o + n.toNat * ee.size))
      | none => none
    | _, _ => none
  | _, _ => none

def loadX (E : Env) (V : View) (t : TypeId) (x : SV) : Option ((SV → Prop) → Prop) :=
  match x, lk E.T t with
  | .ptr tk o, some e =>
    match V.hp[tk]? with
    | some (some k) =>
      bif isAggD e.d then
        bif Nat.ble (o + e.size) k.cells.length then some fun K => K (.agg ((k.cells.drop o).take e.size)) else none
      else match k.cells[o]? with
        | some c => some fun K => K c
        | none => none
    | _ => none
  | .adr b o, some e =>
    bif V.ext then
      bif isAggD e.d then
        let sh := shapeCells E.T 8 t
        bif Nat.beq sh.length e.size then some fun K => wOut b V.ρ ∧ Shape.exs sh fun cs => cellsAt V.w0 b o V.ρ 0 cs ∧ K (.agg cs) else none
      else some fun K => wOut b V.ρ ∧ (shapeOne E.T t).ex fun c => wCell V.w0 b o (c.val V.ρ) ∧ K c
    else none
  | _, _ => none

def fieldX (E : Env) (t : TypeId) (x : SV) (f : Nat) : Option ((SV → Prop) → Prop) :=
  match lk E.T t with
  | some { d := .struct fs, .. } =>
    match fs[f]?, x with
    | some fd, .agg l => match lk E.T fd.type with
      | some e => bif isAggD e.d then (bif Nat.ble (fd.offset + e.size) l.length then some fun K => K (.agg ((l.drop fd.offset).take e.size)) else none)
        else match l[fd.offset]? with
          | some c => some fun K => K c
          | none => none
      | none => none
    | _, _ => none
  | _ => none

def fieldAddrX (E : Env) (t : TypeId) (x : SV) (f : Nat) : Option ((SV → Prop) → Prop) :=
  match lk E.T t with
  | some { d := .struct fs, .. } =>
    match fs[f]? with
    | some fd => match lk E.T fd.type with
      | some e => bif Nat.beq e.size 0 then none else
        match x with
        | .ptr tk o => some fun K => K (.ptr tk (o + fd.offset))
        | .adr b o => some fun K => K (.adr b (wAdd o fd.offset))
        | _ => none
      | none => none
    | none => none
  | _ => none

def lenX (E : Env) (t : TypeId) (x : SV) : Option ((SV → Prop) → Prop) :=
  match lk E.T t, x with
  | some { d := .slice _, .. }, .raw (.slice _ l _) => some fun K => K (.raw (.int .i64 (wInt l)))
  | some { d := .slice _, .. }, .slc _ _ l _ => some fun K => K (.raw (.int .i64 (wInt l)))
  | some { d := .string, .. }, .raw (.string s) => some fun K => K (.raw (.int .i64 (wSize s)))
  | _, _ => none

def setRange {α : Type} : List α → Nat → List α → List α
  | l, _, [] => l
  | l, o, x :: r => setRange (l.set o x) (o + 1) r

def fillS (place : Nat → Option (Nat × Nat)) (cells : List SV) : List (Nat × SV) → Option (List SV)
  | [] => some cells
  | (i, v) :: rest =>
    match place i with
    | none => none
    | some (off, size) =>
      bif Nat.beq v.cells.length size && Nat.ble (off + v.cells.length) cells.length then fillS place (setRange cells off v.cells) rest else none

def parts (get : Operand → Option SV) : List (Nat × Operand) → Option (List (Nat × SV))
  | [] => some []
  | (i, x) :: r => match get x, parts get r with
    | some v, some vs => some ((i, v) :: vs)
    | _, _ => none

def places (T : Tab) : List Field → Option (List (Nat × Nat))
  | [] => some []
  | f :: r => match lk T f.type, places T r with
    | some e, some ps => some ((f.offset, e.size) :: ps)
    | _, _ => none

def buildX (E : Env) (t : TypeId) (vs : List (Nat × SV)) : Option ((SV → Prop) → Prop) :=
  match lk E.T t with
  | some { d := .struct fs, zero, .. } => match places E.T fs.toList with
    | some ps => match fillS (fun i => ps[i]?) (zero.cells.toList.map ofVal) vs with
      | some cs => some fun K => K (.agg cs)
      | none => none
    | none => none
  | some { d := .array _ el, zero, .. } => match lk E.T el with
    | some ee => match fillS (fun i => some (i * ee.size, ee.size)) (zero.cells.toList.map ofVal) vs with
      | some cs => some fun K => K (.agg cs)
      | none => none
    | none => none
  | _ => none

def ints : List SV → Option (IntKind × List Int)
  | [.raw (.int k n)] => some (k, [n])
  | .raw (.int k n) :: r => match ints r with
    | some (j, l) => bif IntKind.same k j then some (k, n :: l) else none
    | none => none
  | _ => none

def foldX (mx : Bool) (vs : List SV) : Option ((SV → Prop) → Prop) :=
  match ints vs with
  | some (k, n :: l) => some fun K => K (.raw (.int k (l.foldl (bif mx then wMax2 else wMin2) n)))
  | _ => none

/-- An operation that only reads: its value, and what is to be shown of it; none: it is not of this kind. -/
def pureX (E : Env) (V : View) (ρ : List Nat) (get : Operand → Option SV) (o : Oper) : Option ((SV → Prop) → Prop) :=
  let or (x : Option ((SV → Prop) → Prop)) : Option ((SV → Prop) → Prop) := match x with | some f => some f | none => genX E V ρ get o
  match o.op with
  | .move x | .assign x => match get x with
    | some v => some fun K => K v
    | none => none
  | .pick c x y => match get c, get x, get y with
    | some (.bol b), some u, some v => some fun K => K (bif b then u else v)
    | _, _, _ => none
  | .load t x => match get x with
    | some v => loadX E V t v
    | none => none
  | .nilCheck x => match get x with
    | some (.ptr t o) => some fun K => K (.ptr t o)
    | some (.adr b o) => some fun K => K (.adr b o)
    | some (.raw (.pointer p)) => some fun K => ∃ b o : Nat, p = some ⟨b, o, none⟩ ∧ K (.adr b o)
    | _ => none
  | .fieldAddr t x f => match get x with
    | some v => fieldAddrX E t v f
    | none => none
  | .field t x f => match get x with
    | some v => or (fieldX E t v f)
    | none => none
  | .indexAddr t x i => match get x, get i with
    | some v, some n => idxX E t v n
    | _, _ => none
  | .extract x i => match get x with
    | some (.tup l) => match l[i]? with
      | some v => some fun K => K v
      | none => none
    | _ => none
  | .makeFunc (.func f) first caps => bif first.isEmpty then match getAll get caps.toList with
      | some vs => some fun K => K (.fn f vs)
      | none => none
    else none
  | .build t ps => match parts get ps.toList with
    | some vs => or (buildX E t vs)
    | none => none
  | .binOp op _ x y _ => match get x, get y with
    | some u, some v => or (binX E op u v)
    | _, _ => none
  | .unOp .not _ x => match get x with
    | some (.bol b) => some fun K => K (.bol (!b))
    | some (.raw (.bool b)) => some fun K => K (.raw (.bool (wNot b)))
    | _ => none
  | .convert s d x => match get x, lk E.T s, lk E.T d with
    | some (.raw (.int _ n)), some _, some { d := .int k, .. } => some fun K => ∃ r : Int, wWrap k n r ∧ K (.raw (.int k r))
    | _, _, some { d := .slice _, .. } => none
    | _, _, _ => genX E V ρ get o
  | .call { callee := .builtin .len, args, argTypes } => match args.toList, argTypes.toList with
    | [x], [t] => match get x with
      | some v => or (lenX E t v)
      | none => none
    | _, _ => none
  | .call { callee := .builtin .min, args, .. } => match getAll get args.toList with
    | some vs => or (foldX false vs)
    | none => none
  | .call { callee := .builtin .max, args, .. } => match getAll get args.toList with
    | some vs => or (foldX true vs)
    | none => none
  | _ => genX E V ρ get o

/-! ### operations that act -/
def St.wf (fr : List (Nat × SV)) (st : St) (n : Nat) : Bool :=
  st.sl.all (fun x => x.2.wf n) && fr.all (fun x => x.2.wf n) && st.hp.all fun x => match x with | some k => SV.wfs n k.cells | none => true

/-- Neither a struct nor a tuple. -/
def SV.plain : SV → Bool
  | .agg _ => false
  | .tup _ => false
  | .raw (.agg _) => false
  | .raw (.tuple _) => false
  | _ => true

/-- What is left of the heap behind a call that may have written some tokens. -/
def hvX (ρ : List Nat) (w' : World) : List (Nat × Option (List Shape)) → Heap → (Heap → Prop) → Prop
  | [], hp, k => k hp
  | (t, none) :: r, hp, k => hvX ρ w' r (hp.set t none) k
  | (t, some sh) :: r, hp, k =>
    match hp[t]? with
    | some (some b) => Shape.exs sh fun cs => wBlock w' (ρ.getD t 0) (SV.vals ρ cs) b.elem ∧ hvX ρ w' r (hp.set t (some ⟨cs, b.elem⟩)) k
    | _ => False

/-- The blocks of the tokens but those that are listed. -/
def others (ts : List Nat) : Nat → List Nat → List Nat
  | _, [] => []
  | i, b :: r => bif hasN ts i then others ts (i + 1) r else b :: others ts (i + 1) r

def newTok (fr : List (Nat × SV)) (st : St) (ρ : List Nat) (w0 : World) (cs : List SV) (t : TypeId) (k : Nat → St → List Nat → Prop) : Prop :=
  bif st.wf fr ρ.length && Nat.beq st.hp.length ρ.length && SV.wfs ρ.length cs then
    ∀ b : Nat, wNew w0 b → wOut b ρ → k ρ.length { st with hp := st.hp ++ [some ⟨cs, t⟩] } (ρ ++ [b])
  else False

abbrev KX := SV → St → List Nat → World → Prop

def hintOf (E : Env) (o : Oper) : CallHint :=
  match o.dst with
  | some d => (lk E.calls d).getD ⟨none, []⟩
  | none => ⟨none, []⟩

def callX (E : Env) (f : FuncId) (args : List Value) (o : Oper) (mask : Nat → Bool) (st : St) (ρ : List Nat) (w0 : World) (k : KX) : Prop :=
  bif hasN E.fns f && (hintOf E o).hv.all (fun x => mask x.1) then
    ∀ wc : World, wFin st.hp ρ w0 wc → wCalls E.P f args wc fun e w' =>
      ((hintOf E o).res.getD (shapeOf E.T o.type)).ex fun v => e = .returned (v.val ρ) ∧ wKeep (others ((hintOf E o).hv.map (·.1)) 0 ρ) wc w' ∧ hvX ρ w' (hintOf E o).hv st.hp fun hp => k v { st with hp } ρ w'
  else False

/-- A function without a body, which the model answers itself. -/
def extX (E : Env) (f : FuncId) (args : List Value) (o : Oper) (st : St) (ρ : List Nat) (w0 : World) (k : KX) : Prop :=
  ∀ wc : World, wFin st.hp ρ w0 wc → (shapeOf E.T o.type).ex fun v => wExt E.P f args wc (v.val ρ) ∧ k v st ρ w0

/-- Run as the model runs it, whatever it does elsewhere. -/
def actV (E : Env) (s : Sem Value) (ty : TypeId) (st : St) (ρ : List Nat) (w0 : World) (k : KX) : Prop :=
  ∀ wc : World, wFin st.hp ρ w0 wc → (shapeOf E.T ty).ex fun v => ∃ w' : World, wRun E.P s wc (v.val ρ) w' ∧ wKeep ρ wc w' ∧ k v st ρ w'
def actU (E : Env) (s : Sem Unit) (st : St) (ρ : List Nat) (w0 : World) (k : KX) : Prop :=
  ∀ wc : World, wFin st.hp ρ w0 wc → ∃ w' : World, wRun E.P s wc () w' ∧ wKeep ρ wc w' ∧ k (.raw undef) st ρ w'

def storeX (E : Env) (t : TypeId) (x v : SV) (mask : Nat → Bool) (st : St) (ρ : List Nat) (w0 : World) (k : KX) : Option Prop :=
  match x, lk E.T t with
  | .ptr tk o, some e =>
    match st.hp[tk]? with
    | some (some b) =>
      bif mask tk && Nat.beq v.cells.length e.size && Nat.ble (o + e.size) b.cells.length && v.cells.all SV.plain then
        some (k (.raw undef) { st with hp := st.hp.set tk (some ⟨setRange b.cells o v.cells, b.elem⟩) } ρ w0)
      else none
    | _ => none
  | _, _ => none

def fullView (st : St) (ρ : List Nat) (w0 : World) : View := ⟨st.hp, ρ, w0, true⟩

def isOpq (E : Env) (o : Oper) : Bool :=
  match o.dst with
  | some d => hasN E.opq d
  | none => false

def effX (E : Env) (o : Oper) (mask : Nat → Bool) (own : Bool) (st : St) (ρ : List Nat) (w0 : World) (k : KX) : Prop :=
  let gen : Prop := bif own then False else match getAll (st.get E.fr) o.op.operands.toList with
    | some _ => match semV (evS ρ (st.get E.fr)) o, semU (evS ρ (st.get E.fr)) o with
      | some s, _ => actV E s o.type st ρ w0 k
      | none, some s => actU E s st ρ w0 k
      | none, none => False
    | none => False
  match o.op with
  | .alloc t => match lk E.T t with
    | some e => bif isOpq E o then
          ∀ wc : World, wFin st.hp ρ w0 wc → k (.adr (wTop wc) 0) st ρ (wAlloc wc (.cells e.zero.cells t))
        else newTok E.fr st ρ w0 (e.zero.cells.toList.map ofVal) t fun n st ρ => k (.ptr n 0) st ρ w0
    | none => False
  | .box t x => match st.get E.fr x with
    | some v => newTok E.fr st ρ w0 v.cells t fun n st ρ => k (.ptr n 0) st ρ w0
    | none => False
  | .buildSlice t len ps => match lk E.T t, parts (st.get E.fr) ps.toList with
    | some { d := .slice el, .. }, some vs => match lk E.T el with
      | some ee => match fillS (fun i => some (i * ee.size, ee.size)) ((List.range (len * ee.size)).map fun i => ((ee.zero.cells.toList.map ofVal)[i % ee.zero.cells.size]?).getD (.raw undef)) vs with
        | some cs => bif Nat.ble (len * ee.size) 1000 && Nat.blt 0 (len * ee.size) && Nat.blt 0 ee.zero.cells.size then newTok E.fr st ρ w0 cs el fun n st ρ => k (.slc n 0 len len) st ρ w0 else gen
        | none => False
      | none => False
    | _, _ => False
  | .store t x v => match st.get E.fr x, st.get E.fr v with
    | some a, some u => (storeX E t a u mask st ρ w0 k).getD gen
    | _, _ => False
  | .call { callee := .value x, args, .. } => match st.get E.fr x, getAll (st.get E.fr) args.toList with
    | some (.fn f caps), some vs => bif hasN E.fns f then (bif own then False else callX E f (SV.vals ρ (vs ++ caps)) o mask st ρ w0 k) else extX E f (SV.vals ρ (vs ++ caps)) o st ρ w0 k
    | some (.raw (.func (.func f) first caps)), some vs => bif own then False else callX E f (first.toList ++ SV.vals ρ vs ++ caps.toList) o mask st ρ w0 k
    | _, _ => False
  | _ => match pureX E (fullView st ρ w0) ρ (st.get E.fr) o with
    | some f => f fun v => k v st ρ w0
    | none => gen

/-! ### regions -/
def St.put (st : St) (d : Option Tmp) (v : SV) (k : St → Prop) : Prop :=
  match d with
  | none => k st
  | some d => bif Nat.blt d st.nt then k { st with sl := (d, v) :: st.sl } else False

/-- Is the operation of this number another one's guard? -/
def guards (ops : List Oper) (i : Nat) : Bool := ops.any fun o => match o.guard with | some (j, _) => Nat.beq i j | none => false

/-- A Bool on which others hang is parted on. -/
def boolX (g : Bool) (v : SV) (k : SV → Prop) : Prop :=
  bif g then match v with
    | .raw (.bool b) => (b = true → k (.bol true)) ∧ (b = false → k (.bol false))
    | v => k v
  else k v

/-- Is the operation to be carried out? (none: not known) -/
def wantX (fr : List (Nat × SV)) (ops : List Oper) (st : St) (o : Oper) : Option Bool :=
  match o.guard with
  | none => some true
  | some (j, want) => match (ops[j]?).bind (·.dst) with
    | some d => match st.slot fr d with
      | some (.bol b) => some (b == want)
      | some (.raw (.tuple _)) => some false
      | _ => none
    | none => none

def seqX (E : Env) (ops : List Oper) : Nat → List Oper → St → List Nat → World → (St → List Nat → World → Prop) → Prop
  | _, [], st, ρ, w0, k => k st ρ w0
  | i, o :: r, st, ρ, w0, k =>
    match wantX E.fr ops st o with
    | none => False
    | some false => st.put o.dst (.raw undef) fun st => seqX E ops (i + 1) r st ρ w0 k
    | some true =>
      let go : KX := fun v st ρ w0 => boolX (guards ops i) v fun v => st.put o.dst v fun st => seqX E ops (i + 1) r st ρ w0 k
      match pureX E (fullView st ρ w0) ρ (st.get E.fr) o with
      | some f => f fun v => go v st ρ w0
      | none => effX E o (fun _ => true) false st ρ w0 go

/-- The token into whose block an address leads that a region reckons. -/
def tokOf (get : Operand → Option SV) (hp : Heap) (ops : List Oper) : Nat → Operand → Option Nat
  | 0, _ => none
  | n + 1, x =>
    match get x with
    | some (SV.ptr t _) => some t
    | some _ => none
    | none =>
      match x with
      | .tmp d => match ops.find? (fun o => match o.dst with | some e => Nat.beq d e | none => false) with
        | some o => match o.op with
          | .move y | .assign y | .nilCheck y | .fieldAddr _ y _ => tokOf get hp ops n y
          | .load _ y => match tokOf get hp ops n y with
            | some t => match hp[t]? with
              | some (some k) => match k.cells[0]? with
                | some (SV.ptr u _) => some u
                | _ => none
              | _ => none
            | none => none
          | _ => none
        | none => none
      | _ => none

/-- Does it act beyond new blocks? -/
def breaks (E : Env) (o : Oper) : Bool :=
  match o.op with
  | .store .. | .mapUpdate .. | .insert .. | .entryStore .. | .mapEntry .. | .makeMap .. | .makeSlice .. | .range .. | .next .. | .entry .. => true
  | .call { callee := .builtin b, .. } => match b with | .len | .cap | .min | .max => false | _ => true
  | .call { callee := .value (.func f), .. } => hasN E.fns f
  | .call _ => true
  | .convert _ d _ => match lk E.T d with
    | some { d := .slice _, .. } => true
    | _ => false
  | _ => false

def breaksAt (E : Env) : Nat → List Oper → List Nat
  | _, [] => []
  | i, o :: r => bif breaks E o then i :: breaksAt E (i + 1) r else breaksAt E (i + 1) r

/-- The tokens that a region's operations may write. -/
def maskOf (E : Env) (get : Operand → Option SV) (hp : Heap) (ops : List Oper) : List Oper → List Nat
  | [] => []
  | o :: r => (match o.op with
    | .store _ x _ => match tokOf get hp ops 9 x with
      | some t => [t]
      | none => []
    | .call { callee := .value _, .. } => (hintOf E o).hv.map (·.1)
    | _ => []) ++ maskOf E get hp ops r

def masked (hp : Heap) : Nat → List Nat → Heap
  | _, [] => hp
  | n, t :: r => masked (hp.set t none) n r

def deps (o : Oper) (C : Nat → Bool) : Bool := o.after.toList.all fun e => !Region.binds .any e || C e.on

def readyX (ops : List Oper) (listed : List Bool) : List Nat :=
  (List.range ops.length).filter fun i => !(listed.getD i true) && match ops[i]? with
    | some o => deps o fun j => listed.getD j false
    | none => false

/-- What may come up before number i. -/
def closeX (i : Nat) (listed : List Bool) : Nat → List Oper → List Bool → List Bool
  | _, [], C => C
  | j, o :: r, C => closeX i listed (j + 1) r (C ++ [listed.getD j false || (!(Nat.beq i j) && deps o fun k => C.getD k false)])

def certX (ops : List Oper) (i : Nat) (listed C : List Bool) (brk : List Nat) : Bool :=
  ((List.range ops.length).all fun j => Nat.beq i j || C.getD j false || match ops[j]? with
    | some o => !(deps o fun k => C.getD k false)
    | none => true) && ((List.range listed.length).all fun j => !(listed.getD j false) || C.getD j false) && brk.all fun b => !(C.getD b false)

/-- The first of those that may come up whose value is the same whenever it comes. -/
def stableX (E : Env) (V1 V2 : View) (brk : List Nat) (ops : Array Oper) (listed : List Bool) (st : St) (ρ : List Nat) : List Nat → Option (Nat × Oper × Option ((SV → Prop) → Prop))
  | [] => none
  | i :: r => match ops[i]? with
    | none => stableX E V1 V2 brk ops listed st ρ r
    | some o => bif Region.free .any ops listed.toArray i && !(hasN brk i) then
        match wantX E.fr ops.toList st o with
        | some false => some (i, o, none)
        | some true => match pureX E V2 ρ (st.get E.fr) o with
          | some f => some (i, o, some f)
          | none => match pureX E V1 ρ (st.get E.fr) o with
            | some f => bif certX ops.toList i listed (closeX i listed 0 ops.toList []) brk then some (i, o, some f) else stableX E V1 V2 brk ops listed st ρ r
            | none => stableX E V1 V2 brk ops listed st ρ r
        | none => stableX E V1 V2 brk ops listed st ρ r
      else stableX E V1 V2 brk ops listed st ρ r

def allX : List Nat → (Nat → Prop) → Prop
  | [], _ => True
  | [i], p => p i
  | i :: r, p => p i ∧ allX r p

/-- What may still act: not what is known to be passed over. -/
def brkX (E : Env) (ops : Array Oper) (listed : List Bool) (st : St) (brk : List Nat) : List Nat :=
  brk.filter fun b => listed.getD b false || match ops[b]? with
    | some o => match wantX E.fr ops.toList st o with
      | some false => false
      | _ => true
    | none => true

def drawX (E : Env) (V1 V2 : View) (ms : List Nat) (ops : Array Oper) : Nat → List Nat → List Bool → St → List Nat → World → (St → List Nat → World → Prop) → Prop
  | 0, _, listed, st, ρ, w0, k => match readyX ops.toList listed with
    | [] => k st ρ w0
    | _ => False
  | n + 1, brk0, listed, st, ρ, w0, k =>
    match readyX ops.toList listed with
    | [] => k st ρ w0
    | rs =>
      let brk := brkX E ops listed st brk0
      match stableX E V1 V2 brk ops listed st ρ rs with
      | some (i, o, none) => st.put o.dst (.raw undef) fun st => drawX E V1 V2 ms ops n brk (listed.set i true) st ρ w0 k
      | some (i, o, some f) => f fun v => boolX (guards ops.toList i) v fun v => st.put o.dst v fun st => drawX E V1 V2 ms ops n brk (listed.set i true) st ρ w0 k
      | none => allX rs fun i => match ops[i]? with
        | none => False
        | some o => match wantX E.fr ops.toList st o with
          | some true =>
            bif hasN brk i then effX E o (fun t => hasN ms t || Nat.ble V1.ρ.length t) false st ρ w0 fun v st ρ w0 => boolX (guards ops.toList i) v fun v => st.put o.dst v fun st => drawX E V1 V2 ms ops n brk (listed.set i true) st ρ w0 k
            else effX E o (fun _ => false) true st ρ w0 fun v st ρ w0 => boolX (guards ops.toList i) v fun v => st.put o.dst v fun st => drawX E V1 V2 ms ops n brk (listed.set i true) st ρ w0 k
          | _ => False

def regX (E : Env) (ops : Array Oper) (draw : Bool) (st : St) (ρ : List Nat) (w0 : World) (k : St → List Nat → World → Prop) : Prop :=
  bif draw then
    bif st.wf E.fr ρ.length && Nat.beq st.hp.length ρ.length && Region.noSelect ops && (maskOf E (st.get E.fr) st.hp ops.toList ops.toList).all (fun t => Nat.blt t ρ.length) then
      drawX E ⟨st.hp, ρ, w0, true⟩ ⟨masked st.hp 0 (maskOf E (st.get E.fr) st.hp ops.toList ops.toList), ρ, w0, false⟩ (maskOf E (st.get E.fr) st.hp ops.toList ops.toList) ops ops.size (breaksAt E 0 ops.toList) (List.replicate ops.size false) st ρ w0 k
    else False
  else seqX E ops.toList 0 ops.toList st ρ w0 k

def dsts : Code → List Nat
  | .region _ ops _ => ops.toList.filterMap (·.dst)
  | .seq a b => dsts a ++ dsts b
  | .cond _ a b => dsts a ++ dsts b
  | .block _ a => dsts a
  | .loop a => dsts a
  | .scope a => dsts a
  | _ => []

def getTs (fr : List (Nat × SV)) (st : St) : List Nat → Option (List SV)
  | [] => some []
  | t :: r => match st.slot fr t, getTs fr st r with
    | some v, some vs => some (v :: vs)
    | _, _ => none
def getCs (hp : Heap) : List Nat → Option (List (List SV))
  | [] => some []
  | t :: r => match hp[t]?, getCs hp r with
    | some (some b), some vs => some (b.cells :: vs)
    | _, _ => none
def setCs : Heap → List Nat → List (List SV) → Heap
  | hp, t :: r, c :: cs => match hp[t]? with
    | some (some b) => setCs (hp.set t (some ⟨c, b.elem⟩)) r cs
    | _ => setCs hp r cs
  | hp, _, _ => hp
def allCs : List (List Shape) → (List (List SV) → Prop) → Prop
  | [], p => p []
  | s :: r, p => Shape.alls s fun c => allCs r fun cs => p (c :: cs)
def fitCs : List (List Shape) → List (List SV) → Bool
  | [], [] => true
  | s :: r, c :: cs => Shape.fitss s c && fitCs r cs
  | _, _ => false

abbrev KE := Exit → St → List Nat → World → Prop

def loopX (E : Env) (h : LoopHint) (ds : List Nat) (body : Env → St → List Nat → World → KE → Prop) (st : St) (ρ : List Nat) (w0 : World) (K : KE) : Prop :=
  match getTs E.fr st (h.car.map (·.1)), getCs st.hp (h.cells.map (·.1)) with
  | some vs, some bs =>
    bif Shape.fitss (h.car.map (·.2)) vs && fitCs (h.cells.map (·.2)) bs && st.wf E.fr ρ.length && E.fr.all (fun x => !(hasN ds x.1)) then
      ∃ I : List Value → World → Nat → Prop,
        (∀ wc : World, wFin st.hp ρ w0 wc → ∃ m : Nat, I (SV.vals ρ (vs ++ bs.flatten)) wc m) ∧
        ∀ (m : Nat) (wb : World), Shape.alls (h.car.map (·.2)) fun us => allCs (h.cells.map (·.2)) fun xs =>
          wFin (setCs st.hp (h.cells.map (·.1)) xs) ρ wb wb → I (SV.vals ρ (us ++ xs.flatten)) wb m →
            body { E with fr := st.sl.filter (fun x => !(hasN ds x.1)) ++ E.fr } { st with sl := (h.car.map (·.1)).zip us, hp := setCs st.hp (h.cells.map (·.1)) xs } ρ wb fun e st2 ρ2 w2 =>
            match e with
            | .normal => match getTs [] st2 (h.car.map (·.1)), getCs st2.hp (h.cells.map (·.1)) with
              | some vs2, some bs2 => bif Shape.fitss (h.car.map (·.2)) vs2 && fitCs (h.cells.map (·.2)) bs2 && st2.sl.all (fun x => hasN ds x.1) && Nat.beq st2.nt st.nt && SV.wfs ρ.length vs2 && bs2.all (SV.wfs ρ.length) then
                  (ρ2.take ρ.length = ρ ∧ (st2.hp.take st.hp.length) = setCs st.hp (h.cells.map (·.1)) bs2) ∧ ∀ wc : World, wFin st2.hp ρ2 w2 wc → ∃ m' : Nat, m' < m ∧ I (SV.vals ρ2 (vs2 ++ bs2.flatten)) wc m'
                else False
              | _, _ => False
            | e => K e { st2 with sl := st2.sl ++ st.sl.filter (fun x => !(hasN ds x.1)) } ρ2 w2
    else False
  | _, _ => False

/-- The first region of a piece of code. -/
def headReg : Code → Option Nat
  | .region id _ _ => some id
  | .seq a b => match headReg a with
    | some i => some i
    | none => headReg b
  | .block _ a => headReg a
  | .loop a => headReg a
  | _ => none

def cutOf (E : Env) (c : Code) : Option LoopHint :=
  match headReg c with
  | some i => lk E.cuts i
  | none => none

/-- The ways through a piece of code meet behind it: what follows is told once. -/
def cutX (E : Env) (h : LoopHint) (ds : List Nat) (body : Env → St → List Nat → World → KE → Prop) (rest : St → List Nat → World → Prop) (st : St) (ρ : List Nat) (w0 : World) (K : KE) : Prop :=
  match getCs st.hp (h.cells.map (·.1)) with
  | some _ =>
    bif st.wf E.fr ρ.length && E.fr.all (fun x => !(hasN ds x.1)) then
      ∃ I : List Value → World → Prop,
        (body { E with fr := st.sl.filter (fun x => !(hasN ds x.1)) ++ E.fr } { st with sl := st.sl.filter (fun x => hasN ds x.1) } ρ w0 fun e st2 ρ2 w2 =>
            match e with
            | .normal => match getTs [] st2 (h.car.map (·.1)), getCs st2.hp (h.cells.map (·.1)) with
              | some vs2, some bs2 => bif Shape.fitss (h.car.map (·.2)) vs2 && fitCs (h.cells.map (·.2)) bs2 && st2.sl.all (fun x => hasN ds x.1) && Nat.beq st2.nt st.nt && SV.wfs ρ.length vs2 && bs2.all (SV.wfs ρ.length) then
                  (ρ2.take ρ.length = ρ ∧ (st2.hp.take st.hp.length) = setCs st.hp (h.cells.map (·.1)) bs2) ∧ ∀ wc : World, wFin st2.hp ρ2 w2 wc → I (SV.vals ρ2 (vs2 ++ bs2.flatten)) wc
                else False
              | _, _ => False
            | e => K e { st2 with sl := st2.sl ++ st.sl.filter (fun x => !(hasN ds x.1)) } ρ2 w2) ∧
        ∀ (wb : World), Shape.alls (h.car.map (·.2)) fun us => allCs (h.cells.map (·.2)) fun xs =>
          wFin (setCs st.hp (h.cells.map (·.1)) xs) ρ wb wb → I (SV.vals ρ (us ++ xs.flatten)) wb →
            rest { st with sl := (h.car.map (·.1)).zip us ++ st.sl.filter (fun x => !(hasN ds x.1)), hp := setCs st.hp (h.cells.map (·.1)) xs } ρ wb
    else False
  | none => False

def X : Env → Code → Nat → St → List Nat → World → KE → Prop
  | _, .skip, _, st, ρ, w, K => K .normal st ρ w
  | _, .label _, _, st, ρ, w, K => K .normal st ρ w
  | E, .region _ ops draw, _, st, ρ, w, K => regX E ops draw st ρ w (K .normal)
  | E, .seq a b, n, st, ρ, w, K => match cutOf E b with
    | none => X E a n st ρ w fun e st ρ w => match e with
      | .normal => X E b n st ρ w K
      | e => K e st ρ w
    | some h => cutX E h (dsts a) (fun E st ρ w K => X E a n st ρ w K) (fun st ρ w => X E b n st ρ w K) st ρ w K
  | E, .cond c a b, n, st, ρ, w, K => match st.get E.fr c with
    | some (.bol true) => X E a n st ρ w K
    | some (.bol false) => X E b n st ρ w K
    | some (.raw (.bool t)) => (t = true → X E a n st ρ w K) ∧ (t = false → X E b n st ρ w K)
    | _ => False
  | E, .block id a, _, st, ρ, w, K => X E a id st ρ w fun e st ρ w => match e with
    | .exit i => bif Nat.beq i id then K .normal st ρ w else K (.exit i) st ρ w
    | e => K e st ρ w
  | E, .loop a, n, st, ρ, w, K => match lk E.loops n with
    | some h => loopX E h (dsts a) (fun E st ρ w K => X E a n st ρ w K) st ρ w K
    | none => False
  | _, .exit id, _, st, ρ, w, K => K (.exit id) st ρ w
  | _, .ret, _, st, ρ, w, K => K .ret st ρ w
  | _, _, _, _, _, _, _ => False

def resX (E : Env) (st : St) : List ResultVar → Option (List SV)
  | [] => some []
  | .tmp t :: r => match st.slot E.fr t, resX E st r with
    | some v, some vs => some (v :: vs)
    | _, _ => none
  | .cell a t :: r => match st.slot E.fr a, resX E st r with
    | some (.ptr tk o), some vs => match lk E.T t, st.hp[tk]? with
      | some e, some (some k) =>
        bif isAggD e.d then bif Nat.ble (o + e.size) k.cells.length then some (.agg ((k.cells.drop o).take e.size) :: vs) else none
        else match k.cells[o]? with
          | some c => some (c :: vs)
          | none => none
      | _, _ => none
    | _, _ => none

def one : List SV → SV
  | [v] => v
  | l => .tup l

def retK (E : Env) (rs : List ResultVar) (R : Ending → World → Prop) : KE := fun e st ρ w0 =>
  match e with
  | .normal | .ret => match resX E st rs with
    | some vs => ∀ w : World, wFin st.hp ρ w0 w → R (.returned ((one vs).val ρ)) w
    | none => False
  | _ => False

def slotsOf : Nat → List SV → List (Nat × SV)
  | _, [] => []
  | i, v :: r => (i, v) :: slotsOf (i + 1) r

/-- What is to be shown of a function that is called with these. -/
def fnX (E : Env) (c : Code) (nt : Nat) (rs : List ResultVar) (args : List SV) (hp : Heap) (ρ : List Nat) (w : World) (R : Ending → World → Prop) : Prop :=
  X E c 0 { nt, sl := slotsOf 0 args, hp } ρ w (retK E rs R)

end Go.Sx

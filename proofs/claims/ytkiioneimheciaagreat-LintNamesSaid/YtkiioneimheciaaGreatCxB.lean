/- The doer: what it makes of an operation and of a piece of code, and how it carries that out. -/
import Derived.Test.YtkiioneimheciaaGreatCxA
import Derived.Test.YtkiioneimheciaaGreatSxI
set_option linter.all false
namespace Go.Cx
open Go Go.Sx
noncomputable section

/-! ### plain helps -/
def mapO {α β : Type} (f : α → Option β) : List α → Option (List β)
  | [] => some []
  | x :: r => match f x with
    | some y => match mapO f r with
      | some ys => some (y :: ys)
      | none => none
    | none => none

def nth {α : Type} : List α → Nat → Option α
  | [], _ => none
  | x :: r, n => bif Nat.beq n 0 then some x else nth r (Nat.sub n 1)
def takeN {α : Type} : List α → Nat → Option (List α)
  | l, 0 => some []
  | [], _ + 1 => none
  | x :: r, n + 1 => match takeN r n with
    | some s => some (x :: s)
    | none => none
def dropN {α : Type} : List α → Nat → List α
  | l, 0 => l
  | [], _ + 1 => []
  | _ :: r, n + 1 => dropN r n

def eqI : Int → Int → Bool
  | .ofNat a, .ofNat b => Nat.beq a b
  | .negSucc a, .negSucc b => Nat.beq a b
  | _, _ => false
def ltI : Int → Int → Bool
  | .ofNat a, .ofNat b => Nat.blt a b
  | .ofNat _, .negSucc _ => false
  | .negSucc _, .ofNat _ => true
  | .negSucc a, .negSucc b => Nat.blt b a
def mostN : IntKind → Nat
  | .i8 => 127 | .i16 => 32767 | .i32 => 2147483647 | .i64 => 9223372036854775807
  | .u8 => 255 | .u16 => 65535 | .u32 => 4294967295 | .u64 => 18446744073709551615
def leastN : IntKind → Nat
  | .i8 => 128 | .i16 => 32768 | .i32 => 2147483648 | .i64 => 9223372036854775808
  | _ => 0
/-- A number as one of its kind. -/
def wrapC (k : IntKind) (n : Int) : Int :=
  match n with
  | .ofNat a => bif Nat.ble a (mostN k) then .ofNat a else k.wrap (.ofNat a)
  | .negSucc a => bif Nat.blt a (leastN k) then .negSucc a else k.wrap (.negSucc a)

def strEq : List UInt8 → List UInt8 → Bool
  | [], [] => true
  | a :: r, b :: s => bif Nat.beq a.toNat b.toNat then strEq r s else false
  | _, _ => false

/-! ### operands -/
inductive Opd where
  | tmp (p : Tk)
  | con (v : CV)

def ofVal : Nat → Value → Option CV
  | 0, _ => none
  | n + 1, v => match v with
    | .int k n => some (.int k n)
    | .bool b => some (.bool b)
    | .string s => some (.str s)
    | .pointer none => some .nilp
    | .slice none 0 0 => some .nils
    | .map none => some .nilm
    | .nilFunc => some .nilf
    | .agg cs => match mapO (ofVal n) cs.toList with
      | some l => some (.agg l)
      | none => none
    | .tuple cs => match mapO (ofVal n) cs.toList with
      | some l => some (.tup l)
      | none => none
    | _ => none

def CV.cells : CV → List CV
  | .agg l => l
  | v => [v]
def CV.plain : CV → Bool
  | .agg _ => false
  | .tup _ => false
  | _ => true

def opd : Operand → Option Opd
  | .tmp t => bif Nat.blt t 18446744073709551616 then some (.tmp (at_ t)) else none
  | .const v => match ofVal 9 v with
    | some c => some (.con c)
    | none => none
  | .func f => some (.con (.fn f [] []))
  | .global _ => none

def ev (sl : T CV) : Opd → Option CV
  | .tmp p => sl.get p
  | .con v => some v

/-! ### what is alike -/
inductive Lf where
  | int (k : IntKind) | bool | str
inductive KK where
  | int | str | bool | agg (ls : List Lf)
inductive EK where
  | bool | ptr | slice | map | func | agg (ls : List Lf)

def Lf.fits : Lf → CV → Bool
  | .int k, .int j _ => IntKind.same k j
  | .bool, .bool _ => true
  | .str, .str _ => true
  | _, _ => false
def fitsL : List Lf → List CV → Bool
  | [], [] => true
  | a :: r, v :: s => bif a.fits v then fitsL r s else false
  | _, _ => false
def eqS : CV → CV → Option Bool
  | .int k a, .int j b => bif IntKind.same k j then some (eqI a b) else none
  | .bool a, .bool b => some (bif a then b else !b)
  | .str a, .str b => some (strEq a.data.toList b.data.toList)
  | _, _ => none
def eqL : List CV → List CV → Option Bool
  | [], [] => some true
  | a :: r, b :: s => match eqS a b with
    | some true => eqL r s
    | some false => some false
    | none => none
  | _, _ => none

/-- Is this key that one? -/
def keyEq (kk : KK) (k e : CV) : Option Bool :=
  match kk with
  | .int => match k, e with
    | .int _ _, .int _ _ => eqS k e
    | _, _ => none
  | .str => match k, e with
    | .str _, .str _ => eqS k e
    | _, _ => none
  | .bool => match k, e with
    | .bool _, .bool _ => eqS k e
    | _, _ => none
  | .agg ls => match k, e with
    | .agg l, .agg m => bif fitsL ls m then eqL l m else none
    | _, _ => none
def keyFit (kk : KK) (k : CV) : Bool :=
  match kk with
  | .int => match k with | .int _ _ => true | _ => false
  | .str => match k with | .str _ => true | _ => false
  | .bool => match k with | .bool _ => true | _ => false
  | .agg ls => match k with | .agg l => fitsL ls l | _ => false

def findE (kk : KK) (k : CV) : List Ent → Option (Option Ent)
  | [] => some none
  | e :: r => match keyEq kk k e.key with
    | some true => some (some e)
    | some false => findE kk k r
    | none => none
/-- With another value for the key that is there. -/
def setE (kk : KK) (k v : CV) : List Ent → List Ent
  | [] => []
  | e :: r => match keyEq kk k e.key with
    | some true => ⟨k, v, e.born⟩ :: r
    | _ => e :: setE kk k v r
def stampE (n : Nat) (v : CV) : List Ent → Option (List Ent)
  | [] => none
  | e :: r => bif Nat.beq e.born n then some (⟨e.key, v, e.born⟩ :: r) else match stampE n v r with
    | some s => some (e :: s)
    | none => none

/-! ### operations -/
inductive COp where
  | mv (x : Opd)
  | pick (c a b : Opd)
  | nilck (x : Opd)
  | new (elem : TypeId) (cs : List CV)
  | box (elem : TypeId) (x : Opd)
  | build (cs : List CV) (ps : List (Nat × Nat × Opd))
  | bslice (elem esz n : Nat) (cs : List CV) (ps : List (Nat × Nat × Opd))
  | ld (x : Opd)
  | ldn (n : Nat) (x : Opd)
  | st (n : Nat) (a v : Opd)
  | fldA (off : Nat) (x : Opd)
  | fld (off : Nat) (x : Opd)
  | fldn (off n : Nat) (x : Opd)
  | idxAS (esz : Nat) (x i : Opd)
  | idxAA (len esz : Nat) (x i : Opd)
  | idxV (len esz : Nat) (x i : Opd)
  | idxT (x i : Opd)
  | bin (op : BinOp) (x y : Opd)
  | eqs (neg : Bool) (kd : EK) (x y : Opd)
  | not (x : Opd)
  | conv (k : IntKind) (x : Opd)
  | mkfn (f : FuncId) (first caps : List Opd)
  | mkmap
  | look (kk : KK) (zero : CV) (ok : Bool) (m k : Opd)
  | mupd (kk : KK) (m k v : Opd)
  | ment (kk : KK) (zero : CV) (m k : Opd)
  | est (m s v : Opd)
  | mksl (elem esz bytes : Nat) (zero : List CV) (l c : Opd)
  | slice (esz : Nat) (x : Opd) (lo hi : Option Opd)
  | extr (x : Opd) (i : Nat)
  | len (str : Bool) (x : Opd)
  | mlen (x : Opd)
  | minmax (mx : Bool) (l : List Opd)
  | app (elem esz bytes : Nat) (x y : Opd)
  | clr (esz : Nat) (zero : List CV) (x : Opd)
  | copy (esz : Nat) (x y : Opd)
  | call (f : Opd) (args : List Opd)

/-- What is known of types: the table, and those whose values are rows of plain leaves. -/
structure Tys where
  T : Tab
  eqt : List (Nat × List Lf)

def keyKind (Y : Tys) (kt : TypeId) : Option KK :=
  match lk Y.T kt with
  | some e => match e.d with
    | .int _ => some .int
    | .string => some .str
    | .bool => some .bool
    | .struct _ | .array _ _ => match lk Y.eqt kt with
      | some ls => some (.agg ls)
      | none => none
    | _ => none
  | none => none

def eqKind (Y : Tys) (t : TypeId) : Option EK :=
  match lk Y.T t with
  | some e => match e.d with
    | .bool => some .bool
    | .pointer _ => some .ptr
    | .slice _ => some .slice
    | .map _ _ => some .map
    | .func _ _ _ => some .func
    | .struct _ | .array _ _ => match lk Y.eqt t with
      | some ls => some (.agg ls)
      | none => none
    | _ => none
  | none => none

def optO {α β : Type} (f : α → Option β) : Option α → Option (Option β)
  | none => some none
  | some x => match f x with
    | some y => some (some y)
    | none => none

def partsO (place : Nat → Option (Nat × Nat)) : List (Nat × Operand) → Option (List (Nat × Nat × Opd))
  | [] => some []
  | (i, x) :: r => match place i with
    | some (off, size) => match opd x with
      | some y => match partsO place r with
        | some s => some ((off, size, y) :: s)
        | none => none
      | none => none
    | none => none

def zeroC (e : TE) : Option CV := ofVal 9 e.zero

def one1 (x : Operand) (f : Opd → COp) : Option COp :=
  match opd x with
  | some a => some (f a)
  | none => none
def two2 (x y : Operand) (f : Opd → Opd → COp) : Option COp :=
  match opd x, opd y with
  | some a, some b => some (f a b)
  | _, _ => none
def three3 (x y z : Operand) (f : Opd → Opd → Opd → COp) : Option COp :=
  match opd x, opd y, opd z with
  | some a, some b, some c => some (f a b c)
  | _, _, _ => none

def comp (Y : Tys) (o : Oper) : Option COp :=
  match o.op with
  | .move x | .assign x => one1 x .mv
  | .pick c a b => three3 c a b .pick
  | .nilCheck x => one1 x .nilck
  | .alloc t => match lk Y.T t with
    | some e => match zeroC e with
      | some z => bif Nat.ble z.cells.length 65536 then some (.new t z.cells) else none
      | none => none
    | none => none
  | .box t x => one1 x (.box t)
  | .build t ps => match lk Y.T t with
    | some e => match zeroC e with
      | some z => match e.d with
        | .struct fs => match places Y.T fs.toList with
          | some pl => match partsO (fun i => pl[i]?) ps.toList with
            | some qs => some (.build z.cells qs)
            | none => none
          | none => none
        | .array _ el => match lk Y.T el with
          | some ee => match partsO (fun i => some (i * ee.size, ee.size)) ps.toList with
            | some qs => some (.build z.cells qs)
            | none => none
          | none => none
        | _ => none
      | none => none
    | none => none
  | .buildSlice t len ps => match lk Y.T t with
    | some e => match e.d with
      | .slice el => match lk Y.T el with
        | some ee => match zeroC ee with
          | some z => match partsO (fun i => some (i * ee.size, ee.size)) ps.toList with
            | some qs => bif Nat.ble (len * ee.size) 65536 && Nat.beq z.cells.length ee.size && Nat.blt 0 ee.size then some (.bslice el ee.size len (List.replicate len z.cells).flatten qs) else none
            | none => none
          | none => none
        | none => none
      | _ => none
    | none => none
  | .load t x => match lk Y.T t with
    | some e => bif isAggD e.d then one1 x (.ldn e.size) else one1 x .ld
    | none => none
  | .store t a v => match lk Y.T t with
    | some e => two2 a v (.st e.size)
    | none => none
  | .fieldAddr t x f => match lk Y.T t with
    | some e => match e.d with
      | .struct fs => match fs[f]? with
        | some fd => match lk Y.T fd.type with
          | some ee => bif Nat.beq ee.size 0 then none else one1 x (.fldA fd.offset)
          | none => none
        | none => none
      | _ => none
    | none => none
  | .field t x f => match lk Y.T t with
    | some e => match e.d with
      | .struct fs => match fs[f]? with
        | some fd => match lk Y.T fd.type with
          | some ee => bif isAggD ee.d then one1 x (.fldn fd.offset ee.size) else one1 x (.fld fd.offset)
          | none => none
        | none => none
      | _ => none
    | none => none
  | .indexAddr t x i => match lk Y.T t with
    | some e => match e.d with
      | .slice el => match lk Y.T el with
        | some ee => two2 x i (.idxAS ee.size)
        | none => none
      | .array n el => match lk Y.T el with
        | some ee => two2 x i (.idxAA n ee.size)
        | none => none
      | _ => none
    | none => none
  | .index t x i => match lk Y.T t with
    | some e => match e.d with
      | .array n el => match lk Y.T el with
        | some ee => bif isAggD ee.d then none else two2 x i (.idxV n ee.size)
        | none => none
      | .string => two2 x i .idxT
      | _ => none
    | none => none
  | .binOp op t x y _ => match lk Y.T t with
    | some e => match e.d with
      | .int _ | .string => two2 x y (.bin op)
      | _ => match op with
        | .eql => match eqKind Y t with
          | some kd => two2 x y (.eqs false kd)
          | none => none
        | .neq => match eqKind Y t with
          | some kd => two2 x y (.eqs true kd)
          | none => none
        | _ => none
    | none => none
  | .unOp .not _ x => one1 x .not
  | .convert s d x => match lk Y.T s, lk Y.T d with
    | some _, some e => match e.d with
      | .int k => one1 x (.conv k)
      | _ => none
    | _, _ => none
  | .makeFunc (.func f) first caps => match mapO opd first.toList, mapO opd caps.toList with
    | some a, some b => some (.mkfn f a b)
    | _, _ => none
  | .makeMap _ none => some .mkmap
  | .lookup t m k ok => match lk Y.T t with
    | some e => match e.d with
      | .map kt et => match keyKind Y kt, lk Y.T et with
        | some kk, some ee => match zeroC ee with
          | some z => two2 m k (.look kk z ok)
          | none => none
        | _, _ => none
      | _ => none
    | none => none
  | .mapUpdate t m k v | .insert t m k v => match lk Y.T t with
    | some e => match e.d with
      | .map kt _ => match keyKind Y kt with
        | some kk => three3 m k v (.mupd kk)
        | none => none
      | _ => none
    | none => none
  | .mapEntry t m k => match lk Y.T t with
    | some e => match e.d with
      | .map kt et => match keyKind Y kt, lk Y.T et with
        | some kk, some ee => match zeroC ee with
          | some z => two2 m k (.ment kk z)
          | none => none
        | _, _ => none
      | _ => none
    | none => none
  | .entryStore _ m s v => three3 m s v .est
  | .makeSlice t l c => match lk Y.T t with
    | some e => match e.d with
      | .slice el => match lk Y.T el with
        | some ee => match zeroC ee with
          | some z => bif Nat.beq z.cells.length ee.size && Nat.blt 0 ee.size then two2 l c (.mksl el ee.size ee.bytes z.cells) else none
          | none => none
        | none => none
      | _ => none
    | none => none
  | .slice t x lo hi none => match lk Y.T t with
    | some e => match e.d with
      | .slice el => match lk Y.T el with
        | some ee => match opd x, optO opd lo, optO opd hi with
          | some a, some l, some h => bif Nat.blt 0 ee.size then some (.slice ee.size a l h) else none
          | _, _, _ => none
        | none => none
      | _ => none
    | none => none
  | .extract x i => one1 x (.extr · i)
  | .call { callee := .value f, args, .. } => match opd f, mapO opd args.toList with
    | some a, some l => some (.call a l)
    | _, _ => none
  | .call { callee := .builtin .len, args, argTypes } => match args.toList, argTypes.toList with
    | [x], [t] => match lk Y.T t with
      | some e => match e.d with
        | .slice _ => one1 x (.len false)
        | .string => one1 x (.len true)
        | .map _ _ => one1 x .mlen
        | _ => none
      | none => none
    | _, _ => none
  | .call { callee := .builtin .min, args, .. } => match mapO opd args.toList with
    | some l => some (.minmax false l)
    | none => none
  | .call { callee := .builtin .max, args, .. } => match mapO opd args.toList with
    | some l => some (.minmax true l)
    | none => none
  | .call { callee := .builtin .append, args, argTypes } => match args.toList, argTypes.toList with
    | [x, y], [t, u] => match lk Y.T t with
      | some e => match e.d with
        | .slice el => match lk Y.T el with
          | some ee => match zeroC ee with
            | some z => bif Nat.beq t u && Nat.blt 0 ee.size && Nat.beq z.cells.length ee.size then two2 x y (.app el ee.size ee.bytes) else none
            | none => none
          | none => none
        | _ => none
      | none => none
    | _, _ => none
  | .call { callee := .builtin .copy, args, argTypes } => match args.toList, argTypes.toList with
    | [x, y], t :: _ => match lk Y.T t with
      | some e => match e.d with
        | .slice el => match lk Y.T el with
          | some ee => two2 x y (.copy ee.size)
          | none => none
        | _ => none
      | none => none
    | _, _ => none
  | .call { callee := .builtin .clear, args, argTypes } => match args.toList, argTypes.toList with
    | [x], [t] => match lk Y.T t with
      | some e => match e.d with
        | .slice el => match lk Y.T el with
          | some ee => match zeroC ee with
            | some z => bif Nat.beq z.cells.length ee.size then one1 x (.clr ee.size z.cells) else none
            | none => none
          | none => none
        | _ => none
      | none => none
    | _, _ => none
  | _ => none

/-- Operations that only read. -/
def COp.pure : COp → Bool
  | .mv _ | .pick _ _ _ | .nilck _ | .build _ _ | .ld _ | .ldn _ _ | .fldA _ _ | .fld _ _ | .fldn _ _ _ | .idxAS _ _ _ | .idxAA _ _ _ _ | .idxV _ _ _ _ | .idxT _ _ | .bin _ _ _ | .eqs _ _ _ _
  | .not _ | .conv _ _ | .mkfn _ _ _ | .look _ _ _ _ _ | .slice _ _ _ _ | .extr _ _ | .len _ _ | .mlen _ | .minmax _ _ => true
  | _ => false
/-- .. that make a block of their own, and no more. -/
def COp.makes : COp → Bool
  | .new _ _ | .box _ _ | .bslice _ _ _ _ _ | .mkmap | .mksl _ _ _ _ _ _ => true
  | _ => false

/-! ### values of operations that only read -/
abbrev Gt := Tk → Option Ob

def cellC (b : Blk) (o : Nat) : Option CV := bif Nat.blt o b.len then b.cells.get (at_ o) else none
def rangeC (b : Blk) : Nat → Nat → Option (List CV)
  | _, 0 => some []
  | o, n + 1 => match cellC b o with
    | some v => match rangeC b (Nat.succ o) n with
      | some vs => some (v :: vs)
      | none => none
    | none => none

def binI (op : BinOp) (k : IntKind) (a b : Int) : Option CV :=
  match op with
  | .add => some (.int k (wrapC k (Int.add a b)))
  | .sub => some (.int k (wrapC k (Int.sub a b)))
  | .mul => some (.int k (wrapC k (Int.mul a b)))
  | .quo => bif eqI b 0 then none else some (.int k (wrapC k (Int.tdiv a b)))
  | .rem => bif eqI b 0 then none else some (.int k (Int.tmod a b))
  | .eql => some (.bool (eqI a b))
  | .neq => some (.bool (!(eqI a b)))
  | .lss => some (.bool (ltI a b))
  | .leq => some (.bool (!(ltI b a)))
  | .gtr => some (.bool (ltI b a))
  | .geq => some (.bool (!(ltI a b)))
  | .and => match a, b with
    | .ofNat x, .ofNat y => bif Nat.ble x (mostN k) && Nat.ble y (mostN k) then some (.int k (.ofNat (Nat.land x y))) else none
    | _, _ => none
  | .or => match a, b with
    | .ofNat x, .ofNat y => bif Nat.ble x (mostN k) && Nat.ble y (mostN k) then some (.int k (.ofNat (Nat.lor x y))) else none
    | _, _ => none
  | .xor => match a, b with
    | .ofNat x, .ofNat y => bif Nat.ble x (mostN k) && Nat.ble y (mostN k) then some (.int k (.ofNat (Nat.xor x y))) else none
    | _, _ => none
  | _ => none
def shiftI (left : Bool) (k : IntKind) (a b : Int) : Option CV :=
  match b with
  | .ofNat n => bif left then
      bif Nat.ble n k.bits then some (.int k (wrapC k (Int.mul a (.ofNat (Nat.pow 2 n))))) else some (.int k (wrapC k (Int.mul a (.ofNat (Nat.pow 2 k.bits)))))
    else bif Nat.ble n k.bits then some (.int k (Int.fdiv a (.ofNat (Nat.pow 2 n)))) else some (.int k (Int.fdiv a (.ofNat (Nat.pow 2 k.bits))))
  | _ => none
def binC (op : BinOp) : CV → CV → Option CV
  | .int k a, .int j b => match op with
    | .shl => shiftI true k a b
    | .shr => shiftI false k a b
    | _ => bif IntKind.same k j then binI op k a b else none
  | .str a, .str b => match op with
    | .eql => some (.bool (strEq a.data.toList b.data.toList))
    | .neq => some (.bool (!(strEq a.data.toList b.data.toList)))
    | _ => none
  | _, _ => none

def eqC (kd : EK) (x y : CV) : Option Bool :=
  match kd with
  | .bool => match x, y with
    | .bool a, .bool b => some (bif a then b else !b)
    | _, _ => none
  | .ptr => match x, y with
    | .nilp, .nilp => some true
    | .nilp, .ptr _ _ => some false
    | .ptr _ _, .nilp => some false
    | _, _ => none
  | .slice => match x, y with
    | .nils, .nils => some true
    | .nils, .slc _ _ _ _ => some false
    | .slc _ _ _ _, .nils => some false
    | _, _ => none
  | .map => match x, y with
    | .nilm, .nilm => some true
    | .nilm, .mp _ => some false
    | .mp _, .nilm => some false
    | _, _ => none
  | .func => match x, y with
    | .nilf, .nilf => some true
    | .nilf, .fn _ _ _ => some false
    | .fn _ _ _, .nilf => some false
    | _, _ => none
  | .agg ls => match x, y with
    | .agg l, .agg m => bif fitsL ls l && fitsL ls m then eqL l m else none
    | _, _ => none

def setR {α : Type} : List α → Nat → List α → List α
  | l, _, [] => l
  | l, o, x :: r => setR (l.set o x) (Nat.succ o) r
def fillC (sl : T CV) (cells : List CV) : List (Nat × Nat × Opd) → Option (List CV)
  | [] => some cells
  | (off, size, x) :: r => match ev sl x with
    | some v => bif Nat.beq v.cells.length size && Nat.ble (off + v.cells.length) cells.length then fillC sl (setR cells off v.cells) r else none
    | none => none

def lookC (g : Gt) (kk : KK) (zero : CV) (ok : Bool) (m k : CV) : Option CV :=
  let ans (v : CV) (is : Bool) : Option CV := some (bif ok then .tup [v, .bool is] else v)
  bif keyFit kk k then
    match m with
    | .nilm => ans zero false
    | .mp t => match g t with
      | some (.map es _) => match findE kk k es with
        | some (some e) => ans e.val true
        | some none => ans zero false
        | none => none
      | _ => none
    | _ => none
  else none

/-- The least room that a slice surely has. -/
def capAt (g : Gt) (t : Tk) (q esz : Nat) : Option (Option Nat × Nat) :=
  match g t with
  | some (.cells b) => bif Nat.beq b.esz esz && Nat.blt 0 esz then some (b.cap, Nat.div b.len esz) else none
  | _ => none

def natO (sl : T CV) (d : Nat) : Option Opd → Option Nat
  | none => some d
  | some x => match ev sl x with
    | some (.int _ (.ofNat n)) => some n
    | _ => none

def sliceC (sl : T CV) (g : Gt) (esz : Nat) (x : CV) (lo hi : Option Opd) : Option CV :=
  match x with
  | .nils => match natO sl 0 lo, natO sl 0 hi with
    | some 0, some 0 => some .nils
    | _, _ => none
  | .slc t o l q => match natO sl 0 lo, natO sl l hi with
    | some a, some b => match capAt g t q esz with
      | some (cap, room) => bif Nat.ble a b && Nat.ble b l && Nat.ble (q + l) room then
          (bif Nat.blt (q + a) room then some (.slc t (o + a * esz) (b - a) (q + a))
          else match cap with
            | some _ => some (.slc t o (b - a) (q + a))
            | none => none)
        else none
      | none => none
    | _, _ => none
  | _ => none

def intsC : List CV → Option (IntKind × List Int)
  | [.int k n] => some (k, [n])
  | .int k n :: r => match intsC r with
    | some (j, l) => bif IntKind.same k j then some (k, n :: l) else none
    | none => none
  | _ => none
def minI (a b : Int) : Int := bif ltI b a then b else a
def maxI (a b : Int) : Int := bif ltI a b then b else a

def pureC (sl : T CV) (g : Gt) : COp → Option CV
  | .mv x => ev sl x
  | .pick c a b => match ev sl c with
    | some (.bool t) => bif t then ev sl a else ev sl b
    | _ => none
  | .nilck x => match ev sl x with
    | some (.ptr t o) => some (.ptr t o)
    | some (.fn f a b) => some (.fn f a b)
    | _ => none
  | .build cs ps => match fillC sl cs ps with
    | some l => some (.agg l)
    | none => none
  | .ld x => match ev sl x with
    | some (.ptr t o) => match g t with
      | some (.cells b) => cellC b o
      | _ => none
    | _ => none
  | .ldn n x => match ev sl x with
    | some (.ptr t o) => match g t with
      | some (.cells b) => match rangeC b o n with
        | some l => some (.agg l)
        | none => none
      | _ => none
    | _ => none
  | .fldA off x => match ev sl x with
    | some (.ptr t o) => some (.ptr t (Nat.add o off))
    | _ => none
  | .fld off x => match ev sl x with
    | some (.agg l) => nth l off
    | _ => none
  | .fldn off n x => match ev sl x with
    | some (.agg l) => match takeN (dropN l off) n with
      | some s => some (.agg s)
      | none => none
    | _ => none
  | .idxAS esz x i => match ev sl x, ev sl i with
    | some (.slc t o l _), some (.int _ (.ofNat m)) => bif Nat.blt m l then some (.ptr t (Nat.add o (Nat.mul m esz))) else none
    | _, _ => none
  | .idxAA n esz x i => match ev sl x, ev sl i with
    | some (.ptr t o), some (.int _ (.ofNat m)) => bif Nat.blt m n then some (.ptr t (Nat.add o (Nat.mul m esz))) else none
    | _, _ => none
  | .idxV n esz x i => match ev sl x, ev sl i with
    | some (.agg l), some (.int _ (.ofNat m)) => bif Nat.blt m n then nth l (Nat.mul m esz) else none
    | _, _ => none
  | .idxT x i => match ev sl x, ev sl i with
    | some (.str s), some (.int _ (.ofNat m)) => match nth s.data.toList m with
      | some b => some (.int .u8 (.ofNat b.toNat))
      | none => none
    | _, _ => none
  | .bin op x y => match ev sl x, ev sl y with
    | some a, some b => binC op a b
    | _, _ => none
  | .eqs neg kd x y => match ev sl x, ev sl y with
    | some a, some b => match eqC kd a b with
      | some r => some (.bool (bif neg then !r else r))
      | none => none
    | _, _ => none
  | .not x => match ev sl x with
    | some (.bool b) => some (.bool (!b))
    | _ => none
  | .conv k x => match ev sl x with
    | some (.int _ n) => some (.int k (wrapC k n))
    | _ => none
  | .mkfn f a b => match mapO (ev sl) a, mapO (ev sl) b with
    | some u, some v => some (.fn f u v)
    | _, _ => none
  | .look kk z ok m k => match ev sl m, ev sl k with
    | some a, some b => lookC g kk z ok a b
    | _, _ => none
  | .slice esz x lo hi => match ev sl x with
    | some v => sliceC sl g esz v lo hi
    | none => none
  | .extr x i => match ev sl x with
    | some (.tup l) => nth l i
    | _ => none
  | .len false x => match ev sl x with
    | some .nils => some (.int .i64 (.ofNat 0))
    | some (.slc _ _ l _) => some (.int .i64 (.ofNat l))
    | _ => none
  | .len true x => match ev sl x with
    | some (.str s) => some (.int .i64 (.ofNat s.size))
    | _ => none
  | .mlen x => match ev sl x with
    | some .nilm => some (.int .i64 (.ofNat 0))
    | some (.mp t) => match g t with
      | some (.map es _) => some (.int .i64 (.ofNat es.length))
      | _ => none
    | _ => none
  | .minmax mx l => match mapO (ev sl) l with
    | some vs => match intsC vs with
      | some (k, n :: r) => some (.int k (r.foldl (bif mx then maxI else minI) n))
      | _ => none
    | none => none
  | _ => none

/-- The block at which an operation that only reads looks. -/
def touchC (sl : T CV) : COp → Option Tk
  | .ld x | .ldn _ x => match ev sl x with
    | some (.ptr t _) => some t
    | _ => none
  | .look _ _ _ m _ | .mlen m => match ev sl m with
    | some (.mp t) => some t
    | _ => none
  | .slice _ x _ _ => match ev sl x with
    | some (.slc t _ _ _) => some t
    | _ => none
  | _ => none

/-! ### the state, and operations that act -/
structure St where
  sl : T CV
  h : Hp
  dirty : List Tk

def layT : Nat → List CV → T CV → T CV
  | _, [], t => t
  | i, v :: r, t => layT (Nat.succ i) r (T.put (some v) (at_ i) t)

/-- A new block. (By the parts of the state: the kernel takes few steps.) -/
def newC (st : St) (o : Ob) (k : Tk → CV) : Option (CV × St) :=
  St.rec (motive := fun _ => Option (CV × St)) (fun sl h d => Hp.rec (motive := fun _ => Option (CV × St)) (fun t n => some (k n, ⟨sl, ⟨T.put (some o) n t, inc n⟩, d⟩)) h) st
theorem newC_eq (st : St) (o : Ob) (k : Tk → CV) : newC st o k = some (k st.h.next, { st with h := ⟨T.put (some o) st.h.next st.h.at_, inc st.h.next⟩ }) := rfl
def setC (st : St) (t : Tk) (o : Ob) : St :=
  St.rec (motive := fun _ => St) (fun sl h d => Hp.rec (motive := fun _ => St) (fun q n => ⟨sl, ⟨T.put (some o) t q, n⟩, t :: d⟩) h) st
theorem setC_eq (st : St) (t : Tk) (o : Ob) : setC st t o = { st with h := ⟨T.put (some o) t st.h.at_, st.h.next⟩, dirty := t :: st.dirty } := rfl

def storeC (st : St) (t : Tk) (b : Blk) (o : Nat) (vs : List CV) : Option St :=
  bif Nat.ble (o + vs.length) b.len && vs.all CV.plain then some (setC st t (.cells { b with cells := layT o vs b.cells })) else none

def blkAt (st : St) (t : Tk) : Option Blk :=
  match st.h.at_.get t with
  | some (.cells b) => some b
  | _ => none
def mapAt (st : St) (t : Tk) : Option (List Ent × Nat) :=
  match st.h.at_.get t with
  | some (.map es c) => some (es, c)
  | _ => none

/-- The cells of a slice's first elements. -/
def elemsC (st : St) (esz n : Nat) : CV → Option (List CV)
  | .nils => bif Nat.beq n 0 then some [] else none
  | .slc t o l _ => bif Nat.ble n l then match blkAt st t with
      | some b => rangeC b o (n * esz)
      | none => none
    else none
  | _ => none
def slen : CV → Option Nat
  | .nils => some 0
  | .slc _ _ l _ => some l
  | _ => none

def undefC : CV := .tup []

def appC (st : St) (elem esz bytes : Nat) (x y : CV) : Option (CV × St) :=
  match slen y with
  | none => none
  | some 0 => match x with
    | .nils => some (.nils, st)
    | .slc t o l q => match blkAt st t with
      | some b => bif Nat.beq b.esz esz && Nat.ble ((q + l) * esz) b.len then some (.slc t o l q, st) else none
      | none => none
    | _ => none
  | some (n + 1) => match elemsC st esz (n + 1) y with
    | none => none
    | some news => bif news.all CV.plain then
      match x with
      | .nils => bif Nat.ble (n + 1) 9223372036854775807 && Nat.ble ((n + 1) * bytes) 140737488355328 && Nat.ble ((n + 1) * esz) 4294967296 then
          newC st (.cells ⟨layT 0 news .nil, (n + 1) * esz, elem, esz, none⟩) (.slc · 0 (n + 1) 0) else none
      | .slc t o l q => match blkAt st t with
        | some b => bif Nat.beq b.esz esz && Nat.ble ((q + l) * esz) b.len then
            (bif Nat.ble ((q + l + (n + 1)) * esz) b.len && Nat.ble (o + (l + (n + 1)) * esz) b.len then
              match storeC st t b (o + l * esz) news with
              | some st' => some (.slc t o (l + (n + 1)) q, st')
              | none => none
            else bif Nat.ble (l + (n + 1)) 9223372036854775807 && Nat.ble ((l + (n + 1)) * bytes) 140737488355328 && Nat.ble ((l + (n + 1)) * esz) 4294967296 then
              bif Nat.beq o 0 then
                let nb : Ob := .cells ⟨layT (l * esz) news b.cells, (l + (n + 1)) * esz, elem, esz, none⟩
                match b.cap with
                | some c => bif Nat.blt c (q + l + (n + 1)) then newC st nb (.slc · 0 (l + (n + 1)) 0) else none
                | none => bif Nat.beq q 0 && Nat.beq (l * esz) b.len && Nat.beq b.elem elem then
                    newC { st with h := ⟨T.put none t st.h.at_, st.h.next⟩, dirty := t :: st.dirty } nb (.slc · 0 (l + (n + 1)) 0)
                  else none
              else none
            else none)
          else none
        | none => none
      | _ => none
    else none

def doC (st : St) : COp → Option (CV × St)
  | .new elem cs => newC st (.cells ⟨layT 0 cs .nil, cs.length, elem, cs.length, some 1⟩) (.ptr · 0)
  | .box elem x => match ev st.sl x with
    | some v => bif Nat.ble v.cells.length 65536 then newC st (.cells ⟨layT 0 v.cells .nil, v.cells.length, elem, v.cells.length, some 1⟩) (.ptr · 0) else none
    | none => none
  | .bslice elem esz n cs ps => match fillC st.sl cs ps with
    | some l => newC st (.cells ⟨layT 0 l .nil, l.length, elem, esz, some n⟩) (.slc · 0 n 0)
    | none => none
  | .mkmap => newC st (.map [] 0) .mp
  | .mksl elem esz bytes z l c => match ev st.sl l, ev st.sl c with
    | some (.int _ (.ofNat a)), some (.int _ (.ofNat b)) => bif Nat.ble a b && Nat.ble b 65536 && Nat.ble (b * bytes) 140737488355328 && Nat.ble (b * esz) 4294967296 then
        newC st (.cells ⟨layT 0 (List.replicate b z).flatten .nil, b * esz, elem, esz, some b⟩) (.slc · 0 a 0) else none
    | _, _ => none
  | .st n a v => match ev st.sl a, ev st.sl v with
    | some (.ptr t o), some u => match blkAt st t with
      | some b => bif Nat.beq u.cells.length n then match storeC st t b o u.cells with
          | some st' => some (undefC, st')
          | none => none
        else none
      | none => none
    | _, _ => none
  | .mupd kk m k v => match ev st.sl m, ev st.sl k, ev st.sl v with
    | some (.mp t), some k, some v => bif keyFit kk k then match mapAt st t with
        | some (es, c) => match findE kk k es with
          | some (some _) => some (undefC, setC st t (.map (setE kk k v es) c))
          | some none => some (undefC, setC st t (.map (es ++ [⟨k, v, c⟩]) (Nat.succ c)))
          | none => none
        | none => none
      else none
    | _, _, _ => none
  | .ment kk z m k => match ev st.sl m, ev st.sl k with
    | some (.mp t), some k => bif keyFit kk k then match mapAt st t with
        | some (es, c) => match findE kk k es with
          | some (some e) => some (.tup [e.val, .int .i64 (.ofNat e.born)], setC st t (.map (setE kk k e.val es) c))
          | some none => some (.tup [z, .int .i64 (.ofNat c)], setC st t (.map (es ++ [⟨k, z, c⟩]) (Nat.succ c)))
          | none => none
        | none => none
      else none
    | _, _ => none
  | .est m s v => match ev st.sl m, ev st.sl s, ev st.sl v with
    | some (.mp t), some (.int _ (.ofNat n)), some v => match mapAt st t with
      | some (es, c) => match stampE n v es with
        | some es' => some (undefC, setC st t (.map es' c))
        | none => none
      | none => none
    | _, _, _ => none
  | .app elem esz bytes x y => match ev st.sl x, ev st.sl y with
    | some a, some b => appC st elem esz bytes a b
    | _, _ => none
  | .clr esz z x => match ev st.sl x with
    | some .nils => some (undefC, st)
    | some (.slc t o l _) => bif Nat.beq l 0 then some (undefC, st) else match blkAt st t with
      | some b => match storeC st t b o (List.replicate l z).flatten with
        | some st' => some (undefC, st')
        | none => none
      | none => none
    | _ => none
  | .copy esz x y => match ev st.sl x, ev st.sl y with
    | some (.slc t o l _), some s => match slen s with
      | some m => let n := bif Nat.ble m l then m else l
        match elemsC st esz n s, blkAt st t with
        | some vs, some b => match storeC st t b o vs with
          | some st' => some (.int .i64 (.ofNat n), st')
          | none => none
        | _, _ => none
      | none => none
    | some .nils, some s => match slen s with
      | some _ => some (.int .i64 (.ofNat 0), st)
      | none => none
    | _, _ => none
  | op => match pureC st.sl st.h.at_.get op with
    | some v => some (v, st)
    | none => none

end
end Go.Cx

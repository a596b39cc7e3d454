/- The doer once more, in small pieces, that the kernel takes in few steps; it is the same. -/
import Derived.Test.YtkiioneimheciaaGreatCxO
set_option linter.all false
namespace Go.Cx
open Go Go.Sx
noncomputable section

section
variable {α β : Type}
def ob (x : Option α) (f : α → Option β) : Option β := Option.rec (motive := fun _ => Option β) none f x
theorem ob_none (f : α → Option β) : ob none f = none := rfl
theorem ob_some (x : α) (f : α → Option β) : ob (some x) f = f x := rfl
def ifB (b : Bool) (x : Option β) : Option β := Bool.rec (motive := fun _ => Option β) none x b
theorem ifB_eq (b : Bool) (x : Option β) : ifB b x = bif b then x else none := by cases b <;> rfl
end

def evR (sl : T CV) (o : Opd) : Option CV := Opd.rec (motive := fun _ => Option CV) (fun p => T.getR p sl) (fun v => some v) o
theorem evR_eq (sl : T CV) (o : Opd) : evR sl o = ev sl o := by cases o <;> rfl

def mapR (sl : T CV) (l : List Opd) : Option (List CV) :=
  List.rec (motive := fun _ => Option (List CV)) (some []) (fun x _ ih => ob (evR sl x) fun y => ob ih fun ys => some (y :: ys)) l
theorem mapR_eq (sl : T CV) : ∀ l : List Opd, mapR sl l = mapO (ev sl) l
  | [] => rfl
  | x :: r => by
    show ob (evR sl x) (fun y => ob (mapR sl r) fun ys => some (y :: ys)) = _
    rw [evR_eq, mapR_eq sl r]
    simp only [mapO]
    cases ev sl x <;> simp only [ob_none, ob_some]
    cases mapO (ev sl) r <;> rfl

/-! ### what a value is -/
section
variable {β : Type}
def asPtr (v : CV) (k : Tk → Nat → Option β) : Option β := match v with
  | .ptr t o => k t o
  | _ => none
def asNat (v : CV) (k : Nat → Option β) : Option β := match v with
  | .int _ (.ofNat n) => k n
  | _ => none
def asInt' (v : CV) (k : IntKind → Int → Option β) : Option β := match v with
  | .int j n => k j n
  | _ => none
def asBool' (v : CV) (k : Bool → Option β) : Option β := match v with
  | .bool b => k b
  | _ => none
def asAgg' (v : CV) (k : List CV → Option β) : Option β := match v with
  | .agg l => k l
  | _ => none
def asTup (v : CV) (k : List CV → Option β) : Option β := match v with
  | .tup l => k l
  | _ => none
def asSlc (v : CV) (k : Tk → Nat → Nat → Nat → Option β) : Option β := match v with
  | .slc t o l q => k t o l q
  | _ => none
def asMp (v : CV) (k : Tk → Option β) : Option β := match v with
  | .mp t => k t
  | _ => none
def asStr (v : CV) (k : ByteArray → Option β) : Option β := match v with
  | .str s => k s
  | _ => none
def asFn (v : CV) (k : FuncId → List CV → List CV → Option β) : Option β := match v with
  | .fn f a b => k f a b
  | _ => none
def asBlk (o : Option Ob) (k : Blk → Option β) : Option β := match o with
  | some (.cells b) => k b
  | _ => none
def asMap (o : Option Ob) (k : List Ent → Nat → Option β) : Option β := match o with
  | some (.map es n) => k es n
  | _ => none
end

def cellR (b : Blk) (o : Nat) : Option CV := ifB (Nat.blt o b.len) (T.getR (way depth o) b.cells)
theorem cellR_eq (b : Blk) (o : Nat) : cellR b o = cellC b o := ifB_eq _ _
def rangeR (b : Blk) (n : Nat) : Nat → Option (List CV) :=
  Nat.rec (motive := fun _ => Nat → Option (List CV)) (fun _ => some []) (fun _ ih o => ob (cellR b o) fun v => ob (ih (Nat.succ o)) fun vs => some (v :: vs)) n
theorem rangeR_eq (b : Blk) : ∀ n o, rangeR b n o = rangeC b o n
  | 0, o => rfl
  | n + 1, o => by
    show ob (cellR b o) (fun v => ob (rangeR b n (Nat.succ o)) fun vs => some (v :: vs)) = _
    rw [cellR_eq, rangeR_eq b n]
    simp only [rangeC]
    cases cellC b o <;> simp only [ob_none, ob_some]
    cases rangeC b (Nat.succ o) n <;> rfl

def nthR {α : Type} (l : List α) : Nat → Option α :=
  List.rec (motive := fun _ => Nat → Option α) (fun _ => none) (fun x _ ih n => Bool.rec (motive := fun _ => Option α) (ih (Nat.sub n 1)) (some x) (Nat.beq n 0)) l
theorem nthR_eq {α : Type} : ∀ (l : List α) (n : Nat), nthR l n = nth l n
  | [], n => rfl
  | x :: r, n => by
    show Bool.rec (motive := fun _ => Option α) (nthR r (Nat.sub n 1)) (some x) (Nat.beq n 0) = _
    rw [nthR_eq r]
    simp only [nth]
    cases Nat.beq n 0 <;> rfl

def layR (l : List CV) : Nat → T CV → T CV :=
  List.rec (motive := fun _ => Nat → T CV → T CV) (fun _ t => t) (fun v _ ih i t => ih (Nat.succ i) (T.putR (some v) (way depth i) t)) l
theorem layR_eq : ∀ (l : List CV) (i : Nat) (t : T CV), layR l i t = layT i l t
  | [], i, t => rfl
  | v :: r, i, t => layR_eq r (Nat.succ i) _

/-! ### operations that only read -/
def pPick (sl : T CV) (c a b : Opd) : Option CV := ob (evR sl c) fun v => asBool' v fun t => Bool.rec (motive := fun _ => Option CV) (evR sl b) (evR sl a) t
def nilR (v : CV) : Option CV := match v with
  | .ptr t o => some (.ptr t o)
  | .fn f a b => some (.fn f a b)
  | _ => none
def pLd (g : Gt) (v : CV) : Option CV := asPtr v fun t o => asBlk (g t) fun b => cellR b o
def pLdn (g : Gt) (n : Nat) (v : CV) : Option CV := asPtr v fun t o => asBlk (g t) fun b => ob (rangeR b n o) fun l => some (.agg l)
def pFldn (off n : Nat) (v : CV) : Option CV := asAgg' v fun l => ob (takeN (dropN l off) n) fun s => some (.agg s)
def pIdxAS (esz : Nat) (x i : CV) : Option CV := asSlc x fun t o l _ => asNat i fun m => ifB (Nat.blt m l) (some (.ptr t (Nat.add o (Nat.mul m esz))))
def pIdxAA (n esz : Nat) (x i : CV) : Option CV := asPtr x fun t o => asNat i fun m => ifB (Nat.blt m n) (some (.ptr t (Nat.add o (Nat.mul m esz))))
def pIdxV (n esz : Nat) (x i : CV) : Option CV := asAgg' x fun l => asNat i fun m => ifB (Nat.blt m n) (nthR l (Nat.mul m esz))
def pLen (x : CV) : Option CV := match x with
  | .nils => some (.int .i64 (.ofNat 0))
  | .slc _ _ l _ => some (.int .i64 (.ofNat l))
  | _ => none

abbrev Rd := T CV → Gt → Option CV
def rMv (x : Opd) : Rd := fun sl _ => evR sl x
def rPick (c a b : Opd) : Rd := fun sl _ => pPick sl c a b
def rNil (x : Opd) : Rd := fun sl _ => ob (evR sl x) nilR
def rBuild (cs : List CV) (ps : List (Nat × Nat × Opd)) : Rd := fun sl g => pureC sl g (.build cs ps)
def rLd (x : Opd) : Rd := fun sl g => ob (evR sl x) (pLd g)
def rLdn (n : Nat) (x : Opd) : Rd := fun sl g => ob (evR sl x) (pLdn g n)
def rFldA (off : Nat) (x : Opd) : Rd := fun sl _ => ob (evR sl x) fun v => asPtr v fun t o => some (.ptr t (Nat.add o off))
def rFld (off : Nat) (x : Opd) : Rd := fun sl _ => ob (evR sl x) fun v => asAgg' v fun l => nthR l off
def rFldn (off n : Nat) (x : Opd) : Rd := fun sl _ => ob (evR sl x) (pFldn off n)
def rIdxAS (esz : Nat) (x i : Opd) : Rd := fun sl _ => ob (evR sl x) fun a => ob (evR sl i) (pIdxAS esz a)
def rIdxAA (n esz : Nat) (x i : Opd) : Rd := fun sl _ => ob (evR sl x) fun a => ob (evR sl i) (pIdxAA n esz a)
def rIdxV (n esz : Nat) (x i : Opd) : Rd := fun sl _ => ob (evR sl x) fun a => ob (evR sl i) (pIdxV n esz a)
def rIdxT (x i : Opd) : Rd := fun sl g => pureC sl g (.idxT x i)
def rBin (op : BinOp) (x y : Opd) : Rd := fun sl _ => ob (evR sl x) fun a => ob (evR sl y) fun b => binC op a b
def rEqs (neg : Bool) (kd : EK) (x y : Opd) : Rd := fun sl g => pureC sl g (.eqs neg kd x y)
def rNot (x : Opd) : Rd := fun sl _ => ob (evR sl x) fun v => asBool' v fun b => some (.bool (!b))
def rConv (k : IntKind) (x : Opd) : Rd := fun sl _ => ob (evR sl x) fun v => asInt' v fun _ n => some (.int k (wrapC k n))
def rMkfn (f : FuncId) (a b : List Opd) : Rd := fun sl _ => ob (mapR sl a) fun u => ob (mapR sl b) fun v => some (.fn f u v)
def rLook (kk : KK) (z : CV) (ok : Bool) (m k : Opd) : Rd := fun sl g => ob (evR sl m) fun a => ob (evR sl k) fun b => lookC g kk z ok a b
def rSlice (esz : Nat) (x : Opd) (lo hi : Option Opd) : Rd := fun sl g => pureC sl g (.slice esz x lo hi)
def rExtr (x : Opd) (i : Nat) : Rd := fun sl _ => ob (evR sl x) fun v => asTup v fun l => nthR l i
def rLen (s : Bool) (x : Opd) : Rd := fun sl g => Bool.rec (motive := fun _ => Option CV) (ob (evR sl x) pLen) (pureC sl g (.len true x)) s
def rMlen (x : Opd) : Rd := fun sl g => pureC sl g (.mlen x)
def rMm (mx : Bool) (l : List Opd) : Rd := fun sl g => pureC sl g (.minmax mx l)
def rNo : Rd := fun _ _ => none

def pureR (sl : T CV) (g : Gt) (c : COp) : Option CV :=
  COp.rec (motive := fun _ => Rd) rMv rPick rNil (fun _ _ => rNo) (fun _ _ => rNo) rBuild (fun _ _ _ _ _ => rNo) rLd rLdn (fun _ _ _ => rNo) rFldA rFld rFldn rIdxAS rIdxAA rIdxV rIdxT rBin rEqs rNot rConv rMkfn rNo rLook (fun _ _ _ _ => rNo) (fun _ _ _ _ => rNo)
    (fun _ _ _ => rNo) (fun _ _ _ _ _ _ => rNo) rSlice rExtr rLen rMlen rMm (fun _ _ _ _ _ => rNo) (fun _ _ _ => rNo) (fun _ _ _ => rNo) (fun _ _ => rNo) c sl g

theorem pureR_eq (sl : T CV) (g : Gt) (c : COp) : pureR sl g c = pureC sl g c := by
  cases c with
  | mv x => exact evR_eq sl x
  | pick c a b =>
    show pPick sl c a b = _
    simp only [pPick, pureC, evR_eq]
    cases ev sl c with
    | none => rfl
    | some v => cases v <;> first | rfl | (rename_i t; cases t <;> rfl)
  | nilck x =>
    show ob (evR sl x) nilR = _
    simp only [pureC, evR_eq]
    cases ev sl x with
    | none => rfl
    | some v => cases v <;> rfl
  | ld x =>
    show ob (evR sl x) (pLd g) = _
    simp only [pureC, evR_eq]
    cases ev sl x with
    | none => rfl
    | some v =>
      cases v <;> try rfl
      rename_i t o
      simp only [ob_some, pLd, asPtr]
      cases g t with
      | none => rfl
      | some ob => cases ob <;> first | rfl | exact cellR_eq _ _
  | ldn n x =>
    show ob (evR sl x) (pLdn g n) = _
    simp only [pureC, evR_eq]
    cases ev sl x with
    | none => rfl
    | some v =>
      cases v <;> try rfl
      rename_i t o
      simp only [ob_some, pLdn, asPtr]
      cases g t with
      | none => rfl
      | some b =>
        cases b <;> try rfl
        simp only [asBlk, rangeR_eq]
        rename_i b
        cases rangeC b o n <;> rfl
  | fldA off x =>
    show ob (evR sl x) (fun v => asPtr v fun t o => some (CV.ptr t (Nat.add o off))) = _
    simp only [pureC, evR_eq]
    cases ev sl x with
    | none => rfl
    | some v => cases v <;> rfl
  | fld off x =>
    show ob (evR sl x) (fun v => asAgg' v fun l => nthR l off) = _
    simp only [pureC, evR_eq]
    cases ev sl x with
    | none => rfl
    | some v => cases v <;> first | rfl | exact nthR_eq _ _
  | fldn off n x =>
    show ob (evR sl x) (pFldn off n) = _
    simp only [pureC, evR_eq]
    cases ev sl x with
    | none => rfl
    | some v =>
      cases v <;> try rfl
      rename_i l
      simp only [ob_some, pFldn, asAgg']
      cases takeN (dropN l off) n <;> rfl
  | idxAS esz x i =>
    show ob (evR sl x) (fun a => ob (evR sl i) (pIdxAS esz a)) = _
    simp only [pureC, evR_eq]
    cases ev sl x with
    | none => rfl
    | some v =>
      cases ev sl i with
      | none => cases v <;> rfl
      | some u =>
        cases v <;> try rfl
        cases u <;> try rfl
        rename_i k n
        cases n <;> first | rfl | exact ifB_eq _ _
  | idxAA n esz x i =>
    show ob (evR sl x) (fun a => ob (evR sl i) (pIdxAA n esz a)) = _
    simp only [pureC, evR_eq]
    cases ev sl x with
    | none => rfl
    | some v =>
      cases ev sl i with
      | none => cases v <;> rfl
      | some u =>
        cases v <;> try rfl
        cases u <;> try rfl
        rename_i k n
        cases n <;> first | rfl | exact ifB_eq _ _
  | idxV n esz x i =>
    show ob (evR sl x) (fun a => ob (evR sl i) (pIdxV n esz a)) = _
    simp only [pureC, evR_eq]
    cases ev sl x with
    | none => rfl
    | some v =>
      cases ev sl i with
      | none => cases v <;> rfl
      | some u =>
        cases v <;> try rfl
        cases u <;> try rfl
        rename_i l k m
        cases m <;> try rfl
        rename_i m
        show ifB (Nat.blt m n) (nthR l (Nat.mul m esz)) = _
        rw [nthR_eq, ifB_eq]
  | bin op x y =>
    show ob (evR sl x) (fun a => ob (evR sl y) fun b => binC op a b) = _
    simp only [pureC, evR_eq]
    cases ev sl x <;> cases ev sl y <;> rfl
  | not x =>
    show ob (evR sl x) (fun v => asBool' v fun b => some (CV.bool (!b))) = _
    simp only [pureC, evR_eq]
    cases ev sl x with
    | none => rfl
    | some v => cases v <;> rfl
  | conv k x =>
    show ob (evR sl x) (fun v => asInt' v fun _ n => some (CV.int k (wrapC k n))) = _
    simp only [pureC, evR_eq]
    cases ev sl x with
    | none => rfl
    | some v => cases v <;> rfl
  | mkfn f a b =>
    show ob (mapR sl a) (fun u => ob (mapR sl b) fun v => some (CV.fn f u v)) = _
    simp only [pureC, mapR_eq]
    cases mapO (ev sl) a <;> cases mapO (ev sl) b <;> rfl
  | look kk z ok m k =>
    show ob (evR sl m) (fun a => ob (evR sl k) fun b => lookC g kk z ok a b) = _
    simp only [pureC, evR_eq]
    cases ev sl m <;> cases ev sl k <;> rfl
  | extr x i =>
    show ob (evR sl x) (fun v => asTup v fun l => nthR l i) = _
    simp only [pureC, evR_eq]
    cases ev sl x with
    | none => rfl
    | some v => cases v <;> first | rfl | exact nthR_eq _ _
  | len s x =>
    cases s
    · show ob (evR sl x) pLen = _
      simp only [pureC, evR_eq]
      cases ev sl x with
      | none => rfl
      | some v => cases v <;> rfl
    · rfl
  | _ => rfl

/-! ### operations that act -/
def retR (st : St) (x : Option CV) : Option (CV × St) := Option.rec (motive := fun _ => Option (CV × St)) none (fun v => some (v, st)) x
theorem retR_eq (st : St) (x : Option CV) : retR st x = match x with | some v => some (v, st) | none => none := by cases x <;> rfl

def storeR (st : St) (t : Tk) (b : Blk) (o : Nat) (vs : List CV) : Option (CV × St) :=
  ifB (Nat.ble (o + vs.length) b.len && vs.all CV.plain) (some (undefC, setC st t (.cells { b with cells := layR vs o b.cells })))
def dSt (st : St) (n : Nat) (a v : CV) : Option (CV × St) := asPtr a fun t o => asBlk (T.getR t st.h.at_) fun b => ifB (Nat.beq v.cells.length n) (storeR st t b o v.cells)

structure Ev where
  self : Self
  fns : Fns
  exts : Exts
abbrev Ac := Ev → St → Option (CV × St)
def rd (f : Rd) : Ac := fun _ st => retR st (f st.sl st.h.at_.get)
def aMv (x : Opd) : Ac := fun _ st => retR st (evR st.sl x)
def aPick (c a b : Opd) : Ac := rd (rPick c a b)
def aNil (x : Opd) : Ac := rd (rNil x)
def aNew (elem : TypeId) (cs : List CV) : Ac := fun _ st => newC st (.cells ⟨layR cs 0 .nil, cs.length, elem, cs.length, some 1⟩) (.ptr · 0)
def aBox (elem : TypeId) (x : Opd) : Ac := fun _ st => ob (evR st.sl x) fun v => ifB (Nat.ble v.cells.length 65536) (newC st (.cells ⟨layR v.cells 0 .nil, v.cells.length, elem, v.cells.length, some 1⟩) (.ptr · 0))
def aBuild (cs : List CV) (ps : List (Nat × Nat × Opd)) : Ac := rd (rBuild cs ps)
def aBslice (elem esz n : Nat) (cs : List CV) (ps : List (Nat × Nat × Opd)) : Ac := fun _ st => doC st (.bslice elem esz n cs ps)
def aLd (x : Opd) : Ac := rd (rLd x)
def aLdn (n : Nat) (x : Opd) : Ac := rd (rLdn n x)
def aSt (n : Nat) (a v : Opd) : Ac := fun _ st => ob (evR st.sl a) fun a => ob (evR st.sl v) fun v => dSt st n a v
def aFldA (off : Nat) (x : Opd) : Ac := rd (rFldA off x)
def aFld (off : Nat) (x : Opd) : Ac := rd (rFld off x)
def aFldn (off n : Nat) (x : Opd) : Ac := rd (rFldn off n x)
def aIdxAS (esz : Nat) (x i : Opd) : Ac := rd (rIdxAS esz x i)
def aIdxAA (n esz : Nat) (x i : Opd) : Ac := rd (rIdxAA n esz x i)
def aIdxV (n esz : Nat) (x i : Opd) : Ac := rd (rIdxV n esz x i)
def aIdxT (x i : Opd) : Ac := rd (rIdxT x i)
def aBin (op : BinOp) (x y : Opd) : Ac := rd (rBin op x y)
def aEqs (neg : Bool) (kd : EK) (x y : Opd) : Ac := rd (rEqs neg kd x y)
def aNot (x : Opd) : Ac := rd (rNot x)
def aConv (k : IntKind) (x : Opd) : Ac := rd (rConv k x)
def aMkfn (f : FuncId) (a b : List Opd) : Ac := rd (rMkfn f a b)
def aMkmap : Ac := fun _ st => newC st (.map [] 0) .mp
def aLook (kk : KK) (z : CV) (ok : Bool) (m k : Opd) : Ac := rd (rLook kk z ok m k)
def aMupd (kk : KK) (m k v : Opd) : Ac := fun _ st => doC st (.mupd kk m k v)
def aMent (kk : KK) (z : CV) (m k : Opd) : Ac := fun _ st => doC st (.ment kk z m k)
def aEst (m s v : Opd) : Ac := fun _ st => doC st (.est m s v)
def aMksl (elem esz bytes : Nat) (z : List CV) (l c : Opd) : Ac := fun _ st => doC st (.mksl elem esz bytes z l c)
def aSlice (esz : Nat) (x : Opd) (lo hi : Option Opd) : Ac := rd (rSlice esz x lo hi)
def aExtr (x : Opd) (i : Nat) : Ac := rd (rExtr x i)
def aLen (s : Bool) (x : Opd) : Ac := rd (rLen s x)
def aMlen (x : Opd) : Ac := rd (rMlen x)
def aMm (mx : Bool) (l : List Opd) : Ac := rd (rMm mx l)
def aApp (elem esz bytes : Nat) (x y : Opd) : Ac := fun _ st => ob (evR st.sl x) fun a => ob (evR st.sl y) fun b => appC st elem esz bytes a b
def aClr (esz : Nat) (z : List CV) (x : Opd) : Ac := fun _ st => doC st (.clr esz z x)
def aCopy (esz : Nat) (x y : Opd) : Ac := fun _ st => doC st (.copy esz x y)

/-- The call, in small pieces. -/
def endR (st st' : St) (fn : CFn) (e : CE) : Option (CV × St) :=
  CE.rec (motive := fun _ => St → St → CFn → Option (CV × St)) (fun st st' fn => ob (resC st' fn.res) fun l => St.rec (motive := fun _ => Option (CV × St)) (fun _ h d => some (oneC l, ⟨st.sl, h, d⟩)) st') (fun _ _ _ _ => none)
    (fun st st' fn => ob (resC st' fn.res) fun l => St.rec (motive := fun _ => Option (CV × St)) (fun _ h d => some (oneC l, ⟨st.sl, h, d⟩)) st') e st st' fn
def bodyR (ev : Ev) (st : St) (f : FuncId) (vs : List CV) (fn : CFn) : Option (CV × St) :=
  ifB (Nat.beq fn.id f && Nat.ble vs.length fn.nt && Nat.ble fn.nt 65536) (ob (St.rec (motive := fun _ => Option (CE × St)) (fun _ h d => ev.self fn.body ⟨layR vs 0 .nil, h, d⟩) st) fun r => Prod.rec (motive := fun _ => Option (CV × St)) (fun e st' => endR st st' fn e) r)
def extR (ev : Ev) (st : St) (f : FuncId) (vs : List CV) : Option (CV × St) := ob (ev.exts f) fun g => retR st (g vs)
def callR (ev : Ev) (st : St) (f : FuncId) (vs : List CV) : Option (CV × St) :=
  Option.rec (motive := fun _ => Option (CV × St)) (extR ev st f vs) (bodyR ev st f vs) (ev.fns (at_ f))
def aCall (f : Opd) (args : List Opd) : Ac := fun ev st => ob (evR st.sl f) fun v => asFn v fun f a b => ob (mapR st.sl args) fun vs => callR ev st f (a ++ vs ++ b)

def actR (ev : Ev) (st : St) (c : COp) : Option (CV × St) :=
  COp.rec (motive := fun _ => Ac) aMv aPick aNil aNew aBox aBuild aBslice aLd aLdn aSt aFldA aFld aFldn aIdxAS aIdxAA aIdxV aIdxT aBin aEqs aNot aConv aMkfn aMkmap aLook aMupd aMent aEst aMksl aSlice aExtr aLen aMlen aMm aApp aClr aCopy aCall c ev st

theorem dSt_eq (st : St) (n : Nat) (a v : CV) : dSt st n a v = (match a with
    | .ptr t o => match blkAt st t with
      | some b => bif Nat.beq v.cells.length n then match storeC st t b o v.cells with
          | some st' => some (undefC, st')
          | none => none
        else none
      | none => none
    | _ => none) := by
  cases a <;> try rfl
  rename_i t o
  show asBlk (T.getR t st.h.at_) (fun b => ifB (Nat.beq v.cells.length n) (storeR st t b o v.cells)) = _
  simp only [blkAt]
  show asBlk (st.h.at_.get t) _ = _
  cases st.h.at_.get t with
  | none => rfl
  | some q =>
    cases q <;> try rfl
    rename_i b
    simp only [asBlk, ifB_eq]
    cases Nat.beq v.cells.length n
    · rfl
    · simp only [cond_true, storeR, storeC, ifB_eq, layR_eq]
      cases (Nat.ble (o + v.cells.length) b.len && v.cells.all CV.plain) <;> rfl

theorem callR_eq (ev : Ev) (st : St) (f : FuncId) (vs : List CV) : callR ev st f vs = callC ev.self ev.fns ev.exts st f vs := by
  unfold callR callC
  cases ev.fns (at_ f) with
  | none =>
    simp only [extR]
    cases ev.exts f with
    | none => rfl
    | some g =>
      simp only [ob_some, retR_eq]
      cases g vs <;> rfl
  | some fn =>
    simp only [bodyR, ifB_eq, layR_eq]
    cases (Nat.beq fn.id f && Nat.ble vs.length fn.nt && Nat.ble fn.nt 65536)
    · rfl
    · simp only [cond_true]
      cases ev.self fn.body { st with sl := layT 0 vs .nil } with
      | none => rfl
      | some r =>
        obtain ⟨e, st'⟩ := r
        simp only [ob_some]
        cases e <;> simp only [endR] <;> cases resC st' fn.res <;> rfl

theorem actR_eq (ev : Ev) (st : St) (c : COp) : actR ev st c = actC ev.self ev.fns ev.exts st c := by
  have rd' : ∀ c : COp, c.pure = true → actC ev.self ev.fns ev.exts st c = retR st (pureC st.sl st.h.at_.get c) := fun c h => by
    rw [retR_eq]
    cases c <;> first | rfl | (cases h; done)
  cases hp : c.pure with
  | true =>
    rw [rd' c hp, ← pureR_eq]
    cases c <;> first | rfl | (cases hp; done)
  | false =>
    cases c with
    | new elem cs => show newC st (.cells ⟨layR cs 0 .nil, cs.length, elem, cs.length, some 1⟩) (.ptr · 0) = _; simp only [actC, doC, layR_eq]
    | box elem x =>
      show ob (evR st.sl x) _ = _
      simp only [actC, doC, evR_eq]
      cases Go.Cx.ev st.sl x with
      | none => rfl
      | some v => simp only [ob_some, ifB_eq, layR_eq]
    | st n a v =>
      show ob (evR st.sl a) (fun a => ob (evR st.sl v) fun v => dSt st n a v) = _
      simp only [actC, doC, evR_eq]
      cases Go.Cx.ev st.sl a with
      | none => rfl
      | some a =>
        cases Go.Cx.ev st.sl v with
        | none => cases a <;> rfl
        | some v =>
          simp only [ob_some, dSt_eq]
          cases a <;> rfl
    | app elem esz bytes x y =>
      show ob (evR st.sl x) (fun a => ob (evR st.sl y) fun b => appC st elem esz bytes a b) = _
      simp only [actC, doC, evR_eq]
      cases Go.Cx.ev st.sl x <;> cases Go.Cx.ev st.sl y <;> rfl
    | call f args =>
      show ob (evR st.sl f) (fun v => asFn v fun f a b => ob (mapR st.sl args) fun vs => callR ev st f (a ++ vs ++ b)) = _
      simp only [actC, evR_eq]
      cases Go.Cx.ev st.sl f with
      | none => rfl
      | some v =>
        simp only [ob_some, mapR_eq]
        cases v <;> try rfl
        simp only [asFn]
        cases mapO (Go.Cx.ev st.sl) args with
        | none => rfl
        | some vs => simp only [ob_some, callR_eq]
    | _ => first | rfl | (cases hp; done)

def putR (st : St) (d : Option Tk) (v : CV) : St := St.rec (motive := fun _ => St) (fun sl h di => Option.rec (motive := fun _ => St) ⟨sl, h, di⟩ (fun p => ⟨T.putR (some v) p sl, h, di⟩) d) st
theorem putR_eq (st : St) (d : Option Tk) (v : CV) : putR st d v = putC st d v := by cases d <;> rfl

/-! ### rows of operations -/
abbrev Rn := Ev → St → Option St
def doS (s : Stp) (k : Rn) : Rn := fun ev st => ob (actR ev st s.op) fun r => Prod.rec (motive := fun _ => Option St) (fun v st' => k ev (putR st' s.dst v)) r
def skS (s : Stp) (k : Rn) : Rn := fun ev st => k ev (putR st s.dst undefC)
def runS (s : Stp) (_ : List Stp) (k : Rn) : Rn :=
  Option.rec (motive := fun _ => Rn) (doS s k) (fun g ev st => ob (wantC st.sl (some g)) fun b => Bool.rec (motive := fun _ => Option St) (skS s k ev st) (doS s k ev st) b) s.guard
def runE : Rn := fun _ st => some st
def runR (ev : Ev) (l : List Stp) (st : St) : Option St := List.rec (motive := fun _ => Rn) runE runS l ev st
theorem runR_eq (ev : Ev) : ∀ (l : List Stp) (st : St), runR ev l st = runL ev.self ev.fns ev.exts l st
  | [], st => rfl
  | s :: r, st => by
    have go : doS s (fun ev st => runR ev r st) ev st = (match actC ev.self ev.fns ev.exts st s.op with
        | some (v, st') => runL ev.self ev.fns ev.exts r (putC st' s.dst v)
        | none => none) := by
      simp only [doS, actR_eq, putR_eq]
      cases actC ev.self ev.fns ev.exts st s.op with
      | none => rfl
      | some q => exact runR_eq ev r _
    have sk : skS s (fun ev st => runR ev r st) ev st = runL ev.self ev.fns ev.exts r (putC st s.dst undefC) := by
      simp only [skS, putR_eq]; exact runR_eq ev r _
    show runS s r (fun ev st => runR ev r st) ev st = _
    simp only [runL]
    unfold runS
    cases hg : s.guard with
    | none => exact go
    | some g =>
      simp only
      show ob (wantC st.sl (some g)) (fun b => Bool.rec (motive := fun _ => Option St) (skS s (fun ev st => runR ev r st) ev st) (doS s (fun ev st => runR ev r st) ev st) b) = _
      rw [go, sk]
      cases wantC st.sl (some g) with
      | none => rfl
      | some b => cases b <;> rfl

abbrev Dn := Ev → Gt → St → List Tk → Option (St × List Tk)
def doD (s : Stp) (k : Dn) : Dn := fun ev g0 st tc => Bool.rec (motive := fun _ => Option (St × List Tk))
  (ob (pureR st.sl g0 s.op) fun v => k ev g0 (putR st s.dst v) (bif s.cert then tc else match touchC st.sl s.op with
    | some t => t :: tc
    | none => tc))
  (ob (actR ev st s.op) fun r => Prod.rec (motive := fun _ => Option (St × List Tk)) (fun v st' => k ev g0 (putR st' s.dst v) tc) r) s.sole
def drawS (s : Stp) (_ : List Stp) (k : Dn) : Dn := fun ev g0 st tc => ob (wantC st.sl s.guard) fun b => Bool.rec (motive := fun _ => Option (St × List Tk)) (k ev g0 (putR st s.dst undefC) tc) (doD s k ev g0 st tc) b
def drawE : Dn := fun _ _ st tc => some (st, tc)
def drawR (ev : Ev) (g0 : Gt) (l : List Stp) (st : St) (tc : List Tk) : Option (St × List Tk) := List.rec (motive := fun _ => Dn) drawE drawS l ev g0 st tc
theorem drawR_eq (ev : Ev) (g0 : Gt) : ∀ (l : List Stp) (st : St) (tc : List Tk), drawR ev g0 l st tc = drawL ev.self ev.fns ev.exts g0 l st tc
  | [], st, tc => rfl
  | s :: r, st, tc => by
    show ob (wantC st.sl s.guard) (fun b => Bool.rec (motive := fun _ => Option (St × List Tk)) (drawR ev g0 r (putR st s.dst undefC) tc) (doD s (fun ev g0 st tc => drawR ev g0 r st tc) ev g0 st tc) b) = _
    simp only [drawL, doD, actR_eq, putR_eq, pureR_eq]
    cases wantC st.sl s.guard with
    | none => rfl
    | some b =>
      cases b
      · exact drawR_eq ev g0 r _ _
      · simp only [ob_some]
        cases s.sole
        · simp only [cond_false]
          cases pureC st.sl g0 s.op with
          | none => rfl
          | some v => exact drawR_eq ev g0 r _ _
        · simp only [cond_true]
          cases actC ev.self ev.fns ev.exts st s.op with
          | none => rfl
          | some q => exact drawR_eq ev g0 r _ _
def drawCR (ev : Ev) (er : List Tk) (l : List Stp) (st : St) : Option St :=
  ob (drawR ev st.h.at_.get l { st with sl := eraseT er st.sl, dirty := [] } []) fun r => Prod.rec (motive := fun _ => Option St) (fun st' tc => ifB (apartT st'.dirty tc) (St.rec (motive := fun _ => Option St) (fun sl h d => some ⟨sl, h, d ++ st.dirty⟩) st')) r
theorem drawCR_eq (ev : Ev) (er : List Tk) (l : List Stp) (st : St) : drawCR ev er l st = drawC ev.self ev.fns ev.exts er l st := by
  unfold drawCR drawC
  rw [drawR_eq]
  cases drawL ev.self ev.fns ev.exts st.h.at_.get l { st with sl := eraseT er st.sl, dirty := [] } [] with
  | none => rfl
  | some r => simp only [ob_some, ifB_eq]

abbrev Cn := Ev → St → Option (CE × St)
def nrm (x : Option St) : Option (CE × St) := Option.rec (motive := fun _ => Option (CE × St)) none (fun st => some (.normal, st)) x
def seqK (ev : Ev) (k : Cn) (r : CE × St) : Option (CE × St) := Prod.rec (motive := fun _ => Option (CE × St)) (fun e st => CE.rec (motive := fun _ => Option (CE × St)) (k ev st) (fun id => some (.exit id, st)) (some (.ret, st)) e) r
def blkK (id : Nat) (r : CE × St) : Option (CE × St) := Prod.rec (motive := fun _ => Option (CE × St)) (fun e st => CE.rec (motive := fun _ => Option (CE × St)) (some (.normal, st)) (fun i => Bool.rec (motive := fun _ => Option (CE × St)) (some (.exit i, st)) (some (.normal, st)) (Nat.beq i id)) (some (.ret, st)) e) r
def cSkip : Cn := fun _ st => some (.normal, st)
def cRun (l : List Stp) : Cn := fun ev st => nrm (runR ev l st)
def cDraw (er : List Tk) (l : List Stp) : Cn := fun ev st => nrm (drawCR ev er l st)
def cSeq (_ _ : CC) (ia ib : Cn) : Cn := fun ev st => ob (ia ev st) (seqK ev ib)
def cCond (c : Opd) (_ _ : CC) (ia ib : Cn) : Cn := fun ev st => ob (evR st.sl c) fun v => asBool' v fun t => Bool.rec (motive := fun _ => Cn) ib ia t ev st
def cBlock (id : Nat) (_ : CC) (ia : Cn) : Cn := fun ev st => ob (ia ev st) (blkK id)
def cLoop (a : CC) (ia : Cn) : Cn := fun ev st => ob (ia ev st) (seqK ev fun ev => ev.self (.loop a))
def cExit (id : Nat) : Cn := fun _ st => some (.exit id, st)
def cRet : Cn := fun _ st => some (.ret, st)
def exR (ev : Ev) (c : CC) (st : St) : Option (CE × St) := CC.rec (motive := fun _ => Cn) cSkip cRun cDraw cSeq cCond cBlock cLoop cExit cRet c ev st
theorem exR_eq (ev : Ev) : ∀ (c : CC) (st : St), exR ev c st = ex ev.self ev.fns ev.exts c st
  | .skip, st => rfl
  | .run l, st => by
    show nrm (runR ev l st) = _
    rw [runR_eq]
    simp only [ex]
    cases runL ev.self ev.fns ev.exts l st <;> rfl
  | .draw er l, st => by
    show nrm (drawCR ev er l st) = _
    rw [drawCR_eq]
    simp only [ex]
    cases drawC ev.self ev.fns ev.exts er l st <;> rfl
  | .seq a b, st => by
    show ob (exR ev a st) (seqK ev fun ev st => exR ev b st) = _
    rw [exR_eq ev a]
    simp only [ex]
    cases ex ev.self ev.fns ev.exts a st with
    | none => rfl
    | some r =>
      obtain ⟨e, st'⟩ := r
      cases e
      · exact exR_eq ev b st'
      · rfl
      · rfl
  | .cond c a b, st => by
    show ob (evR st.sl c) (fun v => asBool' v fun t => Bool.rec (motive := fun _ => Cn) (fun ev st => exR ev b st) (fun ev st => exR ev a st) t ev st) = _
    rw [evR_eq]
    simp only [ex]
    cases Go.Cx.ev st.sl c with
    | none => rfl
    | some v =>
      cases v <;> try rfl
      rename_i t
      cases t
      · exact exR_eq ev b st
      · exact exR_eq ev a st
  | .block id a, st => by
    show ob (exR ev a st) (blkK id) = _
    rw [exR_eq ev a]
    simp only [ex]
    cases ex ev.self ev.fns ev.exts a st with
    | none => rfl
    | some r =>
      obtain ⟨e, st'⟩ := r
      cases e <;> try rfl
      rename_i i
      show Bool.rec (motive := fun _ => Option (CE × St)) _ _ (Nat.beq i id) = _
      simp only
      cases Nat.beq i id <;> rfl
  | .loop a, st => by
    show ob (exR ev a st) (seqK ev fun ev => ev.self (.loop a)) = _
    rw [exR_eq ev a]
    simp only [ex]
    cases ex ev.self ev.fns ev.exts a st with
    | none => rfl
    | some r => obtain ⟨e, st'⟩ := r; cases e <;> rfl
  | .exit id, st => rfl
  | .ret, st => rfl

def goR (fns : Fns) (exts : Exts) (n : Nat) : Self :=
  Nat.rec (motive := fun _ => Self) (fun _ _ => none) (fun _ ih c st => exR ⟨ih, fns, exts⟩ c st) n
theorem goR_eq (fns : Fns) (exts : Exts) : ∀ n, goR fns exts n = go fns exts n
  | 0 => rfl
  | n + 1 => by
    funext c st
    show exR ⟨goR fns exts n, fns, exts⟩ c st = _
    rw [exR_eq, goR_eq fns exts n]
    rfl

def callFR (fns : Fns) (exts : Exts) (n : Nat) (f : FuncId) (vs : List CV) : Option (CV × St) := callR ⟨goR fns exts n, fns, exts⟩ ⟨.nil, ⟨.nil, .e⟩, []⟩ f vs
theorem callFR_eq (fns : Fns) (exts : Exts) (n : Nat) (f : FuncId) (vs : List CV) : callFR fns exts n f vs = callF fns exts n f vs := by
  unfold callFR callF
  rw [callR_eq, goR_eq]

end
end Go.Cx

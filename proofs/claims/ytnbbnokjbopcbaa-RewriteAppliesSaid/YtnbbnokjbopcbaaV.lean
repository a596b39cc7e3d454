/- PRINTED BY a program of this session (vcgen.py): what is to be shown of functions, and that it is enough for their calls. -/
import Derived.Test.YtnbbnokjbopcbaaTab
namespace Go.Proofs.Ytnbbnokjbopcbaa
open Go Go.Sx
set_option maxRecDepth 100000

abbrev pfx (a n : Int) : SV := .agg [ru32 a, ri64 n]
abbrev spn (a b : Int) : SV := .agg [ru32 a, ru32 b]
abbrev hdr (s d p x y : Int) : SV := .agg [ru32 s, ru32 d, ru8 p, ru16 x, ru16 y]
abbrev rul (pm : Bool) (pr sa sn da dn s1 s2 d1 d2 : Int) : SV := .agg [.raw (.bool pm), ri64 pr, ru32 sa, ri64 sn, ru32 da, ri64 dn, ru32 s1, ru32 s2, ru32 d1, ru32 d2]
abbrev flt (nm : ByteArray) (a : Option Addr) (l c : Nat) : SV := .agg [.raw (.string nm), .raw (.slice a l c)]
abbrev slv (a : Option Addr) (l c : Nat) : SV := .raw (.slice a l c)

/-- What is to be shown of waymark/addr.behind. -/
def VC_behind (n : Int) (w : World) (R : Ending → World → Prop) : Prop :=
  ∃ (r : Int),
  wWrap IntKind.i64 (wMinus 32 n) r ∧
  ∃ (n : Int),
  (∀ (wc : World),
  wOk [] w true wc →
  wRun Try.prog (wBin BinOp.shl 70 (Operand.const (vu64 1)) (Operand.tmp 4) (vu64 1) (vi64 r)) wc
  (vu64 n) wc) ∧
  ∃ (r : Int),
  wWrap IntKind.u64 (wMinus n 1) r ∧
  ∃ (r_1 : Int), wWrap IntKind.u32 r r_1 ∧ ∀ (w_1 : World), wFin [] [] w w_1 → R (Ending.returned (vu32 r_1)) w_1
theorem of_behind (n : Int) {w : World} {R : Ending → World → Prop} (hh : Held [] [] w) (hVC : VC_behind n w R) : Calls Try.prog 37 (SV.vals [] [ri64 n]).toArray w R :=
  fnX_sound (E := (env ([]) [] ([]) ([]))) (env_ok _ _ _ _) rfl Try.func37 (by kernel_rfl) rfl (by kernel_rfl) (Nat.le_of_ble_eq_true (by kernel_rfl)) hh (Eq.mp (by kernel_rfl : VC_behind n w R = (fnX (env ([]) [] ([]) ([])) (Try.f37.body.getD .skip) Try.f37.ntmps Try.f37.results.toList [ri64 n] [] [] w R)) hVC)
/-- What is to be shown of waymark/addr.Check. -/
def VC_acheck (a n : Int) (w : World) (R : Ending → World → Prop) : Prop :=
  ∀ (b : Nat),
  wNew w b →
  wOut b [] →
  (wLt n 0 = true →
  ∀ (w_1 : World),
  wFin [(kb [ru32 a, ri64 n] 53)] [b] w w_1 →
  R (Ending.returned (vi64 1)) w_1) ∧
  (wLt n 0 = false →
  (wGt n 32 = true →
  ∀ (w_1 : World),
  wFin [(kb [ru32 a, ri64 n] 53)] [b] w w_1 →
  R (Ending.returned (vi64 1)) w_1) ∧
  (wGt n 32 = false →
  ∀ (wc : World),
  wFin [(kb [ru32 a, ri64 n] 53)] [b] w wc →
  wCalls Try.prog 37 [vi64 n] wc fun (e : Ending) (w' : World) =>
  ∃ (n_1 : Int),
  e = Ending.returned (vu32 n_1) ∧
  wKeep [b] wc w' ∧
  ∃ (n_2 : Int),
  (∀ (wc : World),
  wOk [b] w false wc →
  wRun Try.prog (wBin BinOp.and 25 (Operand.tmp 14) (Operand.tmp 17) (vu32 a) (vu32 n_1)) wc
  (vu32 n_2) wc) ∧
  (wNe n_2 0 = true →
  ∀ (w : World),
  wFin [(kb [ru32 a, ri64 n] 53)] [b] w' w →
  R (Ending.returned (vi64 10)) w) ∧
  (wNe n_2 0 = false →
  ∀ (w : World),
  wFin [(kb [ru32 a, ri64 n] 53)] [b] w' w →
  R (Ending.returned (vi64 0)) w)))
theorem of_acheck (a n : Int) {w : World} {R : Ending → World → Prop} (hh : Held [] [] w) (hVC : VC_acheck a n w R) : Calls Try.prog 31 (SV.vals [] [pfx a n]).toArray w R :=
  fnX_sound (E := (env ([]) [] ([]) ([]))) (env_ok _ _ _ _) rfl Try.func31 (by kernel_rfl) rfl (by kernel_rfl) (Nat.le_of_ble_eq_true (by kernel_rfl)) hh (Eq.mp (by kernel_rfl : VC_acheck a n w R = (fnX (env ([]) [] ([]) ([])) (Try.f31.body.getD .skip) Try.f31.ntmps Try.f31.results.toList [pfx a n] [] [] w R)) hVC)
/-- What is to be shown of waymark/addr.In. -/
def VC_ain (x a n : Int) (w : World) (R : Ending → World → Prop) : Prop :=
  ∀ (b : Nat),
  wNew w b →
  wOut b [] →
  ∀ (wc : World),
  wFin [(kb [ru32 a, ri64 n] 53)] [b] w wc →
  wCalls Try.prog 31 [Value.agg #[vu32 a, vi64 n]] wc fun (e : Ending) (w' : World) =>
  ∃ (n_1 : Int),
  e = Ending.returned (vi64 n_1) ∧
  wKeep [b] wc w' ∧
  (wEq n_1 0 = true →
  ∀ (wc : World),
  wFin [(kb [ru32 a, ri64 n] 53)] [b] w' wc →
  wCalls Try.prog 37 [vi64 n] wc fun (e : Ending) (w' : World) =>
  ∃ (n_2 : Int),
  e = Ending.returned (vu32 n_2) ∧
  wKeep [b] wc w' ∧
  ∃ (n_3 : Int),
  (∀ (wc : World),
  wOk [b] w false wc →
  wRun Try.prog (wBin BinOp.andNot 25 (Operand.tmp 9) (Operand.tmp 12) (vu32 x) (vu32 n_2)) wc
  (vu32 n_3) wc) ∧
  ∀ (w : World),
  wFin [(kb [ru32 a, ri64 n] 53)] [b] w' w →
  R (Ending.returned (Value.bool (wEq n_3 a))) w) ∧
  (wEq n_1 0 = false →
  ∀ (w : World),
  wFin [(kb [ru32 a, ri64 n] 53)] [b] w' w →
  R (Ending.returned (Value.bool false)) w)
theorem of_ain (x a n : Int) {w : World} {R : Ending → World → Prop} (hh : Held [] [] w) (hVC : VC_ain x a n w R) : Calls Try.prog 34 (SV.vals [] [ru32 x, pfx a n]).toArray w R :=
  fnX_sound (E := (env ([]) [] ([]) ([]))) (env_ok _ _ _ _) rfl Try.func34 (by kernel_rfl) rfl (by kernel_rfl) (Nat.le_of_ble_eq_true (by kernel_rfl)) hh (Eq.mp (by kernel_rfl : VC_ain x a n w R = (fnX (env ([]) [] ([]) ([])) (Try.f34.body.getD .skip) Try.f34.ntmps Try.f34.results.toList [ru32 x, pfx a n] [] [] w R)) hVC)
/-- What is to be shown of waymark/filter.ports. -/
def VC_ports (a b : Int) (w : World) (R : Ending → World → Prop) : Prop :=
  ∀ (b_1 : Nat),
  wNew w b_1 →
  wOut b_1 [] →
  (wLe a b = true →
  ∀ (w_1 : World),
  wFin [(kb [ru32 a, ru32 b] 55)] [b_1] w w_1 →
  R (Ending.returned (Value.bool (wLe b 65535))) w_1) ∧
  (wLe a b = false →
  ∀ (w_1 : World),
  wFin [(kb [ru32 a, ru32 b] 55)] [b_1] w w_1 →
  R (Ending.returned (Value.bool false)) w_1)
theorem of_ports (a b : Int) {w : World} {R : Ending → World → Prop} (hh : Held [] [] w) (hVC : VC_ports a b w R) : Calls Try.prog 32 (SV.vals [] [spn a b]).toArray w R :=
  fnX_sound (E := (env ([]) [] ([]) ([]))) (env_ok _ _ _ _) rfl Try.func32 (by kernel_rfl) rfl (by kernel_rfl) (Nat.le_of_ble_eq_true (by kernel_rfl)) hh (Eq.mp (by kernel_rfl : VC_ports a b w R = (fnX (env ([]) [] ([]) ([])) (Try.f32.body.getD .skip) Try.f32.ntmps Try.f32.results.toList [spn a b] [] [] w R)) hVC)
/-- What is to be shown of waymark/filter.in. -/
def VC_fin (a b p : Int) (w : World) (R : Ending → World → Prop) : Prop :=
  ∀ (b_1 : Nat),
  wNew w b_1 →
  wOut b_1 [] →
  ∃ (r : Int),
  wWrap IntKind.u32 p r ∧
  (wLe a r = true →
  ∃ (r : Int),
  wWrap IntKind.u32 p r ∧
  ∀ (w_1 : World),
  wFin [(kb [ru32 a, ru32 b] 55)] [b_1] w w_1 →
  R (Ending.returned (Value.bool (wLe r b))) w_1) ∧
  (wLe a r = false →
  ∀ (w_1 : World),
  wFin [(kb [ru32 a, ru32 b] 55)] [b_1] w w_1 →
  R (Ending.returned (Value.bool false)) w_1)
theorem of_fin (a b p : Int) {w : World} {R : Ending → World → Prop} (hh : Held [] [] w) (hVC : VC_fin a b p w R) : Calls Try.prog 35 (SV.vals [] [spn a b, ru16 p]).toArray w R :=
  fnX_sound (E := (env ([]) [] ([]) ([]))) (env_ok _ _ _ _) rfl Try.func35 (by kernel_rfl) rfl (by kernel_rfl) (Nat.le_of_ble_eq_true (by kernel_rfl)) hh (Eq.mp (by kernel_rfl : VC_fin a b p w R = (fnX (env ([]) [] ([]) ([])) (Try.f35.body.getD .skip) Try.f35.ntmps Try.f35.results.toList [spn a b, ru16 p] [] [] w R)) hVC)
/-- What is to be shown of waymark/filter.may. -/
def VC_may (pm : Bool) (pr sa sn da dn s1 s2 d1 d2 : Int) (w : World) (R : Ending → World → Prop) : Prop :=
  ∀ (b : Nat),
  wNew w b →
  wOut b [] →
  (wGe pr (-1) = true →
  (wLe pr 255 = true →
  ∀ (wc : World),
  wFin
  [(kb [SV.raw (Value.bool pm), ri64 pr, ru32 sa, ri64 sn,
  ru32 da, ri64 dn, ru32 s1, ru32 s2,
  ru32 d1, ru32 d2] 57)]
  [b] w wc →
  wCalls Try.prog 31 [Value.agg #[vu32 sa, vi64 sn]] wc fun (e : Ending) (w' : World) =>
  ∃ (n : Int),
  e = Ending.returned (vi64 n) ∧
  wKeep [b] wc w' ∧
  (wEq n 0 = true →
  ∀ (wc : World),
  wFin
  [(kb [SV.raw (Value.bool pm), ri64 pr, ru32 sa,
  ri64 sn, ru32 da, ri64 dn,
  ru32 s1, ru32 s2, ru32 d1,
  ru32 d2] 57)]
  [b] w' wc →
  wCalls Try.prog 31 [Value.agg #[vu32 da, vi64 dn]] wc fun (e : Ending) (w' : World) =>
  ∃ (n : Int),
  e = Ending.returned (vi64 n) ∧
  wKeep [b] wc w' ∧
  (wEq n 0 = true →
  ∀ (wc : World),
  wFin
  [(kb [SV.raw (Value.bool pm), ri64 pr, ru32 sa,
  ri64 sn, ru32 da, ri64 dn,
  ru32 s1, ru32 s2, ru32 d1,
  ru32 d2] 57)]
  [b] w' wc →
  wCalls Try.prog 32 [Value.agg #[vu32 s1, vu32 s2]] wc
  fun (e : Ending) (w' : World) =>
  ∃ (b_1 : Bool),
  e = Ending.returned (Value.bool b_1) ∧
  wKeep [b] wc w' ∧
  (b_1 = true →
  ∀ (wc : World),
  wFin
  [(kb [SV.raw (Value.bool pm), ri64 pr, ru32 sa,
  ri64 sn, ru32 da,
  ri64 dn, ru32 s1,
  ru32 s2, ru32 d1,
  ru32 d2] 57)]
  [b] w' wc →
  wCalls Try.prog 32 [Value.agg #[vu32 d1, vu32 d2]] wc
  fun (e : Ending) (w' : World) =>
  ∃ (b_2 : Bool),
  e = Ending.returned (Value.bool b_2) ∧
  wKeep [b] wc w' ∧
  ∀ (w : World),
  wFin
  [(kb [SV.raw (Value.bool pm), ri64 pr,
  ru32 sa, ri64 sn,
  ru32 da, ri64 dn,
  ru32 s1, ru32 s2,
  ru32 d1, ru32 d2] 57)]
  [b] w' w →
  R (Ending.returned (Value.bool b_2)) w) ∧
  (b_1 = false →
  ∀ (w : World),
  wFin
  [(kb [SV.raw (Value.bool pm), ri64 pr, ru32 sa,
  ri64 sn, ru32 da,
  ri64 dn, ru32 s1,
  ru32 s2, ru32 d1,
  ru32 d2] 57)]
  [b] w' w →
  R (Ending.returned (Value.bool false)) w)) ∧
  (wEq n 0 = false →
  ∀ (w : World),
  wFin
  [(kb [SV.raw (Value.bool pm), ri64 pr, ru32 sa,
  ri64 sn, ru32 da, ri64 dn,
  ru32 s1, ru32 s2, ru32 d1,
  ru32 d2] 57)]
  [b] w' w →
  R (Ending.returned (Value.bool false)) w)) ∧
  (wEq n 0 = false →
  ∀ (w : World),
  wFin
  [(kb [SV.raw (Value.bool pm), ri64 pr, ru32 sa,
  ri64 sn, ru32 da, ri64 dn,
  ru32 s1, ru32 s2, ru32 d1,
  ru32 d2] 57)]
  [b] w' w →
  R (Ending.returned (Value.bool false)) w)) ∧
  (wLe pr 255 = false →
  ∀ (w_1 : World),
  wFin
  [(kb [SV.raw (Value.bool pm), ri64 pr, ru32 sa, ri64 sn,
  ru32 da, ri64 dn, ru32 s1, ru32 s2,
  ru32 d1, ru32 d2] 57)]
  [b] w w_1 →
  R (Ending.returned (Value.bool false)) w_1)) ∧
  (wGe pr (-1) = false →
  ∀ (w_1 : World),
  wFin
  [(kb [SV.raw (Value.bool pm), ri64 pr, ru32 sa, ri64 sn,
  ru32 da, ri64 dn, ru32 s1, ru32 s2,
  ru32 d1, ru32 d2] 57)]
  [b] w w_1 →
  R (Ending.returned (Value.bool false)) w_1)
theorem of_may (pm : Bool) (pr sa sn da dn s1 s2 d1 d2 : Int) {w : World} {R : Ending → World → Prop} (hh : Held [] [] w) (hVC : VC_may pm pr sa sn da dn s1 s2 d1 d2 w R) : Calls Try.prog 24 (SV.vals [] [rul pm pr sa sn da dn s1 s2 d1 d2]).toArray w R :=
  fnX_sound (E := (env ([]) [] ([]) ([]))) (env_ok _ _ _ _) rfl Try.func24 (by kernel_rfl) rfl (by kernel_rfl) (Nat.le_of_ble_eq_true (by kernel_rfl)) hh (Eq.mp (by kernel_rfl : VC_may pm pr sa sn da dn s1 s2 d1 d2 w R = (fnX (env ([]) [] ([]) ([])) (Try.f24.body.getD .skip) Try.f24.ntmps Try.f24.results.toList [rul pm pr sa sn da dn s1 s2 d1 d2] [] [] w R)) hVC)
/-- What is to be shown of waymark/filter.Fits. -/
def VC_fits (pm : Bool) (pr sa sn da dn s1 s2 d1 d2 : Int) (hs hd hp hx hy : Int) (w : World) (R : Ending → World → Prop) : Prop :=
  ∀ (b : Nat),
  wNew w b →
  wOut b [] →
  ∀ (b_1 : Nat),
  wNew w b_1 →
  wOut b_1 [b] →
  ∀ (wc : World),
  wFin
  [(kb [SV.raw (Value.bool pm), ri64 pr, ru32 sa, ri64 sn,
  ru32 da, ri64 dn, ru32 s1, ru32 s2,
  ru32 d1, ru32 d2] 57),
  (kb [ru32 hs, ru32 hd, ru8 hp, ru16 hx,
  ru16 hy] 28)]
  [b, b_1] w wc →
  wCalls Try.prog 31 [Value.agg #[vu32 sa, vi64 sn]] wc fun (e : Ending) (w' : World) =>
  ∃ (n : Int),
  e = Ending.returned (vi64 n) ∧
  wKeep [b, b_1] wc w' ∧
  (wEq n 0 = true →
  ∀ (wc : World),
  wFin
  [(kb [SV.raw (Value.bool pm), ri64 pr, ru32 sa,
  ri64 sn, ru32 da, ri64 dn,
  ru32 s1, ru32 s2, ru32 d1,
  ru32 d2] 57),
  (kb [ru32 hs, ru32 hd, ru8 hp,
  ru16 hx, ru16 hy] 28)]
  [b, b_1] w' wc →
  wCalls Try.prog 31 [Value.agg #[vu32 da, vi64 dn]] wc fun (e : Ending) (w' : World) =>
  ∃ (n : Int),
  e = Ending.returned (vi64 n) ∧
  wKeep [b, b_1] wc w' ∧
  (wEq n 0 = true →
  ∀ (wc : World),
  wFin
  [(kb [SV.raw (Value.bool pm), ri64 pr, ru32 sa,
  ri64 sn, ru32 da, ri64 dn,
  ru32 s1, ru32 s2, ru32 d1,
  ru32 d2] 57),
  (kb [ru32 hs, ru32 hd, ru8 hp,
  ru16 hx, ru16 hy] 28)]
  [b, b_1] w' wc →
  wCalls Try.prog 34 [vu32 hs, Value.agg #[vu32 sa, vi64 sn]] wc
  fun (e : Ending) (w' : World) =>
  ∃ (b_2 : Bool),
  e = Ending.returned (Value.bool b_2) ∧
  wKeep [b, b_1] wc w' ∧
  (b_2 = true →
  ∀ (wc : World),
  wFin
  [(kb [SV.raw (Value.bool pm), ri64 pr, ru32 sa,
  ri64 sn, ru32 da,
  ri64 dn, ru32 s1,
  ru32 s2, ru32 d1,
  ru32 d2] 57),
  (kb [ru32 hs, ru32 hd,
  ru8 hp, ru16 hx,
  ru16 hy] 28)]
  [b, b_1] w' wc →
  wCalls Try.prog 34
  [vu32 hd, Value.agg #[vu32 da, vi64 dn]]
  wc fun (e : Ending) (w' : World) =>
  ∃ (b_3 : Bool),
  e = Ending.returned (Value.bool b_3) ∧
  wKeep [b, b_1] wc w' ∧
  (b_3 = true →
  (wEq pr (-1) = true →
  ∀ (wc : World),
  wFin
  [(kb [SV.raw (Value.bool pm), ri64 pr,
  ru32 sa, ri64 sn,
  ru32 da, ri64 dn,
  ru32 s1, ru32 s2,
  ru32 d1, ru32 d2] 57),
  (kb [ru32 hs, ru32 hd,
  ru8 hp, ru16 hx,
  ru16 hy] 28)]
  [b, b_1] w' wc →
  wCalls Try.prog 35
  [Value.agg #[vu32 s1, vu32 s2],
  vu16 hx]
  wc fun (e : Ending) (w' : World) =>
  ∃ (b_4 : Bool),
  e = Ending.returned (Value.bool b_4) ∧
  wKeep [b, b_1] wc w' ∧
  (b_4 = true →
  ∀ (wc : World),
  wFin
  [(kb [SV.raw (Value.bool pm), ri64 pr,
  ru32 sa,
  ri64 sn,
  ru32 da,
  ri64 dn,
  ru32 s1,
  ru32 s2,
  ru32 d1,
  ru32 d2] 57),
  (kb [ru32 hs,
  ru32 hd,
  ru8 hp,
  ru16 hx,
  ru16 hy] 28)]
  [b, b_1] w' wc →
  wCalls Try.prog 35
  [Value.agg
  #[vu32 d1, vu32 d2],
  vu16 hy]
  wc fun (e : Ending) (w' : World) =>
  ∃ (b_5 : Bool),
  e = Ending.returned (Value.bool b_5) ∧
  wKeep [b, b_1] wc w' ∧
  ∀ (w : World),
  wFin
  [(kb [SV.raw (Value.bool pm),
  ri64 pr,
  ru32 sa,
  ri64 sn,
  ru32 da,
  ri64 dn,
  ru32 s1,
  ru32 s2,
  ru32 d1,
  ru32 d2] 57),
  (kb [ru32 hs,
  ru32 hd,
  ru8 hp,
  ru16 hx,
  ru16 hy] 28)]
  [b, b_1] w' w →
  R (Ending.returned (Value.bool b_5)) w) ∧
  (b_4 = false →
  ∀ (w : World),
  wFin
  [(kb [SV.raw (Value.bool pm), ri64 pr,
  ru32 sa,
  ri64 sn,
  ru32 da,
  ri64 dn,
  ru32 s1,
  ru32 s2,
  ru32 d1,
  ru32 d2] 57),
  (kb [ru32 hs,
  ru32 hd,
  ru8 hp,
  ru16 hx,
  ru16 hy] 28)]
  [b, b_1] w' w →
  R (Ending.returned (Value.bool false)) w)) ∧
  (wEq pr (-1) = false →
  ∃ (r : Int),
  wWrap IntKind.i64 hp r ∧
  (wEq pr r = true →
  ∀ (wc : World),
  wFin
  [(kb [SV.raw (Value.bool pm), ri64 pr,
  ru32 sa,
  ri64 sn,
  ru32 da,
  ri64 dn,
  ru32 s1,
  ru32 s2,
  ru32 d1,
  ru32 d2] 57),
  (kb [ru32 hs,
  ru32 hd,
  ru8 hp,
  ru16 hx,
  ru16 hy] 28)]
  [b, b_1] w' wc →
  wCalls Try.prog 35
  [Value.agg
  #[vu32 s1, vu32 s2],
  vu16 hx]
  wc fun (e : Ending) (w' : World) =>
  ∃ (b_4 : Bool),
  e = Ending.returned (Value.bool b_4) ∧
  wKeep [b, b_1] wc w' ∧
  (b_4 = true →
  ∀ (wc : World),
  wFin
  [(kb [SV.raw (Value.bool pm),
  ri64 pr,
  ru32 sa,
  ri64 sn,
  ru32 da,
  ri64 dn,
  ru32 s1,
  ru32 s2,
  ru32 d1,
  ru32 d2] 57),
  (kb [ru32 hs,
  ru32 hd,
  ru8 hp,
  ru16 hx,
  ru16 hy] 28)]
  [b, b_1] w' wc →
  wCalls Try.prog 35
  [Value.agg
  #[vu32 d1,
  vu32 d2],
  vu16 hy]
  wc fun (e : Ending) (w' : World) =>
  ∃ (b_5 : Bool),
  e = Ending.returned (Value.bool b_5) ∧
  wKeep [b, b_1] wc w' ∧
  ∀ (w : World),
  wFin
  [(kb [SV.raw (Value.bool pm),
  ri64 pr,
  ru32 sa,
  ri64 sn,
  ru32 da,
  ri64 dn,
  ru32 s1,
  ru32 s2,
  ru32 d1,
  ru32 d2] 57),
  (kb [ru32 hs,
  ru32 hd,
  ru8 hp,
  ru16 hx,
  ru16 hy] 28)]
  [b, b_1] w' w →
  R (Ending.returned (Value.bool b_5)) w) ∧
  (b_4 = false →
  ∀ (w : World),
  wFin
  [(kb [SV.raw (Value.bool pm),
  ri64 pr,
  ru32 sa,
  ri64 sn,
  ru32 da,
  ri64 dn,
  ru32 s1,
  ru32 s2,
  ru32 d1,
  ru32 d2] 57),
  (kb [ru32 hs,
  ru32 hd,
  ru8 hp,
  ru16 hx,
  ru16 hy] 28)]
  [b, b_1] w' w →
  R (Ending.returned (Value.bool false)) w)) ∧
  (wEq pr r = false →
  ∀ (w : World),
  wFin
  [(kb [SV.raw (Value.bool pm), ri64 pr,
  ru32 sa,
  ri64 sn,
  ru32 da,
  ri64 dn,
  ru32 s1,
  ru32 s2,
  ru32 d1,
  ru32 d2] 57),
  (kb [ru32 hs,
  ru32 hd,
  ru8 hp,
  ru16 hx,
  ru16 hy] 28)]
  [b, b_1] w' w →
  R (Ending.returned (Value.bool false)) w))) ∧
  (b_3 = false →
  ∀ (w : World),
  wFin
  [(kb [SV.raw (Value.bool pm), ri64 pr,
  ru32 sa, ri64 sn,
  ru32 da, ri64 dn,
  ru32 s1, ru32 s2,
  ru32 d1, ru32 d2] 57),
  (kb [ru32 hs, ru32 hd,
  ru8 hp, ru16 hx,
  ru16 hy] 28)]
  [b, b_1] w' w →
  R (Ending.returned (Value.bool false)) w)) ∧
  (b_2 = false →
  ∀ (w : World),
  wFin
  [(kb [SV.raw (Value.bool pm), ri64 pr, ru32 sa,
  ri64 sn, ru32 da,
  ri64 dn, ru32 s1,
  ru32 s2, ru32 d1,
  ru32 d2] 57),
  (kb [ru32 hs, ru32 hd,
  ru8 hp, ru16 hx,
  ru16 hy] 28)]
  [b, b_1] w' w →
  R (Ending.returned (Value.bool false)) w)) ∧
  (wEq n 0 = false →
  ∀ (w : World),
  wFin
  [(kb [SV.raw (Value.bool pm), ri64 pr, ru32 sa,
  ri64 sn, ru32 da, ri64 dn,
  ru32 s1, ru32 s2, ru32 d1,
  ru32 d2] 57),
  (kb [ru32 hs, ru32 hd, ru8 hp,
  ru16 hx, ru16 hy] 28)]
  [b, b_1] w' w →
  R (Ending.returned (Value.bool false)) w)) ∧
  (wEq n 0 = false →
  ∀ (w : World),
  wFin
  [(kb [SV.raw (Value.bool pm), ri64 pr, ru32 sa,
  ri64 sn, ru32 da, ri64 dn,
  ru32 s1, ru32 s2, ru32 d1,
  ru32 d2] 57),
  (kb [ru32 hs, ru32 hd, ru8 hp,
  ru16 hx, ru16 hy] 28)]
  [b, b_1] w' w →
  R (Ending.returned (Value.bool false)) w)
theorem of_fits (pm : Bool) (pr sa sn da dn s1 s2 d1 d2 : Int) (hs hd hp hx hy : Int) {w : World} {R : Ending → World → Prop} (hh : Held [] [] w) (hVC : VC_fits pm pr sa sn da dn s1 s2 d1 d2 hs hd hp hx hy w R) : Calls Try.prog 28 (SV.vals [] [rul pm pr sa sn da dn s1 s2 d1 d2, hdr hs hd hp hx hy]).toArray w R :=
  fnX_sound (E := (env ([]) [] ([]) ([]))) (env_ok _ _ _ _) rfl Try.func28 (by kernel_rfl) rfl (by kernel_rfl) (Nat.le_of_ble_eq_true (by kernel_rfl)) hh (Eq.mp (by kernel_rfl : VC_fits pm pr sa sn da dn s1 s2 d1 d2 hs hd hp hx hy w R = (fnX (env ([]) [] ([]) ([])) (Try.f28.body.getD .skip) Try.f28.ntmps Try.f28.results.toList [rul pm pr sa sn da dn s1 s2 d1 d2, hdr hs hd hp hx hy] [] [] w R)) hVC)
/-- What is to be shown of waymark/filter.Check's closure 1. -/
def VC_check1 (pm : Bool) (pr sa sn da dn s1 s2 d1 d2 : Int) (w : World) (R : Ending → World → Prop) : Prop :=
  ∀ (b : Nat),
  wNew w b →
  wOut b [] →
  ∀ (wc : World),
  wFin
  [(kb [SV.raw (Value.bool pm), ri64 pr, ru32 sa, ri64 sn,
  ru32 da, ri64 dn, ru32 s1, ru32 s2,
  ru32 d1, ru32 d2] 57)]
  [b] w wc →
  wCalls Try.prog 24
  [Value.agg
  #[Value.bool pm, vi64 pr, vu32 sa, vi64 sn, vu32 da, vi64 dn,
  vu32 s1, vu32 s2, vu32 d1, vu32 d2]]
  wc fun (e : Ending) (w' : World) =>
  ∃ (b_1 : Bool),
  e = Ending.returned (Value.bool b_1) ∧
  wKeep [b] wc w' ∧
  ∀ (w : World),
  wFin
  [(kb [SV.raw (Value.bool pm), ri64 pr, ru32 sa, ri64 sn,
  ru32 da, ri64 dn, ru32 s1,
  ru32 s2, ru32 d1, ru32 d2] 57)]
  [b] w' w →
  R (Ending.returned (Value.bool (wNot b_1))) w
theorem of_check1 (pm : Bool) (pr sa sn da dn s1 s2 d1 d2 : Int) {w : World} {R : Ending → World → Prop} (hh : Held [] [] w) (hVC : VC_check1 pm pr sa sn da dn s1 s2 d1 d2 w R) : Calls Try.prog 23 (SV.vals [] [rul pm pr sa sn da dn s1 s2 d1 d2]).toArray w R :=
  fnX_sound (E := (env ([]) [] ([]) ([]))) (env_ok _ _ _ _) rfl Try.func23 (by kernel_rfl) rfl (by kernel_rfl) (Nat.le_of_ble_eq_true (by kernel_rfl)) hh (Eq.mp (by kernel_rfl : VC_check1 pm pr sa sn da dn s1 s2 d1 d2 w R = (fnX (env ([]) [] ([]) ([])) (Try.f23.body.getD .skip) Try.f23.ntmps Try.f23.results.toList [rul pm pr sa sn da dn s1 s2 d1 d2] [] [] w R)) hVC)
/-- What is to be shown of waymark/filter.Decides's closure 1. -/
def VC_decides1 (pm : Bool) (pr sa sn da dn s1 s2 d1 d2 : Int) (hs hd hp hx hy : Int) (b : Nat) (w : World) (R : Ending → World → Prop) : Prop :=
  ∀ (b_1 : Nat),
  wNew w b_1 →
  wOut b_1 [b] →
  ∀ (wc : World),
  wFin
  [(kb [ru32 hs, ru32 hd, ru8 hp, ru16 hx,
  ru16 hy] 28),
  (kb [SV.raw (Value.bool pm), ri64 pr, ru32 sa, ri64 sn,
  ru32 da, ri64 dn, ru32 s1, ru32 s2,
  ru32 d1, ru32 d2] 57)]
  [b, b_1] w wc →
  wCalls Try.prog 28
  [Value.agg
  #[Value.bool pm, vi64 pr, vu32 sa, vi64 sn, vu32 da, vi64 dn,
  vu32 s1, vu32 s2, vu32 d1, vu32 d2],
  Value.agg #[vu32 hs, vu32 hd, vu8 hp, vu16 hx, vu16 hy]]
  wc fun (e : Ending) (w' : World) =>
  ∃ (b_2 : Bool),
  e = Ending.returned (Value.bool b_2) ∧
  wKeep [b, b_1] wc w' ∧
  ∀ (w : World),
  wFin
  [(kb [ru32 hs, ru32 hd, ru8 hp,
  ru16 hx, ru16 hy] 28),
  (kb [SV.raw (Value.bool pm), ri64 pr, ru32 sa, ri64 sn,
  ru32 da, ri64 dn, ru32 s1,
  ru32 s2, ru32 d1, ru32 d2] 57)]
  [b, b_1] w' w →
  R (Ending.returned (Value.bool b_2)) w
theorem of_decides1 (pm : Bool) (pr sa sn da dn s1 s2 d1 d2 : Int) (hs hd hp hx hy : Int) (b : Nat) {w : World} {R : Ending → World → Prop} (hh : Held [kb [ru32 hs, ru32 hd, ru8 hp, ru16 hx, ru16 hy] 28] [b] w) (hVC : VC_decides1 pm pr sa sn da dn s1 s2 d1 d2 hs hd hp hx hy b w R) : Calls Try.prog 27 (SV.vals [b] [rul pm pr sa sn da dn s1 s2 d1 d2, .ptr 0 0]).toArray w R :=
  fnX_sound (E := (env ([]) [] ([]) ([]))) (env_ok _ _ _ _) rfl Try.func27 (by kernel_rfl) rfl (by kernel_rfl) (Nat.le_of_ble_eq_true (by kernel_rfl)) hh (Eq.mp (by kernel_rfl : VC_decides1 pm pr sa sn da dn s1 s2 d1 d2 hs hd hp hx hy b w R = (fnX (env ([]) [] ([]) ([])) (Try.f27.body.getD .skip) Try.f27.ntmps Try.f27.results.toList [rul pm pr sa sn da dn s1 s2 d1 d2, .ptr 0 0] [kb [ru32 hs, ru32 hd, ru8 hp, ru16 hx, ru16 hy] 28] [b] w R)) hVC)
/-- What is to be shown of slices.IndexFunc[[]waymark/api.Rule,waymark/api.Rule]. -/
def VC_idxC (a : Option Addr) (l c : Nat) (w : World) (R : Ending → World → Prop) : Prop :=
  ∃ (I : List Value → World → Nat → Prop),
  (∀ (wc : World), wFin [] [] w wc → ∃ (m : Nat), I [vi64 0] wc m) ∧
  ∀ (m : Nat) (wb : World) (n : Int),
  wFin [] [] wb wb →
  I [vi64 n] wb m →
  (wLt n (wInt l) = true →
  ∃ (b : Nat),
  ∃ (o : Nat),
  a = some (ad b o) ∧
  wIdx n l ∧
  wOut b [] ∧
  ∃ (b_1 : Bool),
  ∃ (n_1 : Int),
  ∃ (n_2 : Int),
  ∃ (n_3 : Int),
  ∃ (n_4 : Int),
  ∃ (n_5 : Int),
  ∃ (n_6 : Int),
  ∃ (n_7 : Int),
  ∃ (n_8 : Int),
  ∃ (n_9 : Int),
  (wCell wb b (wAdd (wAdd o (wMul n 10)) 0) (Value.bool b_1) ∧
  wCell wb b (wAdd (wAdd o (wMul n 10)) 1) (vi64 n_1) ∧
  wCell wb b (wAdd (wAdd o (wMul n 10)) 2) (vu32 n_2) ∧
  wCell wb b (wAdd (wAdd o (wMul n 10)) 3) (vi64 n_3) ∧
  wCell wb b (wAdd (wAdd o (wMul n 10)) 4) (vu32 n_4) ∧
  wCell wb b (wAdd (wAdd o (wMul n 10)) 5) (vi64 n_5) ∧
  wCell wb b (wAdd (wAdd o (wMul n 10)) 6) (vu32 n_6) ∧
  wCell wb b (wAdd (wAdd o (wMul n 10)) 7) (vu32 n_7) ∧
  wCell wb b (wAdd (wAdd o (wMul n 10)) 8) (vu32 n_8) ∧
  wCell wb b (wAdd (wAdd o (wMul n 10)) 9) (vu32 n_9) ∧ True) ∧
  ∀ (wc : World),
  wFin [] [] wb wc →
  wCalls Try.prog 23
  [Value.agg
  #[Value.bool b_1, vi64 n_1, vu32 n_2, vi64 n_3,
  vu32 n_4, vi64 n_5, vu32 n_6, vu32 n_7,
  vu32 n_8, vu32 n_9]]
  wc fun (e : Ending) (w' : World) =>
  ∃ (b : Bool),
  e = Ending.returned (Value.bool b) ∧
  wKeep [] wc w' ∧
  (b = true → ∀ (w : World), wFin [] [] w' w → R (Ending.returned (vi64 n)) w) ∧
  (b = false →
  ∃ (r : Int),
  wWrap IntKind.i64 (wPlus n 1) r ∧
  (([] : List Nat) = [] ∧ ([] : Heap) = []) ∧
  ∀ (wc : World),
  wFin [] [] w' wc → ∃ (m' : Nat), Nat.le (Nat.succ m') m ∧ I [vi64 r] wc m')) ∧
  (wLt n (wInt l) = false → ∀ (w : World), wFin [] [] wb w → R (Ending.returned (vi64 (-1))) w)
theorem of_idxC (a : Option Addr) (l c : Nat) {w : World} {R : Ending → World → Prop} (hh : Held [] [] w) (hVC : VC_idxC a l c w R) : Calls Try.prog 26 (SV.vals [] [slv a l c, .fn 23 []]).toArray w R :=
  fnX_sound (E := (env ([]) [] ([(0, ⟨[(8, .int .i64)], []⟩)]) ([]))) (env_ok _ _ _ _) rfl Try.func26 (by kernel_rfl) rfl (by kernel_rfl) (Nat.le_of_ble_eq_true (by kernel_rfl)) hh (Eq.mp (by kernel_rfl : VC_idxC a l c w R = (fnX (env ([]) [] ([(0, ⟨[(8, .int .i64)], []⟩)]) ([])) (Try.f26.body.getD .skip) Try.f26.ntmps Try.f26.results.toList [slv a l c, .fn 23 []] [] [] w R)) hVC)
/-- What is to be shown of slices.IndexFunc[[]waymark/api.Rule,waymark/api.Rule]. -/
def VC_idxD (a : Option Addr) (l c b0 : Nat) (w : World) (R : Ending → World → Prop) : Prop :=
  ∃ (I : List Value → World → Nat → Prop),
  (∀ (wc : World), wFin [] [] w wc → ∃ (m : Nat), I [vi64 0] wc m) ∧
  ∀ (m : Nat) (wb : World) (n : Int),
  wFin [] [] wb wb →
  I [vi64 n] wb m →
  (wLt n (wInt l) = true →
  ∃ (b : Nat),
  ∃ (o : Nat),
  a = some (ad b o) ∧
  wIdx n l ∧
  wOut b [] ∧
  ∃ (b_1 : Bool),
  ∃ (n_1 : Int),
  ∃ (n_2 : Int),
  ∃ (n_3 : Int),
  ∃ (n_4 : Int),
  ∃ (n_5 : Int),
  ∃ (n_6 : Int),
  ∃ (n_7 : Int),
  ∃ (n_8 : Int),
  ∃ (n_9 : Int),
  (wCell wb b (wAdd (wAdd o (wMul n 10)) 0) (Value.bool b_1) ∧
  wCell wb b (wAdd (wAdd o (wMul n 10)) 1) (vi64 n_1) ∧
  wCell wb b (wAdd (wAdd o (wMul n 10)) 2) (vu32 n_2) ∧
  wCell wb b (wAdd (wAdd o (wMul n 10)) 3) (vi64 n_3) ∧
  wCell wb b (wAdd (wAdd o (wMul n 10)) 4) (vu32 n_4) ∧
  wCell wb b (wAdd (wAdd o (wMul n 10)) 5) (vi64 n_5) ∧
  wCell wb b (wAdd (wAdd o (wMul n 10)) 6) (vu32 n_6) ∧
  wCell wb b (wAdd (wAdd o (wMul n 10)) 7) (vu32 n_7) ∧
  wCell wb b (wAdd (wAdd o (wMul n 10)) 8) (vu32 n_8) ∧
  wCell wb b (wAdd (wAdd o (wMul n 10)) 9) (vu32 n_9) ∧ True) ∧
  ∀ (wc : World),
  wFin [] [] wb wc →
  wCalls Try.prog 27
  [Value.agg
  #[Value.bool b_1, vi64 n_1, vu32 n_2, vi64 n_3,
  vu32 n_4, vi64 n_5, vu32 n_6, vu32 n_7,
  vu32 n_8, vu32 n_9],
  Value.pointer (some (ad b0 0))]
  wc fun (e : Ending) (w' : World) =>
  ∃ (b : Bool),
  e = Ending.returned (Value.bool b) ∧
  wKeep [] wc w' ∧
  (b = true → ∀ (w : World), wFin [] [] w' w → R (Ending.returned (vi64 n)) w) ∧
  (b = false →
  ∃ (r : Int),
  wWrap IntKind.i64 (wPlus n 1) r ∧
  (([] : List Nat) = [] ∧ ([] : Heap) = []) ∧
  ∀ (wc : World),
  wFin [] [] w' wc → ∃ (m' : Nat), Nat.le (Nat.succ m') m ∧ I [vi64 r] wc m')) ∧
  (wLt n (wInt l) = false → ∀ (w : World), wFin [] [] wb w → R (Ending.returned (vi64 (-1))) w)
theorem of_idxD (a : Option Addr) (l c b0 : Nat) {w : World} {R : Ending → World → Prop} (hh : Held [] [] w) (hVC : VC_idxD a l c b0 w R) : Calls Try.prog 26 (SV.vals [] [slv a l c, .fn 27 [.adr b0 0]]).toArray w R :=
  fnX_sound (E := (env ([]) [] ([(0, ⟨[(8, .int .i64)], []⟩)]) ([]))) (env_ok _ _ _ _) rfl Try.func26 (by kernel_rfl) rfl (by kernel_rfl) (Nat.le_of_ble_eq_true (by kernel_rfl)) hh (Eq.mp (by kernel_rfl : VC_idxD a l c b0 w R = (fnX (env ([]) [] ([(0, ⟨[(8, .int .i64)], []⟩)]) ([])) (Try.f26.body.getD .skip) Try.f26.ntmps Try.f26.results.toList [slv a l c, .fn 27 [.adr b0 0]] [] [] w R)) hVC)
/-- What is to be shown of slices.ContainsFunc[[]waymark/api.Rule,waymark/api.Rule]. -/
def VC_cont (a : Option Addr) (l c : Nat) (w : World) (R : Ending → World → Prop) : Prop :=
  ∀ (wc : World),
  wFin [] [] w wc →
  wCalls Try.prog 26 [Value.slice a l c, Value.func (Fn.func 23) #[] #[]] wc fun (e : Ending) (w' : World) =>
  ∃ (n : Int), e = Ending.returned (vi64 n) ∧ wKeep [] wc w' ∧ ∀ (w : World), wFin [] [] w' w → R (Ending.returned (Value.bool (wGe n 0))) w
theorem of_cont (a : Option Addr) (l c : Nat) {w : World} {R : Ending → World → Prop} (hh : Held [] [] w) (hVC : VC_cont a l c w R) : Calls Try.prog 22 (SV.vals [] [slv a l c, .fn 23 []]).toArray w R :=
  fnX_sound (E := (env ([]) [] ([]) ([]))) (env_ok _ _ _ _) rfl Try.func22 (by kernel_rfl) rfl (by kernel_rfl) (Nat.le_of_ble_eq_true (by kernel_rfl)) hh (Eq.mp (by kernel_rfl : VC_cont a l c w R = (fnX (env ([]) [] ([]) ([])) (Try.f22.body.getD .skip) Try.f22.ntmps Try.f22.results.toList [slv a l c, .fn 23 []] [] [] w R)) hVC)
/-- What is to be shown of slices.Clone[[]waymark/api.Rule,waymark/api.Rule]. -/
def VC_clone (a : Option Addr) (l c : Nat) (w : World) (R : Ending → World → Prop) : Prop :=
  ∃ (b : Bool),
  (∀ (wc : World),
  wOk [] w true wc →
  wRun Try.prog (wBin BinOp.eql 40 (Operand.tmp 3) (Operand.const (Value.slice none 0 0)) (Value.slice a l c) (Value.slice none 0 0)) wc (Value.bool b) wc) ∧
  (b = true → ∀ (w_1 : World), wFin [] [] w w_1 → R (Ending.returned (Value.slice none 0 0)) w_1) ∧
  (b = false →
  ∀ (wc : World),
  wFin [] [] w wc →
  ∃ (a_3 : Option Addr),
  ∃ (l_1 : Nat),
  ∃ (c_1 : Nat),
  ∃ (w' : World),
  wRun Try.prog (wBuildSlice 40 0 #[]) wc (Value.slice a_3 l_1 c_1) w' ∧
  wKeep [] wc w' ∧
  ∀ (wc : World),
  wFin [] [] w' wc →
  ∃ (a_5 : Option Addr),
  ∃ (l_2 : Nat),
  ∃ (c_2 : Nat),
  ∃ (w' : World),
  wRun Try.prog (wAppend #[40, 40] 40 #[Value.slice a_3 l_1 c_1, Value.slice a l c]) wc (Value.slice a_5 l_2 c_2)
  w' ∧
  wKeep [] wc w' ∧ ∀ (w : World), wFin [] [] w' w → R (Ending.returned (Value.slice a_5 l_2 c_2)) w)
theorem of_clone (a : Option Addr) (l c : Nat) {w : World} {R : Ending → World → Prop} (hh : Held [] [] w) (hVC : VC_clone a l c w R) : Calls Try.prog 30 (SV.vals [] [slv a l c]).toArray w R :=
  fnX_sound (E := (env ([]) [] ([]) ([]))) (env_ok _ _ _ _) rfl Try.func30 (by kernel_rfl) rfl (by kernel_rfl) (Nat.le_of_ble_eq_true (by kernel_rfl)) hh (Eq.mp (by kernel_rfl : VC_clone a l c w R = (fnX (env ([]) [] ([]) ([])) (Try.f30.body.getD .skip) Try.f30.ntmps Try.f30.results.toList [slv a l c] [] [] w R)) hVC)
/-- What is to be shown of waymark/filter.Check. -/
def VC_fcheck (nm : ByteArray) (a : Option Addr) (l c : Nat) (w : World) (R : Ending → World → Prop) : Prop :=
  ∀ (b : Nat),
  wNew w b →
  wOut b [] →
  (wGt (wInt l) 256 = true →
  ∀ (w_1 : World),
  wFin [(kb [SV.raw (Value.string nm), SV.raw (Value.slice a l c)] 42)] [b] w w_1 → R (Ending.returned (vi64 121)) w_1) ∧
  (wGt (wInt l) 256 = false →
  ∀ (wc : World),
  wFin [(kb [SV.raw (Value.string nm), SV.raw (Value.slice a l c)] 42)] [b] w wc →
  wCalls Try.prog 22 [Value.slice a l c, Value.func (Fn.func 23) #[] #[]] wc fun (e : Ending) (w' : World) =>
  ∃ (b_1 : Bool),
  e = Ending.returned (Value.bool b_1) ∧
  wKeep [b] wc w' ∧
  (b_1 = true →
  ∀ (w : World),
  wFin [(kb [SV.raw (Value.string nm), SV.raw (Value.slice a l c)] 42)] [b] w' w →
  R (Ending.returned (vi64 121)) w) ∧
  (b_1 = false →
  ∀ (w : World),
  wFin [(kb [SV.raw (Value.string nm), SV.raw (Value.slice a l c)] 42)] [b] w' w →
  R (Ending.returned (vi64 0)) w))
theorem of_fcheck (nm : ByteArray) (a : Option Addr) (l c : Nat) {w : World} {R : Ending → World → Prop} (hh : Held [] [] w) (hVC : VC_fcheck nm a l c w R) : Calls Try.prog 16 (SV.vals [] [flt nm a l c]).toArray w R :=
  fnX_sound (E := (env ([]) [] ([]) ([]))) (env_ok _ _ _ _) rfl Try.func16 (by kernel_rfl) rfl (by kernel_rfl) (Nat.le_of_ble_eq_true (by kernel_rfl)) hh (Eq.mp (by kernel_rfl : VC_fcheck nm a l c w R = (fnX (env ([]) [] ([]) ([])) (Try.f16.body.getD .skip) Try.f16.ntmps Try.f16.results.toList [flt nm a l c] [] [] w R)) hVC)
/-- What is to be shown of waymark/filter.Decides. -/
def VC_decides (nm : ByteArray) (a : Option Addr) (l c : Nat) (hs hd hp hx hy : Int) (w : World) (R : Ending → World → Prop) : Prop :=
  ∀ (b : Nat),
  wNew w b →
  wOut b [] →
  ∀ (b_1 : Nat),
  wNew w b_1 →
  wOut b_1 [b] →
  ∀ (wc : World),
  wFin
  [(kb [SV.raw (Value.string nm), SV.raw (Value.slice a l c)] 42),
  (kb [ru32 hs, ru32 hd, ru8 hp, ru16 hx,
  ru16 hy] 28)]
  [b, b_1] w wc →
  wCalls Try.prog 16 [Value.agg #[Value.string nm, Value.slice a l c]] wc fun (e : Ending) (w' : World) =>
  ∃ (n : Int),
  e = Ending.returned (vi64 n) ∧
  wKeep [b, b_1] wc w' ∧
  (wNe n 0 = true →
  ∀ (w : World),
  wFin
  [(kb [SV.raw (Value.string nm), SV.raw (Value.slice a l c)] 42),
  (kb [ru32 hs, ru32 hd, ru8 hp,
  ru16 hx, ru16 hy] 28)]
  [b, b_1] w' w →
  R (Ending.returned (Value.tuple #[vi64 0, vi64 n])) w) ∧
  (wNe n 0 = false →
  ∀ (wc : World),
  wFin
  [(kb [SV.raw (Value.string nm), SV.raw (Value.slice a l c)] 42),
  (kb [ru32 hs, ru32 hd, ru8 hp,
  ru16 hx, ru16 hy] 28)]
  [b, b_1] w' wc →
  wCalls Try.prog 26 [Value.slice a l c, Value.func (Fn.func 27) #[] #[Value.pointer (some (ad b_1 0))]]
  wc fun (e : Ending) (w' : World) =>
  ∃ (n : Int),
  e = Ending.returned (vi64 n) ∧
  wKeep [b, b_1] wc w' ∧
  ∀ (w : World),
  wFin
  [(kb [SV.raw (Value.string nm), SV.raw (Value.slice a l c)] 42),
  (kb [ru32 hs, ru32 hd, ru8 hp,
  ru16 hx, ru16 hy] 28)]
  [b, b_1] w' w →
  R (Ending.returned (Value.tuple #[vi64 n, vi64 0])) w)
theorem of_decides (nm : ByteArray) (a : Option Addr) (l c : Nat) (hs hd hp hx hy : Int) {w : World} {R : Ending → World → Prop} (hh : Held [] [] w) (hVC : VC_decides nm a l c hs hd hp hx hy w R) : Calls Try.prog 19 (SV.vals [] [flt nm a l c, hdr hs hd hp hx hy]).toArray w R :=
  fnX_sound (E := (env ([]) [] ([]) ([]))) (env_ok _ _ _ _) rfl Try.func19 (by kernel_rfl) rfl (by kernel_rfl) (Nat.le_of_ble_eq_true (by kernel_rfl)) hh (Eq.mp (by kernel_rfl : VC_decides nm a l c hs hd hp hx hy w R = (fnX (env ([]) [] ([]) ([])) (Try.f19.body.getD .skip) Try.f19.ntmps Try.f19.results.toList [flt nm a l c, hdr hs hd hp hx hy] [] [] w R)) hVC)
/-- What is to be shown of waymark/filter.Permits. -/
def VC_permits (nm : ByteArray) (a : Option Addr) (l c : Nat) (hs hd hp hx hy : Int) (w : World) (R : Ending → World → Prop) : Prop :=
  ∀ (b : Nat),
  wNew w b →
  wOut b [] →
  ∀ (b_1 : Nat),
  wNew w b_1 →
  wOut b_1 [b] →
  ∀ (wc : World),
  wFin
  [(kb [SV.raw (Value.string nm), SV.raw (Value.slice a l c)] 42),
  (kb [ru32 hs, ru32 hd, ru8 hp, ru16 hx,
  ru16 hy] 28)]
  [b, b_1] w wc →
  wCalls Try.prog 19
  [Value.agg #[Value.string nm, Value.slice a l c],
  Value.agg
  #[vu32 hs, vu32 hd, vu8 hp, vu16 hx, vu16 hy]]
  wc fun (e : Ending) (w' : World) =>
  ∃ (n : Int),
  ∃ (n_1 : Int),
  e = Ending.returned (Value.tuple #[vi64 n, vi64 n_1]) ∧
  wKeep [b, b_1] wc w' ∧
  (wEq n_1 0 = true →
  (wGe n 0 = true →
  ∃ (b_2 : Nat),
  ∃ (o : Nat),
  a = some (ad b_2 o) ∧
  wIdx n l ∧
  wOut b_2 [b, b_1] ∧
  ∃ (b_3 : Bool),
  wCell w' b_2 (wAdd (wAdd o (wMul n 10)) 0) (Value.bool b_3) ∧
  ∀ (w : World),
  wFin
  [(kb [SV.raw (Value.string nm), SV.raw (Value.slice a l c)] 42),
  (kb [ru32 hs, ru32 hd, ru8 hp,
  ru16 hx, ru16 hy] 28)]
  [b, b_1] w' w →
  R (Ending.returned (Value.tuple #[Value.bool b_3, vi64 n_1])) w) ∧
  (wGe n 0 = false →
  ∀ (w : World),
  wFin
  [(kb [SV.raw (Value.string nm), SV.raw (Value.slice a l c)] 42),
  (kb [ru32 hs, ru32 hd, ru8 hp,
  ru16 hx, ru16 hy] 28)]
  [b, b_1] w' w →
  R (Ending.returned (Value.tuple #[Value.bool false, vi64 n_1])) w)) ∧
  (wEq n_1 0 = false →
  ∀ (w : World),
  wFin
  [(kb [SV.raw (Value.string nm), SV.raw (Value.slice a l c)] 42),
  (kb [ru32 hs, ru32 hd, ru8 hp,
  ru16 hx, ru16 hy] 28)]
  [b, b_1] w' w →
  R (Ending.returned (Value.tuple #[Value.bool false, vi64 n_1])) w)
theorem of_permits (nm : ByteArray) (a : Option Addr) (l c : Nat) (hs hd hp hx hy : Int) {w : World} {R : Ending → World → Prop} (hh : Held [] [] w) (hVC : VC_permits nm a l c hs hd hp hx hy w R) : Calls Try.prog 13 (SV.vals [] [flt nm a l c, hdr hs hd hp hx hy]).toArray w R :=
  fnX_sound (E := (env ([]) [] ([]) ([]))) (env_ok _ _ _ _) rfl Try.func13 (by kernel_rfl) rfl (by kernel_rfl) (Nat.le_of_ble_eq_true (by kernel_rfl)) hh (Eq.mp (by kernel_rfl : VC_permits nm a l c hs hd hp hx hy w R = (fnX (env ([]) [] ([]) ([])) (Try.f13.body.getD .skip) Try.f13.ntmps Try.f13.results.toList [flt nm a l c, hdr hs hd hp hx hy] [] [] w R)) hVC)
/-- What is to be shown of waymark/filter.Named. -/
def VC_fnamed (a : Option Addr) (l c : Nat) (nm : ByteArray) (w : World) (R : Ending → World → Prop) : Prop :=
  ∀ (b : Nat),
  wNew w b →
  wOut b [] →
  ∃ (I : List Value → World → Nat → Prop),
  (∀ (wc : World),
  wFin [(kb [SV.raw (Value.string { data := #[] }), SV.raw (Value.slice none 0 0)] 42)] [b] w wc →
  ∃ (m : Nat), I [vi64 0] wc m) ∧
  ∀ (m : Nat) (wb : World) (n : Int),
  wFin [(kb [SV.raw (Value.string { data := #[] }), SV.raw (Value.slice none 0 0)] 42)] [b] wb wb →
  I [vi64 n] wb m →
  (wLt n (wInt l) = true →
  ∃ (b_1 : Nat),
  ∃ (o : Nat),
  a = some (ad b_1 o) ∧
  wIdx n l ∧
  wOut b_1 [b] ∧
  ∃ (s : ByteArray),
  ∃ (a : Option Addr),
  ∃ (l : Nat),
  ∃ (c : Nat),
  (wCell wb b_1 (wAdd (wAdd o (wMul n 2)) 0) (Value.string s) ∧
  wCell wb b_1 (wAdd (wAdd o (wMul n 2)) 1) (Value.slice a l c) ∧ True) ∧
  ∀ (b_2 : Nat),
  wNew wb b_2 →
  wOut b_2 [b] →
  ∃ (b_3 : Bool),
  (∀ (wc : World),
  wOk [b, b_2] wb true wc →
  wRun Try.prog (wBin BinOp.eql 9 (Operand.tmp 15) (Operand.tmp 16) (Value.string s) (Value.string nm)) wc (Value.bool b_3)
  wc) ∧
  (b_3 = true →
  ∀ (wc : World),
  wFin
  [(kb [SV.raw (Value.string { data := #[] }), SV.raw (Value.slice none 0 0)] 42),
  (kb [SV.raw (Value.string s), SV.raw (Value.slice a l c)] 42)]
  [b, b_2] wb wc →
  wCalls Try.prog 30 [Value.slice a l c] wc fun (e : Ending) (w' : World) =>
  ∃ (a_10 : Option Addr),
  ∃ (l_1 : Nat),
  ∃ (c_1 : Nat),
  e = Ending.returned (Value.slice a_10 l_1 c_1) ∧
  wKeep [b, b_2] wc w' ∧
  ∀ (w : World),
  wFin
  [(kb [SV.raw (Value.string s), SV.raw (Value.slice a_10 l_1 c_1)] 42),
  (kb [SV.raw (Value.string s), SV.raw (Value.slice a l c)] 42)]
  [b, b_2] w' w →
  R
  (Ending.returned
  (Value.tuple
  #[Value.agg #[Value.string s, Value.slice a_10 l_1 c_1],
  Value.bool true]))
  w) ∧
  (b_3 = false →
  ∃ (r : Int),
  wWrap IntKind.i64 (wPlus n 1) r ∧
  ([b] = [b] ∧
  [(kb [SV.raw (Value.string { data := #[] }), SV.raw (Value.slice none 0 0)] 42)] =
  [(kb [SV.raw (Value.string { data := #[] }), SV.raw (Value.slice none 0 0)] 42)]) ∧
  ∀ (wc : World),
  wFin
  [(kb [SV.raw (Value.string { data := #[] }), SV.raw (Value.slice none 0 0)] 42),
  (kb [SV.raw (Value.string s), SV.raw (Value.slice a l c)] 42)]
  [b, b_2] wb wc →
  ∃ (m' : Nat), Nat.le (Nat.succ m') m ∧ I [vi64 r] wc m')) ∧
  (wLt n (wInt l) = false →
  ∀ (w : World),
  wFin [(kb [SV.raw (Value.string { data := #[] }), SV.raw (Value.slice none 0 0)] 42)] [b] wb w →
  R
  (Ending.returned
  (Value.tuple #[Value.agg #[Value.string { data := #[] }, Value.slice none 0 0], Value.bool false]))
  w)
theorem of_fnamed (a : Option Addr) (l c : Nat) (nm : ByteArray) {w : World} {R : Ending → World → Prop} (hh : Held [] [] w) (hVC : VC_fnamed a l c nm w R) : Calls Try.prog 21 (SV.vals [] [slv a l c, .raw (.string nm)]).toArray w R :=
  fnX_sound (E := (env ([]) [] ([(0, ⟨[(10, .int .i64)], []⟩)]) ([]))) (env_ok _ _ _ _) rfl Try.func21 (by kernel_rfl) rfl (by kernel_rfl) (Nat.le_of_ble_eq_true (by kernel_rfl)) hh (Eq.mp (by kernel_rfl : VC_fnamed a l c nm w R = (fnX (env ([]) [] ([(0, ⟨[(10, .int .i64)], []⟩)]) ([])) (Try.f21.body.getD .skip) Try.f21.ntmps Try.f21.results.toList [slv a l c, .raw (.string nm)] [] [] w R)) hVC)
/-- What is to be shown of waymark/rewrite.named. -/
def VC_named (a : Option Addr) (l c : Nat) (nm : ByteArray) (w : World) (R : Ending → World → Prop) : Prop :=
  ∀ (b : Nat),
  wNew w b →
  wOut b [] →
  ∃ (b_1 : Bool),
  (∀ (wc : World),
  wOk [b] w true wc →
  wRun Try.prog
  (wBin BinOp.eql 9 (Operand.tmp 7) (Operand.const (Value.string { data := #[] })) (Value.string nm)
  (Value.string { data := #[] }))
  wc (Value.bool b_1) wc) ∧
  (b_1 = true →
  ∀ (b_2 : Nat),
  wNew w b_2 →
  wOut b_2 [b] →
  ∀ (b_3 : Nat),
  wNew w b_3 →
  wOut b_3 [b, b_2] →
  ∀ (w_1 : World),
  wFin
  [(kb [SV.raw (Value.string { data := #[] }), SV.slc 2 0 1 1] 42),
  (kb [ru32 0, ru32 65535] 55),
  (kb [SV.bol true, SV.raw (vi64 (-1)), ru32 0, ri64 0,
  ru32 0, ri64 0, ru32 0,
  ru32 65535, ru32 0, ru32 65535] 57)]
  [b, b_2, b_3] w w_1 →
  R
  (Ending.returned
  (Value.tuple
  #[Value.agg #[Value.string { data := #[] }, Value.slice (some (ad b_3 0)) 1 1],
  Value.bool true]))
  w_1) ∧
  (b_1 = false →
  ∀ (wc : World),
  wFin [(kb [SV.raw (Value.string { data := #[] }), SV.raw (Value.slice none 0 0)] 42)] [b] w wc →
  wCalls Try.prog 21 [Value.slice a l c, Value.string nm] wc fun (e : Ending) (w' : World) =>
  ∃ (s : ByteArray),
  ∃ (a : Option Addr),
  ∃ (l : Nat),
  ∃ (c : Nat),
  ∃ (b_2 : Bool),
  e = Ending.returned (Value.tuple #[Value.agg #[Value.string s, Value.slice a l c], Value.bool b_2]) ∧
  wKeep [b] wc w' ∧
  ∀ (w : World),
  wFin [(kb [SV.raw (Value.string s), SV.raw (Value.slice a l c)] 42)] [b] w' w →
  R (Ending.returned (Value.tuple #[Value.agg #[Value.string s, Value.slice a l c], Value.bool b_2])) w)
theorem of_named (a : Option Addr) (l c : Nat) (nm : ByteArray) {w : World} {R : Ending → World → Prop} (hh : Held [] [] w) (hVC : VC_named a l c nm w R) : Calls Try.prog 15 (SV.vals [] [slv a l c, .raw (.string nm)]).toArray w R :=
  fnX_sound (E := (env ([]) [] ([]) ([]))) (env_ok _ _ _ _) rfl Try.func15 (by kernel_rfl) rfl (by kernel_rfl) (Nat.le_of_ble_eq_true (by kernel_rfl)) hh (Eq.mp (by kernel_rfl : VC_named a l c nm w R = (fnX (env ([]) [] ([]) ([])) (Try.f15.body.getD .skip) Try.f15.ntmps Try.f15.results.toList [slv a l c, .raw (.string nm)] [] [] w R)) hVC)
/-- What is to be shown of waymark/rewrite.Check. -/
def VC_rcheck (a : Option Addr) (l c : Nat) (a2 : Option Addr) (l2 c2 : Nat) (w : World) (R : Ending → World → Prop) : Prop :=
  (wGt (wInt l) 256 = true → ∀ (w_1 : World), wFin [] [] w w_1 → R (Ending.returned (vi64 1)) w_1) ∧
  (wGt (wInt l) 256 = false →
  ∃ (I : List Value → World → Nat → Prop),
  (∀ (wc : World), wFin [] [] w wc → ∃ (m : Nat), I [vi64 0] wc m) ∧
  ∀ (m : Nat) (wb : World) (n : Int),
  wFin [] [] wb wb →
  I [vi64 n] wb m →
  (wLt n (wInt l) = true →
  ∃ (b : Nat),
  ∃ (o : Nat),
  a = some (ad b o) ∧
  wIdx n l ∧
  wOut b [] ∧
  ∃ (b_1 : Bool),
  ∃ (s : ByteArray),
  ∃ (n_1 : Int),
  (wCell wb b (wAdd (wAdd o (wMul n 3)) 0) (Value.bool b_1) ∧
  wCell wb b (wAdd (wAdd o (wMul n 3)) 1) (Value.string s) ∧
  wCell wb b (wAdd (wAdd o (wMul n 3)) 2) (vu32 n_1) ∧ True) ∧
  ∀ (b : Nat),
  wNew wb b →
  wOut b [] →
  ∀ (wc : World),
  wFin [(kb [SV.raw (Value.bool b_1), SV.raw (Value.string s), ru32 n_1] 37)]
  [b] wb wc →
  wCalls Try.prog 15 [Value.slice a2 l2 c2, Value.string s] wc fun (e : Ending) (w' : World) =>
  ∃ (s_1 : ByteArray),
  ∃ (a : Option Addr),
  ∃ (l : Nat),
  ∃ (c : Nat),
  ∃ (b_2 : Bool),
  e =
  Ending.returned
  (Value.tuple
  #[Value.agg #[Value.string s_1, Value.slice a l c], Value.bool b_2]) ∧
  wKeep [b] wc w' ∧
  ∀ (b_3 : Nat),
  wNew w' b_3 →
  wOut b_3 [b] →
  (wNot b_2 = true →
  ∀ (w : World),
  wFin
  [(kb [SV.raw (Value.bool b_1), SV.raw (Value.string s),
  ru32 n_1] 37),
  (kb [SV.raw (Value.string s_1), SV.raw (Value.slice a l c)] 42)]
  [b, b_3] w' w →
  R (Ending.returned (vi64 120)) w) ∧
  (wNot b_2 = false →
  ∀ (wc : World),
  wFin
  [(kb [SV.raw (Value.bool b_1), SV.raw (Value.string s),
  ru32 n_1] 37),
  (kb [SV.raw (Value.string s_1), SV.raw (Value.slice a l c)] 42)]
  [b, b_3] w' wc →
  wCalls Try.prog 16 [Value.agg #[Value.string s_1, Value.slice a l c]] wc
  fun (e : Ending) (w' : World) =>
  ∃ (n_2 : Int),
  e = Ending.returned (vi64 n_2) ∧
  wKeep [b, b_3] wc w' ∧
  (wNe n_2 0 = true →
  ∀ (w : World),
  wFin
  [(kb [SV.raw (Value.bool b_1), SV.raw (Value.string s),
  ru32 n_1] 37),
  (kb [SV.raw (Value.string s_1), SV.raw (Value.slice a l c)] 42)]
  [b, b_3] w' w →
  R (Ending.returned (vi64 121)) w) ∧
  (wNe n_2 0 = false →
  ∃ (r : Int),
  wWrap IntKind.i64 (wPlus n 1) r ∧
  (([] : List Nat) = [] ∧ ([] : Heap) = []) ∧
  ∀ (wc : World),
  wFin
  [(kb [SV.raw (Value.bool b_1), SV.raw (Value.string s),
  ru32 n_1] 37),
  (kb [SV.raw (Value.string s_1), SV.raw (Value.slice a l c)] 42)]
  [b, b_3] w' wc →
  ∃ (m' : Nat),
  Nat.le (Nat.succ m') m ∧ I [vi64 r] wc m'))) ∧
  (wLt n (wInt l) = false → ∀ (w : World), wFin [] [] wb w → R (Ending.returned (vi64 0)) w))
theorem of_rcheck (a : Option Addr) (l c : Nat) (a2 : Option Addr) (l2 c2 : Nat) {w : World} {R : Ending → World → Prop} (hh : Held [] [] w) (hVC : VC_rcheck a l c a2 l2 c2 w R) : Calls Try.prog 8 (SV.vals [] [slv a l c, slv a2 l2 c2]).toArray w R :=
  fnX_sound (E := (env ([]) [] ([(0, ⟨[(14, .int .i64)], []⟩)]) ([]))) (env_ok _ _ _ _) rfl Try.func8 (by kernel_rfl) rfl (by kernel_rfl) (Nat.le_of_ble_eq_true (by kernel_rfl)) hh (Eq.mp (by kernel_rfl : VC_rcheck a l c a2 l2 c2 w R = (fnX (env ([]) [] ([(0, ⟨[(14, .int .i64)], []⟩)]) ([])) (Try.f8.body.getD .skip) Try.f8.ntmps Try.f8.results.toList [slv a l c, slv a2 l2 c2] [] [] w R)) hVC)
/-- What is to be shown of waymark/rewrite.First. -/
def VC_rfirst (a : Option Addr) (l c : Nat) (a2 : Option Addr) (l2 c2 : Nat) (dest : Bool) (hs hd hp hx hy : Int) (w : World) (R : Ending → World → Prop) : Prop :=
  ∀ (b : Nat),
  wNew w b →
  wOut b [] →
  ∀ (wc : World),
  wFin
  [(kb [ru32 hs, ru32 hd, ru8 hp, ru16 hx,
  ru16 hy] 28)]
  [b] w wc →
  wCalls Try.prog 8 [Value.slice a l c, Value.slice a2 l2 c2] wc fun (e : Ending) (w' : World) =>
  ∃ (n : Int),
  e = Ending.returned (vi64 n) ∧
  wKeep [b] wc w' ∧
  (wNe n 0 = true →
  ∀ (w : World),
  wFin
  [(kb [ru32 hs, ru32 hd, ru8 hp,
  ru16 hx, ru16 hy] 28)]
  [b] w' w →
  R (Ending.returned (Value.tuple #[vi64 0, vi64 n])) w) ∧
  (wNe n 0 = false →
  ∀ (b_1 : Nat),
  wNew w' b_1 →
  wOut b_1 [b] →
  ∀ (wc : World),
  wFin
  [(kb [ru32 hs, ru32 hd, ru8 hp,
  ru16 hx, ru16 hy] 28),
  (kb [SV.raw (vi64 (-1))] 3)]
  [b, b_1] w' wc →
  wCalls Try.prog 11
  [Value.slice a l c, Value.slice a2 l2 c2, Value.bool dest,
  Value.func (Fn.func 12) #[]
  #[Value.pointer (some (ad b 0)), Value.pointer (some (ad b_1 0))]]
  wc fun (e : Ending) (w' : World) =>
  e = Ending.returned (Value.tuple #[]) ∧
  wKeep [b] wc w' ∧
  ∃ (n : Int),
  wBlock w' b_1 [vi64 n] 3 ∧
  ∀ (w : World),
  wFin
  [(kb [ru32 hs, ru32 hd, ru8 hp,
  ru16 hx, ru16 hy] 28),
  (kb [ri64 n] 3)]
  [b, b_1] w' w →
  R (Ending.returned (Value.tuple #[vi64 n, vi64 0])) w)
theorem of_rfirst (a : Option Addr) (l c : Nat) (a2 : Option Addr) (l2 c2 : Nat) (dest : Bool) (hs hd hp hx hy : Int) {w : World} {R : Ending → World → Prop} (hh : Held [] [] w) (hVC : VC_rfirst a l c a2 l2 c2 dest hs hd hp hx hy w R) : Calls Try.prog 4 (SV.vals [] [slv a l c, slv a2 l2 c2, .raw (.bool dest), hdr hs hd hp hx hy]).toArray w R :=
  fnX_sound (E := (env ([(22, ⟨none, [(1, some [.int .i64])]⟩)]) [] ([]) ([]))) (env_ok _ _ _ _) rfl Try.func4 (by kernel_rfl) rfl (by kernel_rfl) (Nat.le_of_ble_eq_true (by kernel_rfl)) hh (Eq.mp (by kernel_rfl : VC_rfirst a l c a2 l2 c2 dest hs hd hp hx hy w R = (fnX (env ([(22, ⟨none, [(1, some [.int .i64])]⟩)]) [] ([]) ([])) (Try.f4.body.getD .skip) Try.f4.ntmps Try.f4.results.toList [slv a l c, slv a2 l2 c2, .raw (.bool dest), hdr hs hd hp hx hy] [] [] w R)) hVC)
/-- What is to be shown of waymark/rewrite.First's closure 1. -/
def VC_first1 (i : Int) (nm : ByteArray) (a : Option Addr) (l c : Nat) (hs hd hp hx hy : Int) (b1 b2 : Nat) (at_ : Int) (w : World) (R : Ending → World → Prop) : Prop :=
  ∀ (b : Nat),
  wNew w b →
  wOut b [b1, b2] →
  ∀ (wc : World),
  wFin
  [(kb [ru32 hs, ru32 hd, ru8 hp, ru16 hx,
  ru16 hy] 28),
  (kb [ri64 at_] 3), (kb [SV.raw (Value.string nm), SV.raw (Value.slice a l c)] 42)]
  [b1, b2, b] w wc →
  wCalls Try.prog 13
  [Value.agg #[Value.string nm, Value.slice a l c],
  Value.agg #[vu32 hs, vu32 hd, vu8 hp, vu16 hx, vu16 hy]]
  wc fun (e : Ending) (w' : World) =>
  ∃ (b_1 : Bool),
  ∃ (n : Int),
  e = Ending.returned (Value.tuple #[Value.bool b_1, vi64 n]) ∧
  wKeep [b1, b2, b] wc w' ∧
  (b_1 = true →
  ∀ (w : World),
  wFin
  [(kb [ru32 hs, ru32 hd, ru8 hp,
  ru16 hx, ru16 hy] 28),
  (kb [ri64 i] 3),
  (kb [SV.raw (Value.string nm), SV.raw (Value.slice a l c)] 42)]
  [b1, b2, b] w' w →
  R (Ending.returned (Value.bool (wNot b_1))) w) ∧
  (b_1 = false →
  ∀ (w : World),
  wFin
  [(kb [ru32 hs, ru32 hd, ru8 hp,
  ru16 hx, ru16 hy] 28),
  (kb [ri64 at_] 3),
  (kb [SV.raw (Value.string nm), SV.raw (Value.slice a l c)] 42)]
  [b1, b2, b] w' w →
  R (Ending.returned (Value.bool (wNot b_1))) w)
theorem of_first1 (i : Int) (nm : ByteArray) (a : Option Addr) (l c : Nat) (hs hd hp hx hy : Int) (b1 b2 : Nat) (at_ : Int) {w : World} {R : Ending → World → Prop} (hh : Held [kb [ru32 hs, ru32 hd, ru8 hp, ru16 hx, ru16 hy] 28, kb [ri64 at_] 3] [b1, b2] w) (hVC : VC_first1 i nm a l c hs hd hp hx hy b1 b2 at_ w R) : Calls Try.prog 12 (SV.vals [b1, b2] [ri64 i, flt nm a l c, .ptr 0 0, .ptr 1 0]).toArray w R :=
  fnX_sound (E := (env ([]) [] ([]) ([]))) (env_ok _ _ _ _) rfl Try.func12 (by kernel_rfl) rfl (by kernel_rfl) (Nat.le_of_ble_eq_true (by kernel_rfl)) hh (Eq.mp (by kernel_rfl : VC_first1 i nm a l c hs hd hp hx hy b1 b2 at_ w R = (fnX (env ([]) [] ([]) ([])) (Try.f12.body.getD .skip) Try.f12.ntmps Try.f12.results.toList [ri64 i, flt nm a l c, .ptr 0 0, .ptr 1 0] [kb [ru32 hs, ru32 hd, ru8 hp, ru16 hx, ru16 hy] 28, kb [ri64 at_] 3] [b1, b2] w R)) hVC)
/-- What is to be shown of waymark/rewrite.Apply. -/
def VC_rapply (a : Option Addr) (l c : Nat) (a2 : Option Addr) (l2 c2 : Nat) (dest : Bool) (hs hd hp hx hy : Int) (w : World) (R : Ending → World → Prop) : Prop :=
  ∀ (b : Nat),
  wNew w b →
  wOut b [] →
  ∀ (b_1 : Nat),
  wNew w b_1 →
  wOut b_1 [b] →
  ∀ (wc : World),
  wFin
  [(kb [ru32 hs, ru32 hd, ru8 hp, ru16 hx,
  ru16 hy] 28),
  (kb [ru32 0, ru32 0, ru8 0, ru16 0,
  ru16 0] 28)]
  [b, b_1] w wc →
  wCalls Try.prog 4
  [Value.slice a l c, Value.slice a2 l2 c2, Value.bool dest,
  Value.agg
  #[vu32 hs, vu32 hd, vu8 hp, vu16 hx, vu16 hy]]
  wc fun (e : Ending) (w' : World) =>
  ∃ (n : Int),
  ∃ (n_1 : Int),
  e = Ending.returned (Value.tuple #[vi64 n, vi64 n_1]) ∧
  wKeep [b, b_1] wc w' ∧
  (wNe n_1 0 = true →
  ∀ (w : World),
  wFin
  [(kb [ru32 hs, ru32 hd, ru8 hp,
  ru16 hx, ru16 hy] 28),
  (kb [ru32 0, ru32 0, ru8 0,
  ru16 0, ru16 0] 28)]
  [b, b_1] w' w →
  R
  (Ending.returned
  (Value.tuple
  #[Value.agg
  #[vu32 0, vu32 0, vu8 0, vu16 0,
  vu16 0],
  vi64 n_1]))
  w) ∧
  (wNe n_1 0 = false →
  (wLt n 0 = true →
  ∀ (w : World),
  wFin
  [(kb [ru32 hs, ru32 hd, ru8 hp,
  ru16 hx, ru16 hy] 28),
  (kb [ru32 hs, ru32 hd, ru8 hp,
  ru16 hx, ru16 hy] 28)]
  [b, b_1] w' w →
  R
  (Ending.returned
  (Value.tuple
  #[Value.agg
  #[vu32 hs, vu32 hd, vu8 hp, vu16 hx,
  vu16 hy],
  vi64 0]))
  w) ∧
  (wLt n 0 = false →
  (dest = true →
  ∃ (b_2 : Nat),
  ∃ (o : Nat),
  a = some (ad b_2 o) ∧
  wIdx n l ∧
  wOut b_2 [b, b_1] ∧
  ∃ (n_2 : Int),
  wCell w' b_2 (wAdd (wAdd o (wMul n 3)) 2) (vu32 n_2) ∧
  ∀ (w : World),
  wFin
  [(kb [ru32 hs, ru32 n_2,
  ru8 hp, ru16 hx,
  ru16 hy] 28),
  (kb [ru32 hs, ru32 n_2,
  ru8 hp, ru16 hx,
  ru16 hy] 28)]
  [b, b_1] w' w →
  R
  (Ending.returned
  (Value.tuple
  #[Value.agg
  #[vu32 hs, vu32 n_2, vu8 hp,
  vu16 hx, vu16 hy],
  vi64 0]))
  w) ∧
  (dest = false →
  ∃ (b_2 : Nat),
  ∃ (o : Nat),
  a = some (ad b_2 o) ∧
  wIdx n l ∧
  wOut b_2 [b, b_1] ∧
  ∃ (n_2 : Int),
  wCell w' b_2 (wAdd (wAdd o (wMul n 3)) 2) (vu32 n_2) ∧
  ∀ (w : World),
  wFin
  [(kb [ru32 n_2, ru32 hd,
  ru8 hp, ru16 hx,
  ru16 hy] 28),
  (kb [ru32 n_2, ru32 hd,
  ru8 hp, ru16 hx,
  ru16 hy] 28)]
  [b, b_1] w' w →
  R
  (Ending.returned
  (Value.tuple
  #[Value.agg
  #[vu32 n_2, vu32 hd, vu8 hp,
  vu16 hx, vu16 hy],
  vi64 0]))
  w)))
theorem of_rapply (a : Option Addr) (l c : Nat) (a2 : Option Addr) (l2 c2 : Nat) (dest : Bool) (hs hd hp hx hy : Int) {w : World} {R : Ending → World → Prop} (hh : Held [] [] w) (hVC : VC_rapply a l c a2 l2 c2 dest hs hd hp hx hy w R) : Calls Try.prog 6 (SV.vals [] [slv a l c, slv a2 l2 c2, .raw (.bool dest), hdr hs hd hp hx hy]).toArray w R :=
  fnX_sound (E := (env ([]) [] ([]) ([]))) (env_ok _ _ _ _) rfl Try.func6 (by kernel_rfl) rfl (by kernel_rfl) (Nat.le_of_ble_eq_true (by kernel_rfl)) hh (Eq.mp (by kernel_rfl : VC_rapply a l c a2 l2 c2 dest hs hd hp hx hy w R = (fnX (env ([]) [] ([]) ([])) (Try.f6.body.getD .skip) Try.f6.ntmps Try.f6.results.toList [slv a l c, slv a2 l2 c2, .raw (.bool dest), hdr hs hd hp hx hy] [] [] w R)) hVC)
/-- What is to be shown of waymark/rewrite.each. -/
def VC_each (a : Option Addr) (l c : Nat) (a2 : Option Addr) (l2 c2 : Nat) (dest : Bool) (b1 b2 : Nat) (w : World) (R : Ending → World → Prop) : Prop :=
  ∃ (I : List Value → World → Nat → Prop),
  (∀ (wc : World), wFin [] [] w wc → ∃ (m : Nat), I [vi64 0] wc m) ∧
  ∀ (m : Nat) (wb : World) (n : Int),
  wFin [] [] wb wb →
  I [vi64 n] wb m →
  (wLt n (wInt l) = true →
  ∃ (b : Nat),
  ∃ (o : Nat),
  a = some (ad b o) ∧
  wIdx n l ∧
  wOut b [] ∧
  ∃ (b_1 : Bool),
  ∃ (s : ByteArray),
  ∃ (n_1 : Int),
  (wCell wb b (wAdd (wAdd o (wMul n 3)) 0) (Value.bool b_1) ∧
  wCell wb b (wAdd (wAdd o (wMul n 3)) 1) (Value.string s) ∧ wCell wb b (wAdd (wAdd o (wMul n 3)) 2) (vu32 n_1) ∧ True) ∧
  ∀ (b : Nat),
  wNew wb b →
  wOut b [] →
  ∃ (b_2 : Bool),
  (∀ (wc : World),
  wOk [b] wb true wc →
  wRun Try.prog (wBin BinOp.neq 4 (Operand.tmp 20) (Operand.tmp 21) (Value.bool b_1) (Value.bool dest)) wc (Value.bool b_2) wc) ∧
  (b_2 = true →
  ∃ (r : Int),
  wWrap IntKind.i64 (wPlus n 1) r ∧
  (([] : List Nat) = [] ∧ ([] : Heap) = []) ∧
  ∀ (wc : World),
  wFin
  [(kb [SV.raw (Value.bool b_1), SV.raw (Value.string s), ru32 n_1] 37)]
  [b] wb wc →
  ∃ (m' : Nat), Nat.le (Nat.succ m') m ∧ I [vi64 r] wc m') ∧
  (b_2 = false →
  ∀ (wc : World),
  wFin
  [(kb [SV.raw (Value.bool b_1), SV.raw (Value.string s), ru32 n_1] 37)]
  [b] wb wc →
  wCalls Try.prog 15 [Value.slice a2 l2 c2, Value.string s] wc fun (e : Ending) (w' : World) =>
  ∃ (s_1 : ByteArray),
  ∃ (a : Option Addr),
  ∃ (l : Nat),
  ∃ (c : Nat),
  ∃ (b_3 : Bool),
  e =
  Ending.returned
  (Value.tuple
  #[Value.agg #[Value.string s_1, Value.slice a l c], Value.bool b_3]) ∧
  wKeep [b] wc w' ∧
  ∀ (b_4 : Nat),
  wNew w' b_4 →
  wOut b_4 [b] →
  ∀ (wc : World),
  wFin
  [(kb [SV.raw (Value.bool b_1), SV.raw (Value.string s),
  ru32 n_1] 37),
  (kb [SV.raw (Value.string s_1), SV.raw (Value.slice a l c)] 42)]
  [b, b_4] w' wc →
  wCalls Try.prog 12
  [vi64 n, Value.agg #[Value.string s_1, Value.slice a l c],
  Value.pointer (some (ad b1 0)),
  Value.pointer (some (ad b2 0))]
  wc fun (e : Ending) (w' : World) =>
  ∃ (b_5 : Bool),
  e = Ending.returned (Value.bool b_5) ∧
  wKeep [b, b_4] wc w' ∧
  (wNot b_5 = true →
  ∀ (w : World),
  wFin
  [(kb [SV.raw (Value.bool b_1), SV.raw (Value.string s),
  ru32 n_1] 37),
  (kb [SV.raw (Value.string s_1), SV.raw (Value.slice a l c)] 42)]
  [b, b_4] w' w →
  R (Ending.returned (Value.tuple #[])) w) ∧
  (wNot b_5 = false →
  ∃ (r : Int),
  wWrap IntKind.i64 (wPlus n 1) r ∧
  (([] : List Nat) = [] ∧ ([] : Heap) = []) ∧
  ∀ (wc : World),
  wFin
  [(kb [SV.raw (Value.bool b_1), SV.raw (Value.string s),
  ru32 n_1] 37),
  (kb [SV.raw (Value.string s_1), SV.raw (Value.slice a l c)] 42)]
  [b, b_4] w' wc →
  ∃ (m' : Nat),
  Nat.le (Nat.succ m') m ∧ I [vi64 r] wc m'))) ∧
  (wLt n (wInt l) = false → ∀ (w : World), wFin [] [] wb w → R (Ending.returned (Value.tuple #[])) w)
theorem of_each (a : Option Addr) (l c : Nat) (a2 : Option Addr) (l2 c2 : Nat) (dest : Bool) (b1 b2 : Nat) {w : World} {R : Ending → World → Prop} (hh : Held [] [] w) (hVC : VC_each a l c a2 l2 c2 dest b1 b2 w R) : Calls Try.prog 11 (SV.vals [] [slv a l c, slv a2 l2 c2, .raw (.bool dest), .fn 12 [.adr b1 0, .adr b2 0]]).toArray w R :=
  fnX_sound (E := (env ([]) [] ([(0, ⟨[(14, .int .i64)], []⟩)]) ([]))) (env_ok _ _ _ _) rfl Try.func11 (by kernel_rfl) rfl (by kernel_rfl) (Nat.le_of_ble_eq_true (by kernel_rfl)) hh (Eq.mp (by kernel_rfl : VC_each a l c a2 l2 c2 dest b1 b2 w R = (fnX (env ([]) [] ([(0, ⟨[(14, .int .i64)], []⟩)]) ([])) (Try.f11.body.getD .skip) Try.f11.ntmps Try.f11.results.toList [slv a l c, slv a2 l2 c2, .raw (.bool dest), .fn 12 [.adr b1 0, .adr b2 0]] [] [] w R)) hVC)
/-- What is to be shown of waymark/waymarkref01.size. -/
def VC_size (n : Int) (w : World) (R : Ending → World → Prop) : Prop :=
  ∃ (I : List Value → World → Nat → Prop),
  (∀ (wc : World), wFin [] [] w wc → ∃ (m : Nat), I [vu64 1, vi64 n] wc m) ∧
  ∀ (m : Nat) (wb : World) (n n_1 : Int),
  wFin [] [] wb wb →
  I [vu64 n, vi64 n_1] wb m →
  (wLt n_1 32 = true →
  ∃ (r : Int),
  wWrap IntKind.u64 (wTimes 2 n) r ∧
  ∃ (r_1 : Int),
  wWrap IntKind.i64 (wPlus n_1 1) r_1 ∧
  (([] : List Nat) = [] ∧ ([] : Heap) = []) ∧
  ∀ (wc : World), wFin [] [] wb wc → ∃ (m' : Nat), Nat.le (Nat.succ m') m ∧ I [vu64 r, vi64 r_1] wc m') ∧
  (wLt n_1 32 = false → ∀ (w : World), wFin [] [] wb w → R (Ending.returned (vu64 n)) w)
theorem of_size (n : Int) {w : World} {R : Ending → World → Prop} (hh : Held [] [] w) (hVC : VC_size n w R) : Calls Try.prog 38 (SV.vals [] [ri64 n]).toArray w R :=
  fnX_sound (E := (env ([]) [] ([(0, ⟨[(3, .int .u64), (4, .int .i64)], []⟩)]) ([]))) (env_ok _ _ _ _) rfl Try.func38 (by kernel_rfl) rfl (by kernel_rfl) (Nat.le_of_ble_eq_true (by kernel_rfl)) hh (Eq.mp (by kernel_rfl : VC_size n w R = (fnX (env ([]) [] ([(0, ⟨[(3, .int .u64), (4, .int .i64)], []⟩)]) ([])) (Try.f38.body.getD .skip) Try.f38.ntmps Try.f38.results.toList [ri64 n] [] [] w R)) hVC)
/-- What is to be shown of waymark/waymarkref01.Check. -/
def VC_xcheck (a n : Int) (w : World) (R : Ending → World → Prop) : Prop :=
  ∀ (b : Nat),
  wNew w b →
  wOut b [] →
  (wLt n 0 = true →
  ∀ (w_1 : World),
  wFin [(kb [ru32 a, ri64 n] 53)] [b] w w_1 →
  R (Ending.returned (vi64 1)) w_1) ∧
  (wLt n 0 = false →
  (wGt n 32 = true →
  ∀ (w_1 : World),
  wFin [(kb [ru32 a, ri64 n] 53)] [b] w w_1 →
  R (Ending.returned (vi64 1)) w_1) ∧
  (wGt n 32 = false →
  ∃ (r : Int),
  wWrap IntKind.u64 a r ∧
  ∀ (wc : World),
  wFin [(kb [ru32 a, ri64 n] 53)] [b] w wc →
  wCalls Try.prog 38 [vi64 n] wc fun (e : Ending) (w' : World) =>
  ∃ (n_1 : Int),
  e = Ending.returned (vu64 n_1) ∧
  wKeep [b] wc w' ∧
  ∃ (n_2 : Int),
  (∀ (wc : World),
  wOk [b] w false wc →
  wRun Try.prog (wBin BinOp.rem 70 (Operand.tmp 13) (Operand.tmp 16) (vu64 r) (vu64 n_1)) wc
  (vu64 n_2) wc) ∧
  (wNe n_2 0 = true →
  ∀ (w : World),
  wFin [(kb [ru32 a, ri64 n] 53)] [b] w' w →
  R (Ending.returned (vi64 10)) w) ∧
  (wNe n_2 0 = false →
  ∀ (w : World),
  wFin [(kb [ru32 a, ri64 n] 53)] [b] w' w →
  R (Ending.returned (vi64 0)) w)))
theorem of_xcheck (a n : Int) {w : World} {R : Ending → World → Prop} (hh : Held [] [] w) (hVC : VC_xcheck a n w R) : Calls Try.prog 33 (SV.vals [] [pfx a n]).toArray w R :=
  fnX_sound (E := (env ([]) [] ([]) ([]))) (env_ok _ _ _ _) rfl Try.func33 (by kernel_rfl) rfl (by kernel_rfl) (Nat.le_of_ble_eq_true (by kernel_rfl)) hh (Eq.mp (by kernel_rfl : VC_xcheck a n w R = (fnX (env ([]) [] ([]) ([])) (Try.f33.body.getD .skip) Try.f33.ntmps Try.f33.results.toList [pfx a n] [] [] w R)) hVC)
/-- What is to be shown of waymark/waymarkref01.In. -/
def VC_xin (x a n : Int) (w : World) (R : Ending → World → Prop) : Prop :=
  ∀ (b : Nat),
  wNew w b →
  wOut b [] →
  ∀ (wc : World),
  wFin [(kb [ru32 a, ri64 n] 53)] [b] w wc →
  wCalls Try.prog 33 [Value.agg #[vu32 a, vi64 n]] wc fun (e : Ending) (w' : World) =>
  ∃ (n_1 : Int),
  e = Ending.returned (vi64 n_1) ∧
  wKeep [b] wc w' ∧
  (wEq n_1 0 = true →
  (wGe x a = true →
  ∃ (r : Int),
  wWrap IntKind.u64 x r ∧
  ∃ (r_1 : Int),
  wWrap IntKind.u64 a r_1 ∧
  ∃ (r_2 : Int),
  wWrap IntKind.u64 (wMinus r r_1) r_2 ∧
  ∀ (wc : World),
  wFin [(kb [ru32 a, ri64 n] 53)] [b] w' wc →
  wCalls Try.prog 38 [vi64 n] wc fun (e : Ending) (w' : World) =>
  ∃ (n_2 : Int),
  e = Ending.returned (vu64 n_2) ∧
  wKeep [b] wc w' ∧
  ∀ (w : World),
  wFin [(kb [ru32 a, ri64 n] 53)] [b] w' w →
  R (Ending.returned (Value.bool (wLt r_2 n_2))) w) ∧
  (wGe x a = false →
  ∀ (w : World),
  wFin [(kb [ru32 a, ri64 n] 53)] [b] w' w →
  R (Ending.returned (Value.bool false)) w)) ∧
  (wEq n_1 0 = false →
  ∀ (w : World),
  wFin [(kb [ru32 a, ri64 n] 53)] [b] w' w →
  R (Ending.returned (Value.bool false)) w)
theorem of_xin (x a n : Int) {w : World} {R : Ending → World → Prop} (hh : Held [] [] w) (hVC : VC_xin x a n w R) : Calls Try.prog 39 (SV.vals [] [ru32 x, pfx a n]).toArray w R :=
  fnX_sound (E := (env ([]) [] ([]) ([]))) (env_ok _ _ _ _) rfl Try.func39 (by kernel_rfl) rfl (by kernel_rfl) (Nat.le_of_ble_eq_true (by kernel_rfl)) hh (Eq.mp (by kernel_rfl : VC_xin x a n w R = (fnX (env ([]) [] ([]) ([])) (Try.f39.body.getD .skip) Try.f39.ntmps Try.f39.results.toList [ru32 x, pfx a n] [] [] w R)) hVC)
/-- What is to be shown of waymark/waymarkref10.May. -/
def VC_xmay (pm : Bool) (pr sa sn da dn s1 s2 d1 d2 : Int) (w : World) (R : Ending → World → Prop) : Prop :=
  ∀ (b : Nat),
  wNew w b →
  wOut b [] →
  (wGe pr (-1) = true →
  (wLe pr 255 = true →
  ∀ (wc : World),
  wFin
  [(kb [SV.raw (Value.bool pm), ri64 pr, ru32 sa, ri64 sn,
  ru32 da, ri64 dn, ru32 s1, ru32 s2,
  ru32 d1, ru32 d2] 57)]
  [b] w wc →
  wCalls Try.prog 33 [Value.agg #[vu32 sa, vi64 sn]] wc fun (e : Ending) (w' : World) =>
  ∃ (n : Int),
  e = Ending.returned (vi64 n) ∧
  wKeep [b] wc w' ∧
  (wEq n 0 = true →
  ∀ (wc : World),
  wFin
  [(kb [SV.raw (Value.bool pm), ri64 pr, ru32 sa,
  ri64 sn, ru32 da, ri64 dn,
  ru32 s1, ru32 s2, ru32 d1,
  ru32 d2] 57)]
  [b] w' wc →
  wCalls Try.prog 33 [Value.agg #[vu32 da, vi64 dn]] wc fun (e : Ending) (w' : World) =>
  ∃ (n : Int),
  e = Ending.returned (vi64 n) ∧
  wKeep [b] wc w' ∧
  (wEq n 0 = true →
  (wLe s1 s2 = true →
  (wLe s2 65535 = true →
  (wLe d1 d2 = true →
  ∀ (w : World),
  wFin
  [(kb [SV.raw (Value.bool pm), ri64 pr, ru32 sa,
  ri64 sn, ru32 da,
  ri64 dn, ru32 s1,
  ru32 s2, ru32 d1,
  ru32 d2] 57)]
  [b] w' w →
  R (Ending.returned (Value.bool (wLe d2 65535))) w) ∧
  (wLe d1 d2 = false →
  ∀ (w : World),
  wFin
  [(kb [SV.raw (Value.bool pm), ri64 pr, ru32 sa,
  ri64 sn, ru32 da,
  ri64 dn, ru32 s1,
  ru32 s2, ru32 d1,
  ru32 d2] 57)]
  [b] w' w →
  R (Ending.returned (Value.bool false)) w)) ∧
  (wLe s2 65535 = false →
  ∀ (w : World),
  wFin
  [(kb [SV.raw (Value.bool pm), ri64 pr, ru32 sa,
  ri64 sn, ru32 da,
  ri64 dn, ru32 s1,
  ru32 s2, ru32 d1,
  ru32 d2] 57)]
  [b] w' w →
  R (Ending.returned (Value.bool false)) w)) ∧
  (wLe s1 s2 = false →
  ∀ (w : World),
  wFin
  [(kb [SV.raw (Value.bool pm), ri64 pr, ru32 sa,
  ri64 sn, ru32 da, ri64 dn,
  ru32 s1, ru32 s2, ru32 d1,
  ru32 d2] 57)]
  [b] w' w →
  R (Ending.returned (Value.bool false)) w)) ∧
  (wEq n 0 = false →
  ∀ (w : World),
  wFin
  [(kb [SV.raw (Value.bool pm), ri64 pr, ru32 sa,
  ri64 sn, ru32 da, ri64 dn,
  ru32 s1, ru32 s2, ru32 d1,
  ru32 d2] 57)]
  [b] w' w →
  R (Ending.returned (Value.bool false)) w)) ∧
  (wEq n 0 = false →
  ∀ (w : World),
  wFin
  [(kb [SV.raw (Value.bool pm), ri64 pr, ru32 sa,
  ri64 sn, ru32 da, ri64 dn,
  ru32 s1, ru32 s2, ru32 d1,
  ru32 d2] 57)]
  [b] w' w →
  R (Ending.returned (Value.bool false)) w)) ∧
  (wLe pr 255 = false →
  ∀ (w_1 : World),
  wFin
  [(kb [SV.raw (Value.bool pm), ri64 pr, ru32 sa, ri64 sn,
  ru32 da, ri64 dn, ru32 s1, ru32 s2,
  ru32 d1, ru32 d2] 57)]
  [b] w w_1 →
  R (Ending.returned (Value.bool false)) w_1)) ∧
  (wGe pr (-1) = false →
  ∀ (w_1 : World),
  wFin
  [(kb [SV.raw (Value.bool pm), ri64 pr, ru32 sa, ri64 sn,
  ru32 da, ri64 dn, ru32 s1, ru32 s2,
  ru32 d1, ru32 d2] 57)]
  [b] w w_1 →
  R (Ending.returned (Value.bool false)) w_1)
theorem of_xmay (pm : Bool) (pr sa sn da dn s1 s2 d1 d2 : Int) {w : World} {R : Ending → World → Prop} (hh : Held [] [] w) (hVC : VC_xmay pm pr sa sn da dn s1 s2 d1 d2 w R) : Calls Try.prog 25 (SV.vals [] [rul pm pr sa sn da dn s1 s2 d1 d2]).toArray w R :=
  fnX_sound (E := (env ([]) [] ([]) ([]))) (env_ok _ _ _ _) rfl Try.func25 (by kernel_rfl) rfl (by kernel_rfl) (Nat.le_of_ble_eq_true (by kernel_rfl)) hh (Eq.mp (by kernel_rfl : VC_xmay pm pr sa sn da dn s1 s2 d1 d2 w R = (fnX (env ([]) [] ([]) ([])) (Try.f25.body.getD .skip) Try.f25.ntmps Try.f25.results.toList [rul pm pr sa sn da dn s1 s2 d1 d2] [] [] w R)) hVC)
/-- What is to be shown of waymark/waymarkref10.Fits. -/
def VC_xfits (pm : Bool) (pr sa sn da dn s1 s2 d1 d2 : Int) (hs hd hp hx hy : Int) (w : World) (R : Ending → World → Prop) : Prop :=
  ∀ (b : Nat),
  wNew w b →
  wOut b [] →
  ∀ (b_1 : Nat),
  wNew w b_1 →
  wOut b_1 [b] →
  ∀ (wc : World),
  wFin
  [(kb [SV.raw (Value.bool pm), ri64 pr, ru32 sa, ri64 sn,
  ru32 da, ri64 dn, ru32 s1, ru32 s2,
  ru32 d1, ru32 d2] 57),
  (kb [ru32 hs, ru32 hd, ru8 hp, ru16 hx,
  ru16 hy] 28)]
  [b, b_1] w wc →
  wCalls Try.prog 33 [Value.agg #[vu32 sa, vi64 sn]] wc fun (e : Ending) (w' : World) =>
  ∃ (n : Int),
  e = Ending.returned (vi64 n) ∧
  wKeep [b, b_1] wc w' ∧
  (wNe n 0 = true →
  ∀ (w : World),
  wFin
  [(kb [SV.raw (Value.bool pm), ri64 pr, ru32 sa,
  ri64 sn, ru32 da, ri64 dn,
  ru32 s1, ru32 s2, ru32 d1,
  ru32 d2] 57),
  (kb [ru32 hs, ru32 hd, ru8 hp,
  ru16 hx, ru16 hy] 28)]
  [b, b_1] w' w →
  R (Ending.returned (Value.bool false)) w) ∧
  (wNe n 0 = false →
  ∀ (wc : World),
  wFin
  [(kb [SV.raw (Value.bool pm), ri64 pr, ru32 sa,
  ri64 sn, ru32 da, ri64 dn,
  ru32 s1, ru32 s2, ru32 d1,
  ru32 d2] 57),
  (kb [ru32 hs, ru32 hd, ru8 hp,
  ru16 hx, ru16 hy] 28)]
  [b, b_1] w' wc →
  wCalls Try.prog 33 [Value.agg #[vu32 da, vi64 dn]] wc fun (e : Ending) (w' : World) =>
  ∃ (n : Int),
  e = Ending.returned (vi64 n) ∧
  wKeep [b, b_1] wc w' ∧
  (wNe n 0 = true →
  ∀ (w : World),
  wFin
  [(kb [SV.raw (Value.bool pm), ri64 pr, ru32 sa,
  ri64 sn, ru32 da, ri64 dn,
  ru32 s1, ru32 s2, ru32 d1,
  ru32 d2] 57),
  (kb [ru32 hs, ru32 hd, ru8 hp,
  ru16 hx, ru16 hy] 28)]
  [b, b_1] w' w →
  R (Ending.returned (Value.bool false)) w) ∧
  (wNe n 0 = false →
  ∀ (wc : World),
  wFin
  [(kb [SV.raw (Value.bool pm), ri64 pr, ru32 sa,
  ri64 sn, ru32 da, ri64 dn,
  ru32 s1, ru32 s2, ru32 d1,
  ru32 d2] 57),
  (kb [ru32 hs, ru32 hd, ru8 hp,
  ru16 hx, ru16 hy] 28)]
  [b, b_1] w' wc →
  wCalls Try.prog 39 [vu32 hs, Value.agg #[vu32 sa, vi64 sn]] wc
  fun (e : Ending) (w' : World) =>
  ∃ (b_2 : Bool),
  e = Ending.returned (Value.bool b_2) ∧
  wKeep [b, b_1] wc w' ∧
  (b_2 = true →
  ∀ (wc : World),
  wFin
  [(kb [SV.raw (Value.bool pm), ri64 pr, ru32 sa,
  ri64 sn, ru32 da,
  ri64 dn, ru32 s1,
  ru32 s2, ru32 d1,
  ru32 d2] 57),
  (kb [ru32 hs, ru32 hd,
  ru8 hp, ru16 hx,
  ru16 hy] 28)]
  [b, b_1] w' wc →
  wCalls Try.prog 39
  [vu32 hd, Value.agg #[vu32 da, vi64 dn]]
  wc fun (e : Ending) (w' : World) =>
  ∃ (b_3 : Bool),
  e = Ending.returned (Value.bool b_3) ∧
  wKeep [b, b_1] wc w' ∧
  (b_3 = true →
  (wEq pr (-1) = true →
  ∃ (r : Int),
  wWrap IntKind.u32 hx r ∧
  (wGe r s1 = true →
  ∃ (r : Int),
  wWrap IntKind.u32 hx r ∧
  (wLe r s2 = true →
  ∃ (r : Int),
  wWrap IntKind.u32 hy r ∧
  (wGe r d1 = true →
  ∃ (r : Int),
  wWrap IntKind.u32 hy r ∧
  ∀ (w : World),
  wFin
  [(kb [SV.raw (Value.bool pm),
  ri64 pr,
  ru32 sa,
  ri64 sn,
  ru32 da,
  ri64 dn,
  ru32 s1,
  ru32 s2,
  ru32 d1,
  ru32 d2] 57),
  (kb [ru32 hs,
  ru32 hd,
  ru8 hp,
  ru16 hx,
  ru16 hy] 28)]
  [b, b_1] w' w →
  R (Ending.returned (Value.bool (wLe r d2))) w) ∧
  (wGe r d1 = false →
  ∀ (w : World),
  wFin
  [(kb [SV.raw (Value.bool pm),
  ri64 pr,
  ru32 sa,
  ri64 sn,
  ru32 da,
  ri64 dn,
  ru32 s1,
  ru32 s2,
  ru32 d1,
  ru32 d2] 57),
  (kb [ru32 hs,
  ru32 hd,
  ru8 hp,
  ru16 hx,
  ru16 hy] 28)]
  [b, b_1] w' w →
  R (Ending.returned (Value.bool false)) w)) ∧
  (wLe r s2 = false →
  ∀ (w : World),
  wFin
  [(kb [SV.raw (Value.bool pm), ri64 pr,
  ru32 sa,
  ri64 sn,
  ru32 da,
  ri64 dn,
  ru32 s1,
  ru32 s2,
  ru32 d1,
  ru32 d2] 57),
  (kb [ru32 hs,
  ru32 hd,
  ru8 hp,
  ru16 hx,
  ru16 hy] 28)]
  [b, b_1] w' w →
  R (Ending.returned (Value.bool false)) w)) ∧
  (wGe r s1 = false →
  ∀ (w : World),
  wFin
  [(kb [SV.raw (Value.bool pm), ri64 pr,
  ru32 sa,
  ri64 sn,
  ru32 da,
  ri64 dn,
  ru32 s1,
  ru32 s2,
  ru32 d1,
  ru32 d2] 57),
  (kb [ru32 hs,
  ru32 hd,
  ru8 hp,
  ru16 hx,
  ru16 hy] 28)]
  [b, b_1] w' w →
  R (Ending.returned (Value.bool false)) w)) ∧
  (wEq pr (-1) = false →
  ∃ (r : Int),
  wWrap IntKind.i64 hp r ∧
  (wEq pr r = true →
  ∃ (r : Int),
  wWrap IntKind.u32 hx r ∧
  (wGe r s1 = true →
  ∃ (r : Int),
  wWrap IntKind.u32 hx r ∧
  (wLe r s2 = true →
  ∃ (r : Int),
  wWrap IntKind.u32 hy r ∧
  (wGe r d1 = true →
  ∃ (r : Int),
  wWrap IntKind.u32 hy r ∧
  ∀ (w : World),
  wFin
  [(kb [SV.raw (Value.bool pm),
  ri64 pr,
  ru32 sa,
  ri64 sn,
  ru32 da,
  ri64 dn,
  ru32 s1,
  ru32 s2,
  ru32 d1,
  ru32 d2] 57),
  (kb [ru32 hs,
  ru32 hd,
  ru8 hp,
  ru16 hx,
  ru16 hy] 28)]
  [b, b_1] w' w →
  R (Ending.returned (Value.bool (wLe r d2))) w) ∧
  (wGe r d1 = false →
  ∀ (w : World),
  wFin
  [(kb [SV.raw (Value.bool pm),
  ri64 pr,
  ru32 sa,
  ri64 sn,
  ru32 da,
  ri64 dn,
  ru32 s1,
  ru32 s2,
  ru32 d1,
  ru32 d2] 57),
  (kb [ru32 hs,
  ru32 hd,
  ru8 hp,
  ru16 hx,
  ru16 hy] 28)]
  [b, b_1] w' w →
  R (Ending.returned (Value.bool false)) w)) ∧
  (wLe r s2 = false →
  ∀ (w : World),
  wFin
  [(kb [SV.raw (Value.bool pm),
  ri64 pr,
  ru32 sa,
  ri64 sn,
  ru32 da,
  ri64 dn,
  ru32 s1,
  ru32 s2,
  ru32 d1,
  ru32 d2] 57),
  (kb [ru32 hs,
  ru32 hd,
  ru8 hp,
  ru16 hx,
  ru16 hy] 28)]
  [b, b_1] w' w →
  R (Ending.returned (Value.bool false)) w)) ∧
  (wGe r s1 = false →
  ∀ (w : World),
  wFin
  [(kb [SV.raw (Value.bool pm), ri64 pr,
  ru32 sa,
  ri64 sn,
  ru32 da,
  ri64 dn,
  ru32 s1,
  ru32 s2,
  ru32 d1,
  ru32 d2] 57),
  (kb [ru32 hs,
  ru32 hd,
  ru8 hp,
  ru16 hx,
  ru16 hy] 28)]
  [b, b_1] w' w →
  R (Ending.returned (Value.bool false)) w)) ∧
  (wEq pr r = false →
  ∀ (w : World),
  wFin
  [(kb [SV.raw (Value.bool pm), ri64 pr,
  ru32 sa,
  ri64 sn,
  ru32 da,
  ri64 dn,
  ru32 s1,
  ru32 s2,
  ru32 d1,
  ru32 d2] 57),
  (kb [ru32 hs,
  ru32 hd,
  ru8 hp,
  ru16 hx,
  ru16 hy] 28)]
  [b, b_1] w' w →
  R (Ending.returned (Value.bool false)) w))) ∧
  (b_3 = false →
  ∀ (w : World),
  wFin
  [(kb [SV.raw (Value.bool pm), ri64 pr,
  ru32 sa, ri64 sn,
  ru32 da, ri64 dn,
  ru32 s1, ru32 s2,
  ru32 d1, ru32 d2] 57),
  (kb [ru32 hs, ru32 hd,
  ru8 hp, ru16 hx,
  ru16 hy] 28)]
  [b, b_1] w' w →
  R (Ending.returned (Value.bool false)) w)) ∧
  (b_2 = false →
  ∀ (w : World),
  wFin
  [(kb [SV.raw (Value.bool pm), ri64 pr, ru32 sa,
  ri64 sn, ru32 da,
  ri64 dn, ru32 s1,
  ru32 s2, ru32 d1,
  ru32 d2] 57),
  (kb [ru32 hs, ru32 hd,
  ru8 hp, ru16 hx,
  ru16 hy] 28)]
  [b, b_1] w' w →
  R (Ending.returned (Value.bool false)) w)))
theorem of_xfits (pm : Bool) (pr sa sn da dn s1 s2 d1 d2 : Int) (hs hd hp hx hy : Int) {w : World} {R : Ending → World → Prop} (hh : Held [] [] w) (hVC : VC_xfits pm pr sa sn da dn s1 s2 d1 d2 hs hd hp hx hy w R) : Calls Try.prog 36 (SV.vals [] [rul pm pr sa sn da dn s1 s2 d1 d2, hdr hs hd hp hx hy]).toArray w R :=
  fnX_sound (E := (env ([]) [] ([]) ([]))) (env_ok _ _ _ _) rfl Try.func36 (by kernel_rfl) rfl (by kernel_rfl) (Nat.le_of_ble_eq_true (by kernel_rfl)) hh (Eq.mp (by kernel_rfl : VC_xfits pm pr sa sn da dn s1 s2 d1 d2 hs hd hp hx hy w R = (fnX (env ([]) [] ([]) ([])) (Try.f36.body.getD .skip) Try.f36.ntmps Try.f36.results.toList [rul pm pr sa sn da dn s1 s2 d1 d2, hdr hs hd hp hx hy] [] [] w R)) hVC)
/-- What is to be shown of waymark/waymarkref10.Check. -/
def VC_xfcheck (nm : ByteArray) (a : Option Addr) (l c : Nat) (w : World) (R : Ending → World → Prop) : Prop :=
  ∀ (b : Nat),
  wNew w b →
  wOut b [] →
  (wGt (wInt l) 256 = true →
  ∀ (w_1 : World),
  wFin [(kb [SV.raw (Value.string nm), SV.raw (Value.slice a l c)] 42)] [b] w w_1 → R (Ending.returned (vi64 121)) w_1) ∧
  (wGt (wInt l) 256 = false →
  ∃ (I : List Value → World → Nat → Prop),
  (∀ (wc : World),
  wFin [(kb [SV.raw (Value.string nm), SV.raw (Value.slice a l c)] 42)] [b] w wc → ∃ (m : Nat), I [vi64 0] wc m) ∧
  ∀ (m : Nat) (wb : World) (n : Int),
  wFin [(kb [SV.raw (Value.string nm), SV.raw (Value.slice a l c)] 42)] [b] wb wb →
  I [vi64 n] wb m →
  (wLt n (wInt l) = true →
  ∃ (b_1 : Nat),
  ∃ (o : Nat),
  a = some (ad b_1 o) ∧
  wIdx n l ∧
  wOut b_1 [b] ∧
  ∃ (b_2 : Bool),
  ∃ (n_1 : Int),
  ∃ (n_2 : Int),
  ∃ (n_3 : Int),
  ∃ (n_4 : Int),
  ∃ (n_5 : Int),
  ∃ (n_6 : Int),
  ∃ (n_7 : Int),
  ∃ (n_8 : Int),
  ∃ (n_9 : Int),
  (wCell wb b_1 (wAdd (wAdd o (wMul n 10)) 0) (Value.bool b_2) ∧
  wCell wb b_1 (wAdd (wAdd o (wMul n 10)) 1) (vi64 n_1) ∧
  wCell wb b_1 (wAdd (wAdd o (wMul n 10)) 2) (vu32 n_2) ∧
  wCell wb b_1 (wAdd (wAdd o (wMul n 10)) 3) (vi64 n_3) ∧
  wCell wb b_1 (wAdd (wAdd o (wMul n 10)) 4) (vu32 n_4) ∧
  wCell wb b_1 (wAdd (wAdd o (wMul n 10)) 5) (vi64 n_5) ∧
  wCell wb b_1 (wAdd (wAdd o (wMul n 10)) 6) (vu32 n_6) ∧
  wCell wb b_1 (wAdd (wAdd o (wMul n 10)) 7) (vu32 n_7) ∧
  wCell wb b_1 (wAdd (wAdd o (wMul n 10)) 8) (vu32 n_8) ∧
  wCell wb b_1 (wAdd (wAdd o (wMul n 10)) 9) (vu32 n_9) ∧ True) ∧
  ∀ (wc : World),
  wFin [(kb [SV.raw (Value.string nm), SV.raw (Value.slice a l c)] 42)] [b] wb wc →
  wCalls Try.prog 25
  [Value.agg
  #[Value.bool b_2, vi64 n_1, vu32 n_2, vi64 n_3,
  vu32 n_4, vi64 n_5, vu32 n_6,
  vu32 n_7, vu32 n_8, vu32 n_9]]
  wc fun (e : Ending) (w' : World) =>
  ∃ (b_3 : Bool),
  e = Ending.returned (Value.bool b_3) ∧
  wKeep [b] wc w' ∧
  (wNot b_3 = true →
  ∀ (w : World),
  wFin [(kb [SV.raw (Value.string nm), SV.raw (Value.slice a l c)] 42)] [b]
  w' w →
  R (Ending.returned (vi64 121)) w) ∧
  (wNot b_3 = false →
  ∃ (r : Int),
  wWrap IntKind.i64 (wPlus n 1) r ∧
  ([b] = [b] ∧
  [(kb [SV.raw (Value.string nm), SV.raw (Value.slice a l c)] 42)] =
  [(kb [SV.raw (Value.string nm), SV.raw (Value.slice a l c)] 42)]) ∧
  ∀ (wc : World),
  wFin
  [(kb [SV.raw (Value.string nm), SV.raw (Value.slice a l c)] 42)]
  [b] w' wc →
  ∃ (m' : Nat), Nat.le (Nat.succ m') m ∧ I [vi64 r] wc m')) ∧
  (wLt n (wInt l) = false →
  ∀ (w : World),
  wFin [(kb [SV.raw (Value.string nm), SV.raw (Value.slice a l c)] 42)] [b] wb w →
  R (Ending.returned (vi64 0)) w))
theorem of_xfcheck (nm : ByteArray) (a : Option Addr) (l c : Nat) {w : World} {R : Ending → World → Prop} (hh : Held [] [] w) (hVC : VC_xfcheck nm a l c w R) : Calls Try.prog 18 (SV.vals [] [flt nm a l c]).toArray w R :=
  fnX_sound (E := (env ([]) [] ([(0, ⟨[(3, .int .i64)], []⟩)]) ([]))) (env_ok _ _ _ _) rfl Try.func18 (by kernel_rfl) rfl (by kernel_rfl) (Nat.le_of_ble_eq_true (by kernel_rfl)) hh (Eq.mp (by kernel_rfl : VC_xfcheck nm a l c w R = (fnX (env ([]) [] ([(0, ⟨[(3, .int .i64)], []⟩)]) ([])) (Try.f18.body.getD .skip) Try.f18.ntmps Try.f18.results.toList [flt nm a l c] [] [] w R)) hVC)
/-- What is to be shown of waymark/waymarkref10.Decides. -/
def VC_xdecides (nm : ByteArray) (a : Option Addr) (l c : Nat) (hs hd hp hx hy : Int) (w : World) (R : Ending → World → Prop) : Prop :=
  ∀ (b : Nat),
  wNew w b →
  wOut b [] →
  ∀ (b_1 : Nat),
  wNew w b_1 →
  wOut b_1 [b] →
  ∃ (I : List Value → World → Nat → Prop),
  (∀ (wc : World),
  wFin
  [(kb [SV.raw (Value.string nm), SV.raw (Value.slice a l c)] 42),
  (kb [ru32 hs, ru32 hd, ru8 hp, ru16 hx,
  ru16 hy] 28)]
  [b, b_1] w wc →
  ∃ (m : Nat), I [vi64 0] wc m) ∧
  ∀ (m : Nat) (wb : World) (n : Int),
  wFin
  [(kb [SV.raw (Value.string nm), SV.raw (Value.slice a l c)] 42),
  (kb [ru32 hs, ru32 hd, ru8 hp, ru16 hx,
  ru16 hy] 28)]
  [b, b_1] wb wb →
  I [vi64 n] wb m →
  (wLt n (wInt l) = true →
  ∃ (b_2 : Nat),
  ∃ (o : Nat),
  a = some (ad b_2 o) ∧
  wIdx n l ∧
  wOut b_2 [b, b_1] ∧
  ∃ (b_3 : Bool),
  ∃ (n_1 : Int),
  ∃ (n_2 : Int),
  ∃ (n_3 : Int),
  ∃ (n_4 : Int),
  ∃ (n_5 : Int),
  ∃ (n_6 : Int),
  ∃ (n_7 : Int),
  ∃ (n_8 : Int),
  ∃ (n_9 : Int),
  (wCell wb b_2 (wAdd (wAdd o (wMul n 10)) 0) (Value.bool b_3) ∧
  wCell wb b_2 (wAdd (wAdd o (wMul n 10)) 1) (vi64 n_1) ∧
  wCell wb b_2 (wAdd (wAdd o (wMul n 10)) 2) (vu32 n_2) ∧
  wCell wb b_2 (wAdd (wAdd o (wMul n 10)) 3) (vi64 n_3) ∧
  wCell wb b_2 (wAdd (wAdd o (wMul n 10)) 4) (vu32 n_4) ∧
  wCell wb b_2 (wAdd (wAdd o (wMul n 10)) 5) (vi64 n_5) ∧
  wCell wb b_2 (wAdd (wAdd o (wMul n 10)) 6) (vu32 n_6) ∧
  wCell wb b_2 (wAdd (wAdd o (wMul n 10)) 7) (vu32 n_7) ∧
  wCell wb b_2 (wAdd (wAdd o (wMul n 10)) 8) (vu32 n_8) ∧
  wCell wb b_2 (wAdd (wAdd o (wMul n 10)) 9) (vu32 n_9) ∧ True) ∧
  ∀ (wc : World),
  wFin
  [(kb [SV.raw (Value.string nm), SV.raw (Value.slice a l c)] 42),
  (kb [ru32 hs, ru32 hd,
  ru8 hp, ru16 hx,
  ru16 hy] 28)]
  [b, b_1] wb wc →
  wCalls Try.prog 36
  [Value.agg
  #[Value.bool b_3, vi64 n_1, vu32 n_2, vi64 n_3,
  vu32 n_4, vi64 n_5, vu32 n_6,
  vu32 n_7, vu32 n_8, vu32 n_9],
  Value.agg
  #[vu32 hs, vu32 hd, vu8 hp,
  vu16 hx, vu16 hy]]
  wc fun (e : Ending) (w' : World) =>
  ∃ (b_4 : Bool),
  e = Ending.returned (Value.bool b_4) ∧
  wKeep [b, b_1] wc w' ∧
  (b_4 = true →
  ∀ (w : World),
  wFin
  [(kb [SV.raw (Value.string nm), SV.raw (Value.slice a l c)] 42),
  (kb [ru32 hs, ru32 hd,
  ru8 hp, ru16 hx,
  ru16 hy] 28)]
  [b, b_1] w' w →
  R (Ending.returned (vi64 n)) w) ∧
  (b_4 = false →
  ∃ (r : Int),
  wWrap IntKind.i64 (wPlus n 1) r ∧
  ([b, b_1] = [b, b_1] ∧
  [(kb [SV.raw (Value.string nm), SV.raw (Value.slice a l c)] 42),
  (kb [ru32 hs, ru32 hd,
  ru8 hp, ru16 hx,
  ru16 hy] 28)] =
  [(kb [SV.raw (Value.string nm), SV.raw (Value.slice a l c)] 42),
  (kb [ru32 hs, ru32 hd,
  ru8 hp, ru16 hx,
  ru16 hy] 28)]) ∧
  ∀ (wc : World),
  wFin
  [(kb [SV.raw (Value.string nm), SV.raw (Value.slice a l c)] 42),
  (kb [ru32 hs, ru32 hd,
  ru8 hp, ru16 hx,
  ru16 hy] 28)]
  [b, b_1] w' wc →
  ∃ (m' : Nat), Nat.le (Nat.succ m') m ∧ I [vi64 r] wc m')) ∧
  (wLt n (wInt l) = false →
  ∀ (w : World),
  wFin
  [(kb [SV.raw (Value.string nm), SV.raw (Value.slice a l c)] 42),
  (kb [ru32 hs, ru32 hd, ru8 hp,
  ru16 hx, ru16 hy] 28)]
  [b, b_1] wb w →
  R (Ending.returned (vi64 (-1))) w)
theorem of_xdecides (nm : ByteArray) (a : Option Addr) (l c : Nat) (hs hd hp hx hy : Int) {w : World} {R : Ending → World → Prop} (hh : Held [] [] w) (hVC : VC_xdecides nm a l c hs hd hp hx hy w R) : Calls Try.prog 29 (SV.vals [] [flt nm a l c, hdr hs hd hp hx hy]).toArray w R :=
  fnX_sound (E := (env ([]) [] ([(0, ⟨[(5, .int .i64)], []⟩)]) ([]))) (env_ok _ _ _ _) rfl Try.func29 (by kernel_rfl) rfl (by kernel_rfl) (Nat.le_of_ble_eq_true (by kernel_rfl)) hh (Eq.mp (by kernel_rfl : VC_xdecides nm a l c hs hd hp hx hy w R = (fnX (env ([]) [] ([(0, ⟨[(5, .int .i64)], []⟩)]) ([])) (Try.f29.body.getD .skip) Try.f29.ntmps Try.f29.results.toList [flt nm a l c, hdr hs hd hp hx hy] [] [] w R)) hVC)
/-- What is to be shown of waymark/waymarkref10.Permits. -/
def VC_xpermits (nm : ByteArray) (a : Option Addr) (l c : Nat) (hs hd hp hx hy : Int) (w : World) (R : Ending → World → Prop) : Prop :=
  ∀ (b : Nat),
  wNew w b →
  wOut b [] →
  ∀ (b_1 : Nat),
  wNew w b_1 →
  wOut b_1 [b] →
  ∀ (wc : World),
  wFin
  [(kb [SV.raw (Value.string nm), SV.raw (Value.slice a l c)] 42),
  (kb [ru32 hs, ru32 hd, ru8 hp, ru16 hx,
  ru16 hy] 28)]
  [b, b_1] w wc →
  wCalls Try.prog 29
  [Value.agg #[Value.string nm, Value.slice a l c],
  Value.agg
  #[vu32 hs, vu32 hd, vu8 hp, vu16 hx, vu16 hy]]
  wc fun (e : Ending) (w' : World) =>
  ∃ (n : Int),
  e = Ending.returned (vi64 n) ∧
  wKeep [b, b_1] wc w' ∧
  (wGe n 0 = true →
  ∃ (b_2 : Nat),
  ∃ (o : Nat),
  a = some (ad b_2 o) ∧
  wIdx n l ∧
  wOut b_2 [b, b_1] ∧
  ∃ (b_3 : Bool),
  wCell w' b_2 (wAdd (wAdd o (wMul n 10)) 0) (Value.bool b_3) ∧
  ∀ (w : World),
  wFin
  [(kb [SV.raw (Value.string nm), SV.raw (Value.slice a l c)] 42),
  (kb [ru32 hs, ru32 hd, ru8 hp,
  ru16 hx, ru16 hy] 28)]
  [b, b_1] w' w →
  R (Ending.returned (Value.bool b_3)) w) ∧
  (wGe n 0 = false →
  ∀ (w : World),
  wFin
  [(kb [SV.raw (Value.string nm), SV.raw (Value.slice a l c)] 42),
  (kb [ru32 hs, ru32 hd, ru8 hp,
  ru16 hx, ru16 hy] 28)]
  [b, b_1] w' w →
  R (Ending.returned (Value.bool false)) w)
theorem of_xpermits (nm : ByteArray) (a : Option Addr) (l c : Nat) (hs hd hp hx hy : Int) {w : World} {R : Ending → World → Prop} (hh : Held [] [] w) (hVC : VC_xpermits nm a l c hs hd hp hx hy w R) : Calls Try.prog 20 (SV.vals [] [flt nm a l c, hdr hs hd hp hx hy]).toArray w R :=
  fnX_sound (E := (env ([]) [] ([]) ([]))) (env_ok _ _ _ _) rfl Try.func20 (by kernel_rfl) rfl (by kernel_rfl) (Nat.le_of_ble_eq_true (by kernel_rfl)) hh (Eq.mp (by kernel_rfl : VC_xpermits nm a l c hs hd hp hx hy w R = (fnX (env ([]) [] ([]) ([])) (Try.f20.body.getD .skip) Try.f20.ntmps Try.f20.results.toList [flt nm a l c, hdr hs hd hp hx hy] [] [] w R)) hVC)
/-- What is to be shown of waymark/waymarkref11.Named. -/
def VC_xnamed (a : Option Addr) (l c : Nat) (nm : ByteArray) (w : World) (R : Ending → World → Prop) : Prop :=
  ∃ (I : List Value → World → Nat → Prop),
  (∀ (wc : World), wFin [] [] w wc → ∃ (m : Nat), I [vi64 0] wc m) ∧
  ∀ (m : Nat) (wb : World) (n : Int),
  wFin [] [] wb wb →
  I [vi64 n] wb m →
  (wLt n (wInt l) = true →
  ∃ (b : Nat),
  ∃ (o : Nat),
  a = some (ad b o) ∧
  wIdx n l ∧
  wOut b [] ∧
  ∃ (s : ByteArray),
  wCell wb b (wAdd (wAdd o (wMul n 2)) 0) (Value.string s) ∧
  ∃ (b : Bool),
  (∀ (wc : World),
  wOk [] wb true wc →
  wRun Try.prog (wBin BinOp.eql 9 (Operand.tmp 16) (Operand.tmp 17) (Value.string s) (Value.string nm)) wc (Value.bool b) wc) ∧
  (b = true → ∀ (w : World), wFin [] [] wb w → R (Ending.returned (vi64 n)) w) ∧
  (b = false →
  ∃ (r : Int),
  wWrap IntKind.i64 (wPlus n 1) r ∧
  (([] : List Nat) = [] ∧ ([] : Heap) = []) ∧
  ∀ (wc : World), wFin [] [] wb wc → ∃ (m' : Nat), Nat.le (Nat.succ m') m ∧ I [vi64 r] wc m')) ∧
  (wLt n (wInt l) = false → ∀ (w : World), wFin [] [] wb w → R (Ending.returned (vi64 (-1))) w)
theorem of_xnamed (a : Option Addr) (l c : Nat) (nm : ByteArray) {w : World} {R : Ending → World → Prop} (hh : Held [] [] w) (hVC : VC_xnamed a l c nm w R) : Calls Try.prog 17 (SV.vals [] [slv a l c, .raw (.string nm)]).toArray w R :=
  fnX_sound (E := (env ([]) [] ([(0, ⟨[(5, .int .i64)], []⟩)]) ([]))) (env_ok _ _ _ _) rfl Try.func17 (by kernel_rfl) rfl (by kernel_rfl) (Nat.le_of_ble_eq_true (by kernel_rfl)) hh (Eq.mp (by kernel_rfl : VC_xnamed a l c nm w R = (fnX (env ([]) [] ([(0, ⟨[(5, .int .i64)], []⟩)]) ([])) (Try.f17.body.getD .skip) Try.f17.ntmps Try.f17.results.toList [slv a l c, .raw (.string nm)] [] [] w R)) hVC)
/-- What is to be shown of waymark/waymarkref11.Permits. -/
def VC_xpermits1 (a : Option Addr) (l c : Nat) (nm : ByteArray) (hs hd hp hx hy : Int) (w : World) (R : Ending → World → Prop) : Prop :=
  ∀ (b : Nat),
  wNew w b →
  wOut b [] →
  ∃ (b_1 : Bool),
  (∀ (wc : World),
  wOk [b] w true wc →
  wRun Try.prog
  (wBin BinOp.eql 9 (Operand.tmp 8) (Operand.const (Value.string { data := #[] })) (Value.string nm)
  (Value.string { data := #[] }))
  wc (Value.bool b_1) wc) ∧
  (b_1 = true →
  ∀ (w_1 : World),
  wFin
  [(kb [ru32 hs, ru32 hd, ru8 hp, ru16 hx,
  ru16 hy] 28)]
  [b] w w_1 →
  R (Ending.returned (Value.bool true)) w_1) ∧
  (b_1 = false →
  ∀ (wc : World),
  wFin
  [(kb [ru32 hs, ru32 hd, ru8 hp, ru16 hx,
  ru16 hy] 28)]
  [b] w wc →
  wCalls Try.prog 17 [Value.slice a l c, Value.string nm] wc fun (e : Ending) (w' : World) =>
  ∃ (n : Int),
  e = Ending.returned (vi64 n) ∧
  wKeep [b] wc w' ∧
  (wGe n 0 = true →
  ∃ (b_2 : Nat),
  ∃ (o : Nat),
  a = some (ad b_2 o) ∧
  wIdx n l ∧
  wOut b_2 [b] ∧
  ∃ (s : ByteArray),
  ∃ (a : Option Addr),
  ∃ (l : Nat),
  ∃ (c : Nat),
  (wCell w' b_2 (wAdd (wAdd o (wMul n 2)) 0) (Value.string s) ∧
  wCell w' b_2 (wAdd (wAdd o (wMul n 2)) 1) (Value.slice a l c) ∧ True) ∧
  ∀ (wc : World),
  wFin
  [(kb [ru32 hs, ru32 hd, ru8 hp,
  ru16 hx, ru16 hy] 28)]
  [b] w' wc →
  wCalls Try.prog 20
  [Value.agg #[Value.string s, Value.slice a l c],
  Value.agg
  #[vu32 hs, vu32 hd, vu8 hp, vu16 hx,
  vu16 hy]]
  wc fun (e : Ending) (w' : World) =>
  ∃ (b_3 : Bool),
  e = Ending.returned (Value.bool b_3) ∧
  wKeep [b] wc w' ∧
  ∀ (w : World),
  wFin
  [(kb [ru32 hs, ru32 hd,
  ru8 hp, ru16 hx,
  ru16 hy] 28)]
  [b] w' w →
  R (Ending.returned (Value.bool b_3)) w) ∧
  (wGe n 0 = false →
  ∀ (w : World),
  wFin
  [(kb [ru32 hs, ru32 hd, ru8 hp,
  ru16 hx, ru16 hy] 28)]
  [b] w' w →
  R (Ending.returned (Value.bool false)) w))
theorem of_xpermits1 (a : Option Addr) (l c : Nat) (nm : ByteArray) (hs hd hp hx hy : Int) {w : World} {R : Ending → World → Prop} (hh : Held [] [] w) (hVC : VC_xpermits1 a l c nm hs hd hp hx hy w R) : Calls Try.prog 14 (SV.vals [] [slv a l c, .raw (.string nm), hdr hs hd hp hx hy]).toArray w R :=
  fnX_sound (E := (env ([]) [] ([]) ([]))) (env_ok _ _ _ _) rfl Try.func14 (by kernel_rfl) rfl (by kernel_rfl) (Nat.le_of_ble_eq_true (by kernel_rfl)) hh (Eq.mp (by kernel_rfl : VC_xpermits1 a l c nm hs hd hp hx hy w R = (fnX (env ([]) [] ([]) ([])) (Try.f14.body.getD .skip) Try.f14.ntmps Try.f14.results.toList [slv a l c, .raw (.string nm), hdr hs hd hp hx hy] [] [] w R)) hVC)
/-- What is to be shown of waymark/waymarkref11.Check. -/
def VC_xrcheck (a : Option Addr) (l c : Nat) (a2 : Option Addr) (l2 c2 : Nat) (w : World) (R : Ending → World → Prop) : Prop :=
  (wGt (wInt l) 256 = true → ∀ (w_1 : World), wFin [] [] w w_1 → R (Ending.returned (vi64 1)) w_1) ∧
  (wGt (wInt l) 256 = false →
  ∃ (I : List Value → World → Nat → Prop),
  (∀ (wc : World), wFin [] [] w wc → ∃ (m : Nat), I [vi64 0] wc m) ∧
  ∀ (m : Nat) (wb : World) (n : Int),
  wFin [] [] wb wb →
  I [vi64 n] wb m →
  (wLt n (wInt l) = true →
  ∃ (b : Nat),
  ∃ (o : Nat),
  a = some (ad b o) ∧
  wIdx n l ∧
  wOut b [] ∧
  ∃ (s : ByteArray),
  wCell wb b (wAdd (wAdd o (wMul n 3)) 1) (Value.string s) ∧
  ∃ (b : Bool),
  (∀ (wc : World),
  wOk [] wb true wc →
  wRun Try.prog
  (wBin BinOp.eql 9 (Operand.tmp 20) (Operand.const (Value.string { data := #[] })) (Value.string s)
  (Value.string { data := #[] }))
  wc (Value.bool b) wc) ∧
  (b = true →
  ∃ (r : Int),
  wWrap IntKind.i64 (wPlus n 1) r ∧
  (([] : List Nat) = [] ∧ ([] : Heap) = []) ∧
  ∀ (wc : World), wFin [] [] wb wc → ∃ (m' : Nat), Nat.le (Nat.succ m') m ∧ I [vi64 r] wc m') ∧
  (b = false →
  ∃ (b : Nat),
  ∃ (o : Nat),
  a = some (ad b o) ∧
  wIdx n l ∧
  wOut b [] ∧
  ∃ (s : ByteArray),
  wCell wb b (wAdd (wAdd o (wMul n 3)) 1) (Value.string s) ∧
  ∀ (wc : World),
  wFin [] [] wb wc →
  wCalls Try.prog 17 [Value.slice a2 l2 c2, Value.string s] wc fun (e : Ending) (w' : World) =>
  ∃ (n_1 : Int),
  e = Ending.returned (vi64 n_1) ∧
  wKeep [] wc w' ∧
  (wLt n_1 0 = true →
  ∀ (w : World), wFin [] [] w' w → R (Ending.returned (vi64 120)) w) ∧
  (wLt n_1 0 = false →
  ∃ (b : Nat),
  ∃ (o : Nat),
  a2 = some (ad b o) ∧
  wIdx n_1 l2 ∧
  wOut b [] ∧
  ∃ (s : ByteArray),
  ∃ (a : Option Addr),
  ∃ (l : Nat),
  ∃ (c : Nat),
  (wCell w' b (wAdd (wAdd o (wMul n_1 2)) 0) (Value.string s) ∧
  wCell w' b (wAdd (wAdd o (wMul n_1 2)) 1) (Value.slice a l c) ∧ True) ∧
  ∀ (wc : World),
  wFin [] [] w' wc →
  wCalls Try.prog 18 [Value.agg #[Value.string s, Value.slice a l c]]
  wc fun (e : Ending) (w' : World) =>
  ∃ (n_2 : Int),
  e = Ending.returned (vi64 n_2) ∧
  wKeep [] wc w' ∧
  (wNe n_2 0 = true →
  ∀ (w : World),
  wFin [] [] w' w →
  R (Ending.returned (vi64 121)) w) ∧
  (wNe n_2 0 = false →
  ∃ (r : Int),
  wWrap IntKind.i64 (wPlus n 1) r ∧
  (([] : List Nat) = [] ∧ ([] : Heap) = []) ∧
  ∀ (wc : World),
  wFin [] [] w' wc →
  ∃ (m' : Nat),
  Nat.le (Nat.succ m') m ∧
  I [vi64 r] wc m')))) ∧
  (wLt n (wInt l) = false → ∀ (w : World), wFin [] [] wb w → R (Ending.returned (vi64 0)) w))
theorem of_xrcheck (a : Option Addr) (l c : Nat) (a2 : Option Addr) (l2 c2 : Nat) {w : World} {R : Ending → World → Prop} (hh : Held [] [] w) (hVC : VC_xrcheck a l c a2 l2 c2 w R) : Calls Try.prog 9 (SV.vals [] [slv a l c, slv a2 l2 c2]).toArray w R :=
  fnX_sound (E := (env ([]) [] ([(0, ⟨[(5, .int .i64)], []⟩)]) ([]))) (env_ok _ _ _ _) rfl Try.func9 (by kernel_rfl) rfl (by kernel_rfl) (Nat.le_of_ble_eq_true (by kernel_rfl)) hh (Eq.mp (by kernel_rfl : VC_xrcheck a l c a2 l2 c2 w R = (fnX (env ([]) [] ([(0, ⟨[(5, .int .i64)], []⟩)]) ([])) (Try.f9.body.getD .skip) Try.f9.ntmps Try.f9.results.toList [slv a l c, slv a2 l2 c2] [] [] w R)) hVC)
/-- What is to be shown of waymark/waymarkref11.First. -/
def VC_xrfirst (a : Option Addr) (l c : Nat) (a2 : Option Addr) (l2 c2 : Nat) (dest : Bool) (hs hd hp hx hy : Int) (w : World) (R : Ending → World → Prop) : Prop :=
  ∀ (b : Nat),
  wNew w b →
  wOut b [] →
  ∀ (wc : World),
  wFin
  [(kb [ru32 hs, ru32 hd, ru8 hp, ru16 hx,
  ru16 hy] 28)]
  [b] w wc →
  wCalls Try.prog 9 [Value.slice a l c, Value.slice a2 l2 c2] wc fun (e : Ending) (w' : World) =>
  ∃ (n : Int),
  e = Ending.returned (vi64 n) ∧
  wKeep [b] wc w' ∧
  (wNe n 0 = true →
  ∀ (w : World),
  wFin
  [(kb [ru32 hs, ru32 hd, ru8 hp,
  ru16 hx, ru16 hy] 28)]
  [b] w' w →
  R (Ending.returned (Value.tuple #[vi64 0, vi64 n])) w) ∧
  (wNe n 0 = false →
  ∃ (I : List Value → World → Nat → Prop),
  (∀ (wc : World),
  wFin
  [(kb [ru32 hs, ru32 hd, ru8 hp,
  ru16 hx, ru16 hy] 28)]
  [b] w' wc →
  ∃ (m : Nat), I [vi64 0] wc m) ∧
  ∀ (m : Nat) (wb : World) (n : Int),
  wFin
  [(kb [ru32 hs, ru32 hd, ru8 hp,
  ru16 hx, ru16 hy] 28)]
  [b] wb wb →
  I [vi64 n] wb m →
  (wLt n (wInt l) = true →
  ∃ (b_1 : Nat),
  ∃ (o : Nat),
  a = some (ad b_1 o) ∧
  wIdx n l ∧
  wOut b_1 [b] ∧
  ∃ (b_2 : Bool),
  wCell wb b_1 (wAdd (wAdd o (wMul n 3)) 0) (Value.bool b_2) ∧
  ∃ (b_3 : Bool),
  (∀ (wc : World),
  wOk [b] wb false wc →
  wRun Try.prog (wBin BinOp.eql 4 (Operand.tmp 28) (Operand.tmp 29) (Value.bool b_2) (Value.bool dest)) wc
  (Value.bool b_3) wc) ∧
  (b_3 = true →
  ∃ (b_4 : Nat),
  ∃ (o : Nat),
  a = some (ad b_4 o) ∧
  wIdx n l ∧
  wOut b_4 [b] ∧
  ∃ (s : ByteArray),
  wCell wb b_4 (wAdd (wAdd o (wMul n 3)) 1) (Value.string s) ∧
  ∀ (wc : World),
  wFin
  [(kb [ru32 hs, ru32 hd,
  ru8 hp, ru16 hx,
  ru16 hy] 28)]
  [b] wb wc →
  wCalls Try.prog 14
  [Value.slice a2 l2 c2, Value.string s,
  Value.agg
  #[vu32 hs, vu32 hd, vu8 hp,
  vu16 hx, vu16 hy]]
  wc fun (e : Ending) (w' : World) =>
  ∃ (b_5 : Bool),
  e = Ending.returned (Value.bool b_5) ∧
  wKeep [b] wc w' ∧
  (b_5 = true →
  ∀ (w : World),
  wFin
  [(kb [ru32 hs,
  ru32 hd,
  ru8 hp,
  ru16 hx,
  ru16 hy] 28)]
  [b] w' w →
  R
  (Ending.returned
  (Value.tuple
  #[vi64 n, vi64 0]))
  w) ∧
  (b_5 = false →
  ∃ (r : Int),
  wWrap IntKind.i64 (wPlus n 1) r ∧
  ([b] = [b] ∧
  [(kb [ru32 hs,
  ru32 hd,
  ru8 hp,
  ru16 hx,
  ru16 hy] 28)] =
  [(kb [ru32 hs,
  ru32 hd,
  ru8 hp,
  ru16 hx,
  ru16 hy] 28)]) ∧
  ∀ (wc : World),
  wFin
  [(kb [ru32 hs,
  ru32 hd,
  ru8 hp,
  ru16 hx,
  ru16 hy] 28)]
  [b] w' wc →
  ∃ (m' : Nat),
  Nat.le (Nat.succ m') m ∧ I [vi64 r] wc m')) ∧
  (b_3 = false →
  ∃ (r : Int),
  wWrap IntKind.i64 (wPlus n 1) r ∧
  ([b] = [b] ∧
  [(kb [ru32 hs, ru32 hd,
  ru8 hp, ru16 hx,
  ru16 hy] 28)] =
  [(kb [ru32 hs, ru32 hd,
  ru8 hp, ru16 hx,
  ru16 hy] 28)]) ∧
  ∀ (wc : World),
  wFin
  [(kb [ru32 hs, ru32 hd,
  ru8 hp, ru16 hx,
  ru16 hy] 28)]
  [b] wb wc →
  ∃ (m' : Nat), Nat.le (Nat.succ m') m ∧ I [vi64 r] wc m')) ∧
  (wLt n (wInt l) = false →
  ∀ (w : World),
  wFin
  [(kb [ru32 hs, ru32 hd, ru8 hp,
  ru16 hx, ru16 hy] 28)]
  [b] wb w →
  R (Ending.returned (Value.tuple #[vi64 (-1), vi64 0])) w))
theorem of_xrfirst (a : Option Addr) (l c : Nat) (a2 : Option Addr) (l2 c2 : Nat) (dest : Bool) (hs hd hp hx hy : Int) {w : World} {R : Ending → World → Prop} (hh : Held [] [] w) (hVC : VC_xrfirst a l c a2 l2 c2 dest hs hd hp hx hy w R) : Calls Try.prog 5 (SV.vals [] [slv a l c, slv a2 l2 c2, .raw (.bool dest), hdr hs hd hp hx hy]).toArray w R :=
  fnX_sound (E := (env ([]) [] ([(0, ⟨[(11, .int .i64)], []⟩)]) ([]))) (env_ok _ _ _ _) rfl Try.func5 (by kernel_rfl) rfl (by kernel_rfl) (Nat.le_of_ble_eq_true (by kernel_rfl)) hh (Eq.mp (by kernel_rfl : VC_xrfirst a l c a2 l2 c2 dest hs hd hp hx hy w R = (fnX (env ([]) [] ([(0, ⟨[(11, .int .i64)], []⟩)]) ([])) (Try.f5.body.getD .skip) Try.f5.ntmps Try.f5.results.toList [slv a l c, slv a2 l2 c2, .raw (.bool dest), hdr hs hd hp hx hy] [] [] w R)) hVC)
/-- What is to be shown of waymark/waymarkref11.Apply. -/
def VC_xrapply (a : Option Addr) (l c : Nat) (a2 : Option Addr) (l2 c2 : Nat) (dest : Bool) (hs hd hp hx hy : Int) (w : World) (R : Ending → World → Prop) : Prop :=
  ∀ (b : Nat),
  wNew w b →
  wOut b [] →
  ∀ (b_1 : Nat),
  wNew w b_1 →
  wOut b_1 [b] →
  ∀ (wc : World),
  wFin
  [(kb [ru32 hs, ru32 hd, ru8 hp, ru16 hx,
  ru16 hy] 28),
  (kb [ru32 0, ru32 0, ru8 0, ru16 0,
  ru16 0] 28)]
  [b, b_1] w wc →
  wCalls Try.prog 5
  [Value.slice a l c, Value.slice a2 l2 c2, Value.bool dest,
  Value.agg
  #[vu32 hs, vu32 hd, vu8 hp, vu16 hx, vu16 hy]]
  wc fun (e : Ending) (w' : World) =>
  ∃ (n : Int),
  ∃ (n_1 : Int),
  e = Ending.returned (Value.tuple #[vi64 n, vi64 n_1]) ∧
  wKeep [b, b_1] wc w' ∧
  (wNe n_1 0 = true →
  ∀ (w : World),
  wFin
  [(kb [ru32 hs, ru32 hd, ru8 hp,
  ru16 hx, ru16 hy] 28),
  (kb [ru32 0, ru32 0, ru8 0,
  ru16 0, ru16 0] 28)]
  [b, b_1] w' w →
  R
  (Ending.returned
  (Value.tuple
  #[Value.agg
  #[vu32 0, vu32 0, vu8 0, vu16 0,
  vu16 0],
  vi64 n_1]))
  w) ∧
  (wNe n_1 0 = false →
  (wGe n 0 = true →
  (dest = true →
  ∃ (b_2 : Nat),
  ∃ (o : Nat),
  a = some (ad b_2 o) ∧
  wIdx n l ∧
  wOut b_2 [b, b_1] ∧
  ∃ (n_2 : Int),
  wCell w' b_2 (wAdd (wAdd o (wMul n 3)) 2) (vu32 n_2) ∧
  (wGe n 0 = true →
  (wNot dest = true →
  ∃ (b_3 : Nat),
  ∃ (o : Nat),
  a = some (ad b_3 o) ∧
  wIdx n l ∧
  wOut b_3 [b, b_1] ∧
  ∃ (n_3 : Int),
  wCell w' b_3 (wAdd (wAdd o (wMul n 3)) 2) (vu32 n_3) ∧
  ∀ (w : World),
  wFin
  [(kb [ru32 n_3, ru32 n_2,
  ru8 hp, ru16 hx,
  ru16 hy] 28),
  (kb [ru32 n_3, ru32 n_2,
  ru8 hp, ru16 hx,
  ru16 hy] 28)]
  [b, b_1] w' w →
  R
  (Ending.returned
  (Value.tuple
  #[Value.agg
  #[vu32 n_3, vu32 n_2,
  vu8 hp, vu16 hx,
  vu16 hy],
  vi64 0]))
  w) ∧
  (wNot dest = false →
  ∀ (w : World),
  wFin
  [(kb [ru32 hs, ru32 n_2,
  ru8 hp, ru16 hx,
  ru16 hy] 28),
  (kb [ru32 hs, ru32 n_2,
  ru8 hp, ru16 hx,
  ru16 hy] 28)]
  [b, b_1] w' w →
  R
  (Ending.returned
  (Value.tuple
  #[Value.agg
  #[vu32 hs, vu32 n_2, vu8 hp,
  vu16 hx, vu16 hy],
  vi64 0]))
  w)) ∧
  (wGe n 0 = false →
  ∀ (w : World),
  wFin
  [(kb [ru32 hs, ru32 n_2,
  ru8 hp, ru16 hx,
  ru16 hy] 28),
  (kb [ru32 hs, ru32 n_2,
  ru8 hp, ru16 hx,
  ru16 hy] 28)]
  [b, b_1] w' w →
  R
  (Ending.returned
  (Value.tuple
  #[Value.agg
  #[vu32 hs, vu32 n_2, vu8 hp,
  vu16 hx, vu16 hy],
  vi64 0]))
  w)) ∧
  (dest = false →
  (wGe n 0 = true →
  (wNot dest = true →
  ∃ (b_2 : Nat),
  ∃ (o : Nat),
  a = some (ad b_2 o) ∧
  wIdx n l ∧
  wOut b_2 [b, b_1] ∧
  ∃ (n_2 : Int),
  wCell w' b_2 (wAdd (wAdd o (wMul n 3)) 2) (vu32 n_2) ∧
  ∀ (w : World),
  wFin
  [(kb [ru32 n_2, ru32 hd,
  ru8 hp, ru16 hx,
  ru16 hy] 28),
  (kb [ru32 n_2, ru32 hd,
  ru8 hp, ru16 hx,
  ru16 hy] 28)]
  [b, b_1] w' w →
  R
  (Ending.returned
  (Value.tuple
  #[Value.agg
  #[vu32 n_2, vu32 hd, vu8 hp,
  vu16 hx, vu16 hy],
  vi64 0]))
  w) ∧
  (wNot dest = false →
  ∀ (w : World),
  wFin
  [(kb [ru32 hs, ru32 hd, ru8 hp,
  ru16 hx, ru16 hy] 28),
  (kb [ru32 hs, ru32 hd, ru8 hp,
  ru16 hx, ru16 hy] 28)]
  [b, b_1] w' w →
  R
  (Ending.returned
  (Value.tuple
  #[Value.agg
  #[vu32 hs, vu32 hd, vu8 hp,
  vu16 hx, vu16 hy],
  vi64 0]))
  w)) ∧
  (wGe n 0 = false →
  ∀ (w : World),
  wFin
  [(kb [ru32 hs, ru32 hd, ru8 hp,
  ru16 hx, ru16 hy] 28),
  (kb [ru32 hs, ru32 hd, ru8 hp,
  ru16 hx, ru16 hy] 28)]
  [b, b_1] w' w →
  R
  (Ending.returned
  (Value.tuple
  #[Value.agg
  #[vu32 hs, vu32 hd, vu8 hp, vu16 hx,
  vu16 hy],
  vi64 0]))
  w))) ∧
  (wGe n 0 = false →
  (wGe n 0 = true →
  (wNot dest = true →
  ∃ (b_2 : Nat),
  ∃ (o : Nat),
  a = some (ad b_2 o) ∧
  wIdx n l ∧
  wOut b_2 [b, b_1] ∧
  ∃ (n_2 : Int),
  wCell w' b_2 (wAdd (wAdd o (wMul n 3)) 2) (vu32 n_2) ∧
  ∀ (w : World),
  wFin
  [(kb [ru32 n_2, ru32 hd,
  ru8 hp, ru16 hx,
  ru16 hy] 28),
  (kb [ru32 n_2, ru32 hd,
  ru8 hp, ru16 hx,
  ru16 hy] 28)]
  [b, b_1] w' w →
  R
  (Ending.returned
  (Value.tuple
  #[Value.agg
  #[vu32 n_2, vu32 hd, vu8 hp,
  vu16 hx, vu16 hy],
  vi64 0]))
  w) ∧
  (wNot dest = false →
  ∀ (w : World),
  wFin
  [(kb [ru32 hs, ru32 hd, ru8 hp,
  ru16 hx, ru16 hy] 28),
  (kb [ru32 hs, ru32 hd, ru8 hp,
  ru16 hx, ru16 hy] 28)]
  [b, b_1] w' w →
  R
  (Ending.returned
  (Value.tuple
  #[Value.agg
  #[vu32 hs, vu32 hd, vu8 hp, vu16 hx,
  vu16 hy],
  vi64 0]))
  w)) ∧
  (wGe n 0 = false →
  ∀ (w : World),
  wFin
  [(kb [ru32 hs, ru32 hd, ru8 hp,
  ru16 hx, ru16 hy] 28),
  (kb [ru32 hs, ru32 hd, ru8 hp,
  ru16 hx, ru16 hy] 28)]
  [b, b_1] w' w →
  R
  (Ending.returned
  (Value.tuple
  #[Value.agg
  #[vu32 hs, vu32 hd, vu8 hp, vu16 hx,
  vu16 hy],
  vi64 0]))
  w)))
theorem of_xrapply (a : Option Addr) (l c : Nat) (a2 : Option Addr) (l2 c2 : Nat) (dest : Bool) (hs hd hp hx hy : Int) {w : World} {R : Ending → World → Prop} (hh : Held [] [] w) (hVC : VC_xrapply a l c a2 l2 c2 dest hs hd hp hx hy w R) : Calls Try.prog 7 (SV.vals [] [slv a l c, slv a2 l2 c2, .raw (.bool dest), hdr hs hd hp hx hy]).toArray w R :=
  fnX_sound (E := (env ([]) [] ([]) ([]))) (env_ok _ _ _ _) rfl Try.func7 (by kernel_rfl) rfl (by kernel_rfl) (Nat.le_of_ble_eq_true (by kernel_rfl)) hh (Eq.mp (by kernel_rfl : VC_xrapply a l c a2 l2 c2 dest hs hd hp hx hy w R = (fnX (env ([]) [] ([]) ([])) (Try.f7.body.getD .skip) Try.f7.ntmps Try.f7.results.toList [slv a l c, slv a2 l2 c2, .raw (.bool dest), hdr hs hd hp hx hy] [] [] w R)) hVC)
/-- What is to be shown of waymark/waymarkref03.Same. -/
def VC_same (hs hd hp hx hy hs2 hd2 hp2 hx2 hy2 : Int) (w : World) (R : Ending → World → Prop) : Prop :=
  ∀ (b : Nat),
  wNew w b →
  wOut b [] →
  ∀ (b_1 : Nat),
  wNew w b_1 →
  wOut b_1 [b] →
  (wEq hs hs2 = true →
  (wEq hd hd2 = true →
  (wEq hp hp2 = true →
  (wEq hx hx2 = true →
  ∀ (w_1 : World),
  wFin
  [(kb [ru32 hs, ru32 hd, ru8 hp,
  ru16 hx, ru16 hy] 28),
  (kb [ru32 hs2, ru32 hd2, ru8 hp2,
  ru16 hx2, ru16 hy2] 28)]
  [b, b_1] w w_1 →
  R (Ending.returned (Value.bool (wEq hy hy2))) w_1) ∧
  (wEq hx hx2 = false →
  ∀ (w_1 : World),
  wFin
  [(kb [ru32 hs, ru32 hd, ru8 hp,
  ru16 hx, ru16 hy] 28),
  (kb [ru32 hs2, ru32 hd2, ru8 hp2,
  ru16 hx2, ru16 hy2] 28)]
  [b, b_1] w w_1 →
  R (Ending.returned (Value.bool false)) w_1)) ∧
  (wEq hp hp2 = false →
  ∀ (w_1 : World),
  wFin
  [(kb [ru32 hs, ru32 hd, ru8 hp,
  ru16 hx, ru16 hy] 28),
  (kb [ru32 hs2, ru32 hd2, ru8 hp2,
  ru16 hx2, ru16 hy2] 28)]
  [b, b_1] w w_1 →
  R (Ending.returned (Value.bool false)) w_1)) ∧
  (wEq hd hd2 = false →
  ∀ (w_1 : World),
  wFin
  [(kb [ru32 hs, ru32 hd, ru8 hp,
  ru16 hx, ru16 hy] 28),
  (kb [ru32 hs2, ru32 hd2, ru8 hp2,
  ru16 hx2, ru16 hy2] 28)]
  [b, b_1] w w_1 →
  R (Ending.returned (Value.bool false)) w_1)) ∧
  (wEq hs hs2 = false →
  ∀ (w_1 : World),
  wFin
  [(kb [ru32 hs, ru32 hd, ru8 hp, ru16 hx,
  ru16 hy] 28),
  (kb [ru32 hs2, ru32 hd2, ru8 hp2,
  ru16 hx2, ru16 hy2] 28)]
  [b, b_1] w w_1 →
  R (Ending.returned (Value.bool false)) w_1)
theorem of_same (hs hd hp hx hy hs2 hd2 hp2 hx2 hy2 : Int) {w : World} {R : Ending → World → Prop} (hh : Held [] [] w) (hVC : VC_same hs hd hp hx hy hs2 hd2 hp2 hx2 hy2 w R) : Calls Try.prog 10 (SV.vals [] [hdr hs hd hp hx hy, hdr hs2 hd2 hp2 hx2 hy2]).toArray w R :=
  fnX_sound (E := (env ([]) [] ([]) ([]))) (env_ok _ _ _ _) rfl Try.func10 (by kernel_rfl) rfl (by kernel_rfl) (Nat.le_of_ble_eq_true (by kernel_rfl)) hh (Eq.mp (by kernel_rfl : VC_same hs hd hp hx hy hs2 hd2 hp2 hx2 hy2 w R = (fnX (env ([]) [] ([]) ([])) (Try.f10.body.getD .skip) Try.f10.ntmps Try.f10.results.toList [hdr hs hd hp hx hy, hdr hs2 hd2 hp2 hx2 hy2] [] [] w R)) hVC)
/-- What is to be shown of waymark/waymarklaw11.RewriteApplies. -/
def VC_law (a : Option Addr) (l c : Nat) (a2 : Option Addr) (l2 c2 : Nat) (dest : Bool) (hs hd hp hx hy : Int) (at_ : Int) (w : World) (R : Ending → World → Prop) : Prop :=
  ∀ (b : Nat),
  wNew w b →
  wOut b [] →
  ∀ (wc : World),
  wFin
  [(kb [ru32 hs, ru32 hd, ru8 hp, ru16 hx,
  ru16 hy] 28)]
  [b] w wc →
  ∃ (a_4 : Option Addr),
  ∃ (l_1 : Nat),
  ∃ (c_1 : Nat),
  ∃ (w' : World),
  wRun Try.prog (wBuildSlice 22 0 #[]) wc (Value.slice a_4 l_1 c_1) w' ∧
  wKeep [b] wc w' ∧
  ∀ (wc : World),
  wFin
  [(kb [ru32 hs, ru32 hd, ru8 hp,
  ru16 hx, ru16 hy] 28)]
  [b] w' wc →
  ∃ (a_6 : Option Addr),
  ∃ (l_2 : Nat),
  ∃ (c_2 : Nat),
  ∃ (w' : World),
  wRun Try.prog (wAppend #[22, 22] 22 #[Value.slice a_4 l_1 c_1, Value.slice a l c]) wc (Value.slice a_6 l_2 c_2) w' ∧
  wKeep [b] wc w' ∧
  ∃ (I : List Value → World → Nat → Prop),
  (∀ (wc : World),
  wFin
  [(kb [ru32 hs, ru32 hd, ru8 hp,
  ru16 hx, ru16 hy] 28)]
  [b] w' wc →
  ∃ (m : Nat), I [vi64 0] wc m) ∧
  ∀ (m : Nat) (wb : World) (n : Int),
  wFin
  [(kb [ru32 hs, ru32 hd, ru8 hp,
  ru16 hx, ru16 hy] 28)]
  [b] wb wb →
  I [vi64 n] wb m →
  (wLt n 2 = true →
  ∀ (wc : World),
  wFin
  [(kb [ru32 hs, ru32 hd, ru8 hp,
  ru16 hx, ru16 hy] 28)]
  [b] wb wc →
  ∃ (a : Option Addr),
  ∃ (l : Nat),
  ∃ (c : Nat),
  ∃ (w' : World),
  wRun Try.prog (wBuildSlice 22 0 #[]) wc (Value.slice a l c) w' ∧
  wKeep [b] wc w' ∧
  ∀ (wc : World),
  wFin
  [(kb [ru32 hs, ru32 hd,
  ru8 hp, ru16 hx,
  ru16 hy] 28)]
  [b] w' wc →
  ∃ (a_8 : Option Addr),
  ∃ (l_3 : Nat),
  ∃ (c_3 : Nat),
  ∃ (w' : World),
  wRun Try.prog
  (wAppend #[22, 22] 22
  #[Value.slice a l c, Value.slice a_6 l_2 c_2])
  wc (Value.slice a_8 l_3 c_3) w' ∧
  wKeep [b] wc w' ∧
  ∀ (wc : World),
  wFin
  [(kb [ru32 hs, ru32 hd,
  ru8 hp, ru16 hx,
  ru16 hy] 28)]
  [b] w' wc →
  wCalls Try.prog 4
  [Value.slice a_6 l_2 c_2, Value.slice a2 l2 c2, Value.bool dest,
  Value.agg
  #[vu32 hs, vu32 hd,
  vu8 hp, vu16 hx,
  vu16 hy]]
  wc fun (e : Ending) (w' : World) =>
  ∃ (n_1 : Int),
  ∃ (n_2 : Int),
  e =
  Ending.returned
  (Value.tuple
  #[vi64 n_1, vi64 n_2]) ∧
  wKeep [b] wc w' ∧
  ∀ (wc : World),
  wFin
  [(kb [ru32 hs,
  ru32 hd,
  ru8 hp,
  ru16 hx,
  ru16 hy] 28)]
  [b] w' wc →
  wCalls Try.prog 5
  [Value.slice a_8 l_3 c_3, Value.slice a2 l2 c2, Value.bool dest,
  Value.agg
  #[vu32 hs, vu32 hd,
  vu8 hp, vu16 hx,
  vu16 hy]]
  wc fun (e : Ending) (w' : World) =>
  ∃ (n_3 : Int),
  ∃ (n_4 : Int),
  e =
  Ending.returned
  (Value.tuple
  #[vi64 n_3,
  vi64 n_4]) ∧
  wKeep [b] wc w' ∧
  ∀ (wc : World),
  wFin
  [(kb [ru32 hs,
  ru32 hd,
  ru8 hp,
  ru16 hx,
  ru16 hy] 28)]
  [b] w' wc →
  wCalls Try.prog 6
  [Value.slice a_6 l_2 c_2, Value.slice a2 l2 c2,
  Value.bool dest,
  Value.agg
  #[vu32 hs,
  vu32 hd,
  vu8 hp,
  vu16 hx,
  vu16 hy]]
  wc fun (e : Ending) (w' : World) =>
  ∃ (n_5 : Int),
  ∃ (n_6 : Int),
  ∃ (n_7 : Int),
  ∃ (n_8 : Int),
  ∃ (n_9 : Int),
  ∃ (n_10 : Int),
  e =
  Ending.returned
  (Value.tuple
  #[Value.agg
  #[Value.int
  IntKind.u32 n_5,
  Value.int
  IntKind.u32 n_6,
  Value.int
  IntKind.u8 n_7,
  Value.int
  IntKind.u16 n_8,
  Value.int
  IntKind.u16
  n_9],
  vi64
  n_10]) ∧
  wKeep [b] wc w' ∧
  ∀ (b_1 : Nat),
  wNew w' b_1 →
  wOut b_1 [b] →
  ∀ (wc : World),
  wFin
  [(kb [SV.raw
  (Value.int
  IntKind.u32
  hs),
  SV.raw
  (Value.int
  IntKind.u32
  hd),
  SV.raw
  (Value.int
  IntKind.u8
  hp),
  SV.raw
  (Value.int
  IntKind.u16
  hx),
  SV.raw
  (Value.int
  IntKind.u16
  hy)] 28),
  (kb [SV.raw
  (Value.int
  IntKind.u32
  n_5),
  SV.raw
  (Value.int
  IntKind.u32
  n_6),
  SV.raw
  (Value.int
  IntKind.u8
  n_7),
  SV.raw
  (Value.int
  IntKind.u16
  n_8),
  SV.raw
  (Value.int
  IntKind.u16
  n_9)] 28)]
  [b, b_1] w' wc →
  wCalls Try.prog 7
  [Value.slice a_8 l_3
  c_3,
  Value.slice a2 l2 c2,
  Value.bool dest,
  Value.agg
  #[Value.int
  IntKind.u32
  hs,
  Value.int
  IntKind.u32
  hd,
  Value.int
  IntKind.u8
  hp,
  Value.int
  IntKind.u16
  hx,
  Value.int
  IntKind.u16
  hy]]
  wc
  fun (e : Ending)
  (w' : World) =>
  ∃ (n_11 : Int),
  ∃ (n_12 : Int),
  ∃ (n_13 : Int),
  ∃ (n_14 : Int),
  ∃ (n_15 : Int),
  ∃ (n_16 :
  Int),
  e =
  Ending.returned
  (Value.tuple
  #[Value.agg
  #[Value.int
  IntKind.u32
  n_11,
  Value.int
  IntKind.u32
  n_12,
  Value.int
  IntKind.u8
  n_13,
  Value.int
  IntKind.u16
  n_14,
  Value.int
  IntKind.u16
  n_15],
  Value.int
  IntKind.i64
  n_16]) ∧
  wKeep
  [b,
  b_1]
  wc
  w' ∧
  ∀
  (b_2 :
  Nat),
  wNew
  w'
  b_2 →
  wOut
  b_2
  [b,
  b_1] →
  ∀
  (wc :
  World),
  wFin
  [(kb [SV.raw
  (Value.int
  IntKind.u32
  hs),
  SV.raw
  (Value.int
  IntKind.u32
  hd),
  SV.raw
  (Value.int
  IntKind.u8
  hp),
  SV.raw
  (Value.int
  IntKind.u16
  hx),
  SV.raw
  (Value.int
  IntKind.u16
  hy)] 28),
  (kb [SV.raw
  (Value.int
  IntKind.u32
  n_5),
  SV.raw
  (Value.int
  IntKind.u32
  n_6),
  SV.raw
  (Value.int
  IntKind.u8
  n_7),
  SV.raw
  (Value.int
  IntKind.u16
  n_8),
  SV.raw
  (Value.int
  IntKind.u16
  n_9)] 28),
  (kb [SV.raw
  (Value.int
  IntKind.u32
  n_11),
  SV.raw
  (Value.int
  IntKind.u32
  n_12),
  SV.raw
  (Value.int
  IntKind.u8
  n_13),
  SV.raw
  (Value.int
  IntKind.u16
  n_14),
  SV.raw
  (Value.int
  IntKind.u16
  n_15)] 28)]
  [b,
  b_1,
  b_2]
  w'
  wc →
  wCalls
  Try.prog
  8
  [Value.slice
  a_6
  l_2
  c_2,
  Value.slice
  a2
  l2
  c2]
  wc
  fun
  (e :
  Ending)
  (w' :
  World) =>
  ∃
  (n_17
  :
  Int),
  e =
  Ending.returned
  (Value.int
  IntKind.i64
  n_17) ∧
  wKeep
  [b,
  b_1,
  b_2]
  wc
  w' ∧
  ∀
  (wc :
  World),
  wFin
  [(kb [SV.raw
  (Value.int
  IntKind.u32
  hs),
  SV.raw
  (Value.int
  IntKind.u32
  hd),
  SV.raw
  (Value.int
  IntKind.u8
  hp),
  SV.raw
  (Value.int
  IntKind.u16
  hx),
  SV.raw
  (Value.int
  IntKind.u16
  hy)] 28),
  (kb [SV.raw
  (Value.int
  IntKind.u32
  n_5),
  SV.raw
  (Value.int
  IntKind.u32
  n_6),
  SV.raw
  (Value.int
  IntKind.u8
  n_7),
  SV.raw
  (Value.int
  IntKind.u16
  n_8),
  SV.raw
  (Value.int
  IntKind.u16
  n_9)] 28),
  (kb [SV.raw
  (Value.int
  IntKind.u32
  n_11),
  SV.raw
  (Value.int
  IntKind.u32
  n_12),
  SV.raw
  (Value.int
  IntKind.u8
  n_13),
  SV.raw
  (Value.int
  IntKind.u16
  n_14),
  SV.raw
  (Value.int
  IntKind.u16
  n_15)] 28)]
  [b,
  b_1,
  b_2]
  w'
  wc →
  wCalls
  Try.prog
  9
  [Value.slice
  a_8
  l_3
  c_3,
  Value.slice
  a2
  l2
  c2]
  wc
  fun
  (e :
  Ending)
  (w' :
  World) =>
  ∃
  (n_18
  :
  Int),
  e =
  Ending.returned
  (Value.int
  IntKind.i64
  n_18) ∧
  wKeep
  [b,
  b_1,
  b_2]
  wc
  w' ∧
  (wNe
  n_17
  n_18 =
  true →
  ∀
  (w :
  World),
  wFin
  [(kb [SV.raw
  (Value.int
  IntKind.u32
  hs),
  SV.raw
  (Value.int
  IntKind.u32
  hd),
  SV.raw
  (Value.int
  IntKind.u8
  hp),
  SV.raw
  (Value.int
  IntKind.u16
  hx),
  SV.raw
  (Value.int
  IntKind.u16
  hy)] 28),
  (kb [SV.raw
  (Value.int
  IntKind.u32
  n_5),
  SV.raw
  (Value.int
  IntKind.u32
  n_6),
  SV.raw
  (Value.int
  IntKind.u8
  n_7),
  SV.raw
  (Value.int
  IntKind.u16
  n_8),
  SV.raw
  (Value.int
  IntKind.u16
  n_9)] 28),
  (kb [SV.raw
  (Value.int
  IntKind.u32
  n_11),
  SV.raw
  (Value.int
  IntKind.u32
  n_12),
  SV.raw
  (Value.int
  IntKind.u8
  n_13),
  SV.raw
  (Value.int
  IntKind.u16
  n_14),
  SV.raw
  (Value.int
  IntKind.u16
  n_15)] 28)]
  [b,
  b_1,
  b_2]
  w'
  w →
  R
  (Ending.returned
  (Value.bool
  false))
  w) ∧
  (wNe
  n_17
  n_18 =
  false →
  (wNe
  n_1
  n_3 =
  true →
  ∀
  (w :
  World),
  wFin
  [(kb [SV.raw
  (Value.int
  IntKind.u32
  hs),
  SV.raw
  (Value.int
  IntKind.u32
  hd),
  SV.raw
  (Value.int
  IntKind.u8
  hp),
  SV.raw
  (Value.int
  IntKind.u16
  hx),
  SV.raw
  (Value.int
  IntKind.u16
  hy)] 28),
  (kb [SV.raw
  (Value.int
  IntKind.u32
  n_5),
  SV.raw
  (Value.int
  IntKind.u32
  n_6),
  SV.raw
  (Value.int
  IntKind.u8
  n_7),
  SV.raw
  (Value.int
  IntKind.u16
  n_8),
  SV.raw
  (Value.int
  IntKind.u16
  n_9)] 28),
  (kb [SV.raw
  (Value.int
  IntKind.u32
  n_11),
  SV.raw
  (Value.int
  IntKind.u32
  n_12),
  SV.raw
  (Value.int
  IntKind.u8
  n_13),
  SV.raw
  (Value.int
  IntKind.u16
  n_14),
  SV.raw
  (Value.int
  IntKind.u16
  n_15)] 28)]
  [b,
  b_1,
  b_2]
  w'
  w →
  R
  (Ending.returned
  (Value.bool
  false))
  w) ∧
  (wNe
  n_1
  n_3 =
  false →
  (wNe
  n_2
  n_4 =
  true →
  ∀
  (w :
  World),
  wFin
  [(kb [SV.raw
  (Value.int
  IntKind.u32
  hs),
  SV.raw
  (Value.int
  IntKind.u32
  hd),
  SV.raw
  (Value.int
  IntKind.u8
  hp),
  SV.raw
  (Value.int
  IntKind.u16
  hx),
  SV.raw
  (Value.int
  IntKind.u16
  hy)] 28),
  (kb [SV.raw
  (Value.int
  IntKind.u32
  n_5),
  SV.raw
  (Value.int
  IntKind.u32
  n_6),
  SV.raw
  (Value.int
  IntKind.u8
  n_7),
  SV.raw
  (Value.int
  IntKind.u16
  n_8),
  SV.raw
  (Value.int
  IntKind.u16
  n_9)] 28),
  (kb [SV.raw
  (Value.int
  IntKind.u32
  n_11),
  SV.raw
  (Value.int
  IntKind.u32
  n_12),
  SV.raw
  (Value.int
  IntKind.u8
  n_13),
  SV.raw
  (Value.int
  IntKind.u16
  n_14),
  SV.raw
  (Value.int
  IntKind.u16
  n_15)] 28)]
  [b,
  b_1,
  b_2]
  w'
  w →
  R
  (Ending.returned
  (Value.bool
  false))
  w) ∧
  (wNe
  n_2
  n_4 =
  false →
  ∀
  (wc :
  World),
  wFin
  [(kb [SV.raw
  (Value.int
  IntKind.u32
  hs),
  SV.raw
  (Value.int
  IntKind.u32
  hd),
  SV.raw
  (Value.int
  IntKind.u8
  hp),
  SV.raw
  (Value.int
  IntKind.u16
  hx),
  SV.raw
  (Value.int
  IntKind.u16
  hy)] 28),
  (kb [SV.raw
  (Value.int
  IntKind.u32
  n_5),
  SV.raw
  (Value.int
  IntKind.u32
  n_6),
  SV.raw
  (Value.int
  IntKind.u8
  n_7),
  SV.raw
  (Value.int
  IntKind.u16
  n_8),
  SV.raw
  (Value.int
  IntKind.u16
  n_9)] 28),
  (kb [SV.raw
  (Value.int
  IntKind.u32
  n_11),
  SV.raw
  (Value.int
  IntKind.u32
  n_12),
  SV.raw
  (Value.int
  IntKind.u8
  n_13),
  SV.raw
  (Value.int
  IntKind.u16
  n_14),
  SV.raw
  (Value.int
  IntKind.u16
  n_15)] 28)]
  [b,
  b_1,
  b_2]
  w'
  wc →
  wCalls
  Try.prog
  10
  [Value.agg
  #[Value.int
  IntKind.u32
  n_5,
  Value.int
  IntKind.u32
  n_6,
  Value.int
  IntKind.u8
  n_7,
  Value.int
  IntKind.u16
  n_8,
  Value.int
  IntKind.u16
  n_9],
  Value.agg
  #[Value.int
  IntKind.u32
  n_11,
  Value.int
  IntKind.u32
  n_12,
  Value.int
  IntKind.u8
  n_13,
  Value.int
  IntKind.u16
  n_14,
  Value.int
  IntKind.u16
  n_15]]
  wc
  fun
  (e :
  Ending)
  (w' :
  World) =>
  ∃
  (b_3
  :
  Bool),
  e =
  Ending.returned
  (Value.bool
  b_3) ∧
  wKeep
  [b,
  b_1,
  b_2]
  wc
  w' ∧
  (wNot
  b_3 =
  true →
  ∀
  (w :
  World),
  wFin
  [(kb [SV.raw
  (Value.int
  IntKind.u32
  hs),
  SV.raw
  (Value.int
  IntKind.u32
  hd),
  SV.raw
  (Value.int
  IntKind.u8
  hp),
  SV.raw
  (Value.int
  IntKind.u16
  hx),
  SV.raw
  (Value.int
  IntKind.u16
  hy)] 28),
  (kb [SV.raw
  (Value.int
  IntKind.u32
  n_5),
  SV.raw
  (Value.int
  IntKind.u32
  n_6),
  SV.raw
  (Value.int
  IntKind.u8
  n_7),
  SV.raw
  (Value.int
  IntKind.u16
  n_8),
  SV.raw
  (Value.int
  IntKind.u16
  n_9)] 28),
  (kb [SV.raw
  (Value.int
  IntKind.u32
  n_11),
  SV.raw
  (Value.int
  IntKind.u32
  n_12),
  SV.raw
  (Value.int
  IntKind.u8
  n_13),
  SV.raw
  (Value.int
  IntKind.u16
  n_14),
  SV.raw
  (Value.int
  IntKind.u16
  n_15)] 28)]
  [b,
  b_1,
  b_2]
  w'
  w →
  R
  (Ending.returned
  (Value.bool
  false))
  w) ∧
  (wNot
  b_3 =
  false →
  (wNe
  n_10
  n_16 =
  true →
  ∀
  (w :
  World),
  wFin
  [(kb [SV.raw
  (Value.int
  IntKind.u32
  hs),
  SV.raw
  (Value.int
  IntKind.u32
  hd),
  SV.raw
  (Value.int
  IntKind.u8
  hp),
  SV.raw
  (Value.int
  IntKind.u16
  hx),
  SV.raw
  (Value.int
  IntKind.u16
  hy)] 28),
  (kb [SV.raw
  (Value.int
  IntKind.u32
  n_5),
  SV.raw
  (Value.int
  IntKind.u32
  n_6),
  SV.raw
  (Value.int
  IntKind.u8
  n_7),
  SV.raw
  (Value.int
  IntKind.u16
  n_8),
  SV.raw
  (Value.int
  IntKind.u16
  n_9)] 28),
  (kb [SV.raw
  (Value.int
  IntKind.u32
  n_11),
  SV.raw
  (Value.int
  IntKind.u32
  n_12),
  SV.raw
  (Value.int
  IntKind.u8
  n_13),
  SV.raw
  (Value.int
  IntKind.u16
  n_14),
  SV.raw
  (Value.int
  IntKind.u16
  n_15)] 28)]
  [b,
  b_1,
  b_2]
  w'
  w →
  R
  (Ending.returned
  (Value.bool
  false))
  w) ∧
  (wNe
  n_10
  n_16 =
  false →
  ∃
  (I_1
  :
  List
  Value →
  World →
  Nat →
  Prop),
  (∀
  (wc :
  World),
  wFin
  [(kb [SV.raw
  (Value.int
  IntKind.u32
  hs),
  SV.raw
  (Value.int
  IntKind.u32
  hd),
  SV.raw
  (Value.int
  IntKind.u8
  hp),
  SV.raw
  (Value.int
  IntKind.u16
  hx),
  SV.raw
  (Value.int
  IntKind.u16
  hy)] 28),
  (kb [SV.raw
  (Value.int
  IntKind.u32
  n_5),
  SV.raw
  (Value.int
  IntKind.u32
  n_6),
  SV.raw
  (Value.int
  IntKind.u8
  n_7),
  SV.raw
  (Value.int
  IntKind.u16
  n_8),
  SV.raw
  (Value.int
  IntKind.u16
  n_9)] 28),
  (kb [SV.raw
  (Value.int
  IntKind.u32
  n_11),
  SV.raw
  (Value.int
  IntKind.u32
  n_12),
  SV.raw
  (Value.int
  IntKind.u8
  n_13),
  SV.raw
  (Value.int
  IntKind.u16
  n_14),
  SV.raw
  (Value.int
  IntKind.u16
  n_15)] 28)]
  [b,
  b_1,
  b_2]
  w'
  wc →
  ∃
  (m
  :
  Nat),
  I_1
  [Value.int
  IntKind.i64
  0]
  wc
  m) ∧
  ∀
  (m_1 :
  Nat)
  (wb :
  World)
  (n_19 :
  Int),
  wFin
  [(kb [SV.raw
  (Value.int
  IntKind.u32
  hs),
  SV.raw
  (Value.int
  IntKind.u32
  hd),
  SV.raw
  (Value.int
  IntKind.u8
  hp),
  SV.raw
  (Value.int
  IntKind.u16
  hx),
  SV.raw
  (Value.int
  IntKind.u16
  hy)] 28),
  (kb [SV.raw
  (Value.int
  IntKind.u32
  n_5),
  SV.raw
  (Value.int
  IntKind.u32
  n_6),
  SV.raw
  (Value.int
  IntKind.u8
  n_7),
  SV.raw
  (Value.int
  IntKind.u16
  n_8),
  SV.raw
  (Value.int
  IntKind.u16
  n_9)] 28),
  (kb [SV.raw
  (Value.int
  IntKind.u32
  n_11),
  SV.raw
  (Value.int
  IntKind.u32
  n_12),
  SV.raw
  (Value.int
  IntKind.u8
  n_13),
  SV.raw
  (Value.int
  IntKind.u16
  n_14),
  SV.raw
  (Value.int
  IntKind.u16
  n_15)] 28)]
  [b,
  b_1,
  b_2]
  wb
  wb →
  I_1
  [Value.int
  IntKind.i64
  n_19]
  wb
  m_1 →
  (wLt
  n_19
  (wInt
  l_2) =
  true →
  ∃
  (b_4
  :
  Nat),
  ∃
  (o
  :
  Nat),
  a_6 =
  some
  (ad b_4 o) ∧
  wIdx
  n_19
  l_2 ∧
  wOut
  b_4
  [b,
  b_1,
  b_2] ∧
  ∃
  (b_5
  :
  Bool),
  ∃
  (s
  :
  ByteArray),
  ∃
  (n
  :
  Int),
  (wCell
  wb
  b_4
  (wAdd
  (wAdd
  o
  (wMul
  n_19
  3))
  0)
  (Value.bool
  b_5) ∧
  wCell
  wb
  b_4
  (wAdd
  (wAdd
  o
  (wMul
  n_19
  3))
  1)
  (Value.string
  s) ∧
  wCell
  wb
  b_4
  (wAdd
  (wAdd
  o
  (wMul
  n_19
  3))
  2)
  (Value.int
  IntKind.u32
  n) ∧
  True) ∧
  ∃
  (b_6
  :
  Nat),
  ∃
  (o
  :
  Nat),
  a_8 =
  some
  (ad b_6 o) ∧
  wIdx
  n_19
  l_3 ∧
  wOut
  b_6
  [b,
  b_1,
  b_2] ∧
  ∃
  (b_7
  :
  Bool),
  ∃
  (s_1
  :
  ByteArray),
  ∃
  (n_20
  :
  Int),
  (wCell
  wb
  b_6
  (wAdd
  (wAdd
  o
  (wMul
  n_19
  3))
  0)
  (Value.bool
  b_7) ∧
  wCell
  wb
  b_6
  (wAdd
  (wAdd
  o
  (wMul
  n_19
  3))
  1)
  (Value.string
  s_1) ∧
  wCell
  wb
  b_6
  (wAdd
  (wAdd
  o
  (wMul
  n_19
  3))
  2)
  (Value.int
  IntKind.u32
  n_20) ∧
  True) ∧
  ∃
  (b_8
  :
  Bool),
  (∀
  (wc :
  World),
  wOk
  [b,
  b_1,
  b_2]
  wb
  false
  wc →
  wRun
  Try.prog
  (wBin
  BinOp.neq
  37
  (Operand.tmp
  102)
  (Operand.tmp
  106)
  (Value.agg
  #[Value.bool
  b_5,
  Value.string
  s,
  Value.int
  IntKind.u32
  n])
  (Value.agg
  #[Value.bool
  b_7,
  Value.string
  s_1,
  Value.int
  IntKind.u32
  n_20]))
  wc
  (Value.bool
  b_8)
  wc) ∧
  (b_8 =
  true →
  ∀
  (w :
  World),
  wFin
  [(kb [SV.raw
  (Value.int
  IntKind.u32
  hs),
  SV.raw
  (Value.int
  IntKind.u32
  hd),
  SV.raw
  (Value.int
  IntKind.u8
  hp),
  SV.raw
  (Value.int
  IntKind.u16
  hx),
  SV.raw
  (Value.int
  IntKind.u16
  hy)] 28),
  (kb [SV.raw
  (Value.int
  IntKind.u32
  n_5),
  SV.raw
  (Value.int
  IntKind.u32
  n_6),
  SV.raw
  (Value.int
  IntKind.u8
  n_7),
  SV.raw
  (Value.int
  IntKind.u16
  n_8),
  SV.raw
  (Value.int
  IntKind.u16
  n_9)] 28),
  (kb [SV.raw
  (Value.int
  IntKind.u32
  n_11),
  SV.raw
  (Value.int
  IntKind.u32
  n_12),
  SV.raw
  (Value.int
  IntKind.u8
  n_13),
  SV.raw
  (Value.int
  IntKind.u16
  n_14),
  SV.raw
  (Value.int
  IntKind.u16
  n_15)] 28)]
  [b,
  b_1,
  b_2]
  wb
  w →
  R
  (Ending.returned
  (Value.bool
  false))
  w) ∧
  (b_8 =
  false →
  ∃
  (r
  :
  Int),
  wWrap
  IntKind.i64
  (wPlus
  n_19
  1)
  r ∧
  ([b,
  b_1,
  b_2] =
  [b,
  b_1,
  b_2] ∧
  [(kb [SV.raw
  (Value.int
  IntKind.u32
  hs),
  SV.raw
  (Value.int
  IntKind.u32
  hd),
  SV.raw
  (Value.int
  IntKind.u8
  hp),
  SV.raw
  (Value.int
  IntKind.u16
  hx),
  SV.raw
  (Value.int
  IntKind.u16
  hy)] 28),
  (kb [SV.raw
  (Value.int
  IntKind.u32
  n_5),
  SV.raw
  (Value.int
  IntKind.u32
  n_6),
  SV.raw
  (Value.int
  IntKind.u8
  n_7),
  SV.raw
  (Value.int
  IntKind.u16
  n_8),
  SV.raw
  (Value.int
  IntKind.u16
  n_9)] 28),
  (kb [SV.raw
  (Value.int
  IntKind.u32
  n_11),
  SV.raw
  (Value.int
  IntKind.u32
  n_12),
  SV.raw
  (Value.int
  IntKind.u8
  n_13),
  SV.raw
  (Value.int
  IntKind.u16
  n_14),
  SV.raw
  (Value.int
  IntKind.u16
  n_15)] 28)] =
  [(kb [SV.raw
  (Value.int
  IntKind.u32
  hs),
  SV.raw
  (Value.int
  IntKind.u32
  hd),
  SV.raw
  (Value.int
  IntKind.u8
  hp),
  SV.raw
  (Value.int
  IntKind.u16
  hx),
  SV.raw
  (Value.int
  IntKind.u16
  hy)] 28),
  (kb [SV.raw
  (Value.int
  IntKind.u32
  n_5),
  SV.raw
  (Value.int
  IntKind.u32
  n_6),
  SV.raw
  (Value.int
  IntKind.u8
  n_7),
  SV.raw
  (Value.int
  IntKind.u16
  n_8),
  SV.raw
  (Value.int
  IntKind.u16
  n_9)] 28),
  (kb [SV.raw
  (Value.int
  IntKind.u32
  n_11),
  SV.raw
  (Value.int
  IntKind.u32
  n_12),
  SV.raw
  (Value.int
  IntKind.u8
  n_13),
  SV.raw
  (Value.int
  IntKind.u16
  n_14),
  SV.raw
  (Value.int
  IntKind.u16
  n_15)] 28)]) ∧
  ∀
  (wc :
  World),
  wFin
  [(kb [SV.raw
  (Value.int
  IntKind.u32
  hs),
  SV.raw
  (Value.int
  IntKind.u32
  hd),
  SV.raw
  (Value.int
  IntKind.u8
  hp),
  SV.raw
  (Value.int
  IntKind.u16
  hx),
  SV.raw
  (Value.int
  IntKind.u16
  hy)] 28),
  (kb [SV.raw
  (Value.int
  IntKind.u32
  n_5),
  SV.raw
  (Value.int
  IntKind.u32
  n_6),
  SV.raw
  (Value.int
  IntKind.u8
  n_7),
  SV.raw
  (Value.int
  IntKind.u16
  n_8),
  SV.raw
  (Value.int
  IntKind.u16
  n_9)] 28),
  (kb [SV.raw
  (Value.int
  IntKind.u32
  n_11),
  SV.raw
  (Value.int
  IntKind.u32
  n_12),
  SV.raw
  (Value.int
  IntKind.u8
  n_13),
  SV.raw
  (Value.int
  IntKind.u16
  n_14),
  SV.raw
  (Value.int
  IntKind.u16
  n_15)] 28)]
  [b,
  b_1,
  b_2]
  wb
  wc →
  ∃
  (m'
  :
  Nat),
  Nat.le
  (Nat.succ
  m')
  m_1 ∧
  I_1
  [Value.int
  IntKind.i64
  r]
  wc
  m')) ∧
  (wLt
  n_19
  (wInt
  l_2) =
  false →
  (wGe
  at_
  0 =
  true →
  (wLt
  at_
  (wInt
  l_2) =
  true →
  ∃
  (b_4
  :
  Nat),
  ∃
  (o
  :
  Nat),
  a_6 =
  some
  (ad b_4 o) ∧
  wIdx
  at_
  l_2 ∧
  wOut
  b_4
  [b,
  b_1,
  b_2] ∧
  ∃
  (b_5
  :
  Bool),
  wCell
  wb
  b_4
  (wAdd
  (wAdd
  o
  (wMul
  at_
  3))
  0)
  (Value.bool
  b_5) ∧
  ∃
  (b_6
  :
  Nat),
  ∃
  (o
  :
  Nat),
  a_6 =
  some
  (ad b_6 o) ∧
  wIdx
  at_
  l_2 ∧
  ∀
  (wc :
  World),
  wFin
  [(kb [SV.raw
  (Value.int
  IntKind.u32
  hs),
  SV.raw
  (Value.int
  IntKind.u32
  hd),
  SV.raw
  (Value.int
  IntKind.u8
  hp),
  SV.raw
  (Value.int
  IntKind.u16
  hx),
  SV.raw
  (Value.int
  IntKind.u16
  hy)] 28),
  (kb [SV.raw
  (Value.int
  IntKind.u32
  n_5),
  SV.raw
  (Value.int
  IntKind.u32
  n_6),
  SV.raw
  (Value.int
  IntKind.u8
  n_7),
  SV.raw
  (Value.int
  IntKind.u16
  n_8),
  SV.raw
  (Value.int
  IntKind.u16
  n_9)] 28),
  (kb [SV.raw
  (Value.int
  IntKind.u32
  n_11),
  SV.raw
  (Value.int
  IntKind.u32
  n_12),
  SV.raw
  (Value.int
  IntKind.u8
  n_13),
  SV.raw
  (Value.int
  IntKind.u16
  n_14),
  SV.raw
  (Value.int
  IntKind.u16
  n_15)] 28)]
  [b,
  b_1,
  b_2]
  wb
  wc →
  ∃
  (w'
  :
  World),
  wRun
  Try.prog
  (wStore
  4
  (Value.pointer
  (some
  (ad b_6 (wAdd
  (wAdd
  o
  (wMul
  at_
  3))
  0))))
  (Value.bool
  (wNot
  b_5)))
  wc
  ()
  w' ∧
  wKeep
  [b,
  b_1,
  b_2]
  wc
  w' ∧
  ∃
  (b_7
  :
  Nat),
  ∃
  (o
  :
  Nat),
  a_6 =
  some
  (ad b_7 o) ∧
  wIdx
  at_
  l_2 ∧
  wOut
  b_7
  [b,
  b_1,
  b_2] ∧
  ∃
  (n_20
  :
  Int),
  wCell
  w'
  b_7
  (wAdd
  (wAdd
  o
  (wMul
  at_
  3))
  2)
  (Value.int
  IntKind.u32
  n_20) ∧
  ∃
  (r
  :
  Int),
  wWrap
  IntKind.u32
  (wPlus
  n_20
  1)
  r ∧
  ∃
  (b_8
  :
  Nat),
  ∃
  (o
  :
  Nat),
  a_6 =
  some
  (ad b_8 o) ∧
  wIdx
  at_
  l_2 ∧
  ∀
  (wc :
  World),
  wFin
  [(kb [SV.raw
  (Value.int
  IntKind.u32
  hs),
  SV.raw
  (Value.int
  IntKind.u32
  hd),
  SV.raw
  (Value.int
  IntKind.u8
  hp),
  SV.raw
  (Value.int
  IntKind.u16
  hx),
  SV.raw
  (Value.int
  IntKind.u16
  hy)] 28),
  (kb [SV.raw
  (Value.int
  IntKind.u32
  n_5),
  SV.raw
  (Value.int
  IntKind.u32
  n_6),
  SV.raw
  (Value.int
  IntKind.u8
  n_7),
  SV.raw
  (Value.int
  IntKind.u16
  n_8),
  SV.raw
  (Value.int
  IntKind.u16
  n_9)] 28),
  (kb [SV.raw
  (Value.int
  IntKind.u32
  n_11),
  SV.raw
  (Value.int
  IntKind.u32
  n_12),
  SV.raw
  (Value.int
  IntKind.u8
  n_13),
  SV.raw
  (Value.int
  IntKind.u16
  n_14),
  SV.raw
  (Value.int
  IntKind.u16
  n_15)] 28)]
  [b,
  b_1,
  b_2]
  w'
  wc →
  ∃
  (w'
  :
  World),
  wRun
  Try.prog
  (wStore
  25
  (Value.pointer
  (some
  (ad b_8 (wAdd
  (wAdd
  o
  (wMul
  at_
  3))
  2))))
  (Value.int
  IntKind.u32
  r))
  wc
  ()
  w' ∧
  wKeep
  [b,
  b_1,
  b_2]
  wc
  w' ∧
  ∃
  (r
  :
  Int),
  wWrap
  IntKind.i64
  (wPlus
  n
  1)
  r ∧
  ([b] =
  [b] ∧
  [(kb [SV.raw
  (Value.int
  IntKind.u32
  hs),
  SV.raw
  (Value.int
  IntKind.u32
  hd),
  SV.raw
  (Value.int
  IntKind.u8
  hp),
  SV.raw
  (Value.int
  IntKind.u16
  hx),
  SV.raw
  (Value.int
  IntKind.u16
  hy)] 28)] =
  [(kb [SV.raw
  (Value.int
  IntKind.u32
  hs),
  SV.raw
  (Value.int
  IntKind.u32
  hd),
  SV.raw
  (Value.int
  IntKind.u8
  hp),
  SV.raw
  (Value.int
  IntKind.u16
  hx),
  SV.raw
  (Value.int
  IntKind.u16
  hy)] 28)]) ∧
  ∀
  (wc :
  World),
  wFin
  [(kb [SV.raw
  (Value.int
  IntKind.u32
  hs),
  SV.raw
  (Value.int
  IntKind.u32
  hd),
  SV.raw
  (Value.int
  IntKind.u8
  hp),
  SV.raw
  (Value.int
  IntKind.u16
  hx),
  SV.raw
  (Value.int
  IntKind.u16
  hy)] 28),
  (kb [SV.raw
  (Value.int
  IntKind.u32
  n_5),
  SV.raw
  (Value.int
  IntKind.u32
  n_6),
  SV.raw
  (Value.int
  IntKind.u8
  n_7),
  SV.raw
  (Value.int
  IntKind.u16
  n_8),
  SV.raw
  (Value.int
  IntKind.u16
  n_9)] 28),
  (kb [SV.raw
  (Value.int
  IntKind.u32
  n_11),
  SV.raw
  (Value.int
  IntKind.u32
  n_12),
  SV.raw
  (Value.int
  IntKind.u8
  n_13),
  SV.raw
  (Value.int
  IntKind.u16
  n_14),
  SV.raw
  (Value.int
  IntKind.u16
  n_15)] 28)]
  [b,
  b_1,
  b_2]
  w'
  wc →
  ∃
  (m'
  :
  Nat),
  Nat.le
  (Nat.succ
  m')
  m ∧
  I
  [Value.int
  IntKind.i64
  r]
  wc
  m') ∧
  (wLt
  at_
  (wInt
  l_2) =
  false →
  ∃
  (r
  :
  Int),
  wWrap
  IntKind.i64
  (wPlus
  n
  1)
  r ∧
  ([b] =
  [b] ∧
  [(kb [SV.raw
  (Value.int
  IntKind.u32
  hs),
  SV.raw
  (Value.int
  IntKind.u32
  hd),
  SV.raw
  (Value.int
  IntKind.u8
  hp),
  SV.raw
  (Value.int
  IntKind.u16
  hx),
  SV.raw
  (Value.int
  IntKind.u16
  hy)] 28)] =
  [(kb [SV.raw
  (Value.int
  IntKind.u32
  hs),
  SV.raw
  (Value.int
  IntKind.u32
  hd),
  SV.raw
  (Value.int
  IntKind.u8
  hp),
  SV.raw
  (Value.int
  IntKind.u16
  hx),
  SV.raw
  (Value.int
  IntKind.u16
  hy)] 28)]) ∧
  ∀
  (wc :
  World),
  wFin
  [(kb [SV.raw
  (Value.int
  IntKind.u32
  hs),
  SV.raw
  (Value.int
  IntKind.u32
  hd),
  SV.raw
  (Value.int
  IntKind.u8
  hp),
  SV.raw
  (Value.int
  IntKind.u16
  hx),
  SV.raw
  (Value.int
  IntKind.u16
  hy)] 28),
  (kb [SV.raw
  (Value.int
  IntKind.u32
  n_5),
  SV.raw
  (Value.int
  IntKind.u32
  n_6),
  SV.raw
  (Value.int
  IntKind.u8
  n_7),
  SV.raw
  (Value.int
  IntKind.u16
  n_8),
  SV.raw
  (Value.int
  IntKind.u16
  n_9)] 28),
  (kb [SV.raw
  (Value.int
  IntKind.u32
  n_11),
  SV.raw
  (Value.int
  IntKind.u32
  n_12),
  SV.raw
  (Value.int
  IntKind.u8
  n_13),
  SV.raw
  (Value.int
  IntKind.u16
  n_14),
  SV.raw
  (Value.int
  IntKind.u16
  n_15)] 28)]
  [b,
  b_1,
  b_2]
  wb
  wc →
  ∃
  (m'
  :
  Nat),
  Nat.le
  (Nat.succ
  m')
  m ∧
  I
  [Value.int
  IntKind.i64
  r]
  wc
  m')) ∧
  (wGe
  at_
  0 =
  false →
  ∃
  (r
  :
  Int),
  wWrap
  IntKind.i64
  (wPlus
  n
  1)
  r ∧
  ([b] =
  [b] ∧
  [(kb [SV.raw
  (Value.int
  IntKind.u32
  hs),
  SV.raw
  (Value.int
  IntKind.u32
  hd),
  SV.raw
  (Value.int
  IntKind.u8
  hp),
  SV.raw
  (Value.int
  IntKind.u16
  hx),
  SV.raw
  (Value.int
  IntKind.u16
  hy)] 28)] =
  [(kb [SV.raw
  (Value.int
  IntKind.u32
  hs),
  SV.raw
  (Value.int
  IntKind.u32
  hd),
  SV.raw
  (Value.int
  IntKind.u8
  hp),
  SV.raw
  (Value.int
  IntKind.u16
  hx),
  SV.raw
  (Value.int
  IntKind.u16
  hy)] 28)]) ∧
  ∀
  (wc :
  World),
  wFin
  [(kb [SV.raw
  (Value.int
  IntKind.u32
  hs),
  SV.raw
  (Value.int
  IntKind.u32
  hd),
  SV.raw
  (Value.int
  IntKind.u8
  hp),
  SV.raw
  (Value.int
  IntKind.u16
  hx),
  SV.raw
  (Value.int
  IntKind.u16
  hy)] 28),
  (kb [SV.raw
  (Value.int
  IntKind.u32
  n_5),
  SV.raw
  (Value.int
  IntKind.u32
  n_6),
  SV.raw
  (Value.int
  IntKind.u8
  n_7),
  SV.raw
  (Value.int
  IntKind.u16
  n_8),
  SV.raw
  (Value.int
  IntKind.u16
  n_9)] 28),
  (kb [SV.raw
  (Value.int
  IntKind.u32
  n_11),
  SV.raw
  (Value.int
  IntKind.u32
  n_12),
  SV.raw
  (Value.int
  IntKind.u8
  n_13),
  SV.raw
  (Value.int
  IntKind.u16
  n_14),
  SV.raw
  (Value.int
  IntKind.u16
  n_15)] 28)]
  [b,
  b_1,
  b_2]
  wb
  wc →
  ∃
  (m'
  :
  Nat),
  Nat.le
  (Nat.succ
  m')
  m ∧
  I
  [Value.int
  IntKind.i64
  r]
  wc
  m')))))))) ∧
  (wLt n 2 = false →
  ∀ (w : World),
  wFin
  [(kb [ru32 hs, ru32 hd, ru8 hp,
  ru16 hx, ru16 hy] 28)]
  [b] wb w →
  R (Ending.returned (Value.bool true)) w)
theorem of_law (a : Option Addr) (l c : Nat) (a2 : Option Addr) (l2 c2 : Nat) (dest : Bool) (hs hd hp hx hy : Int) (at_ : Int) {w : World} {R : Ending → World → Prop} (hh : Held [] [] w) (hVC : VC_law a l c a2 l2 c2 dest hs hd hp hx hy at_ w R) : Calls Try.prog 3 (SV.vals [] [slv a l c, slv a2 l2 c2, .raw (.bool dest), hdr hs hd hp hx hy, ri64 at_]).toArray w R :=
  fnX_sound (E := (env ([]) [] ([(0, ⟨[(12, .int .i64)], []⟩), (2, ⟨[(22, .int .i64)], []⟩)]) ([]))) (env_ok _ _ _ _) rfl Try.func3 (by kernel_rfl) rfl (by kernel_rfl) (Nat.le_of_ble_eq_true (by kernel_rfl)) hh (Eq.mp (by kernel_rfl : VC_law a l c a2 l2 c2 dest hs hd hp hx hy at_ w R = (fnX (env ([]) [] ([(0, ⟨[(12, .int .i64)], []⟩), (2, ⟨[(22, .int .i64)], []⟩)]) ([])) (Try.f3.body.getD .skip) Try.f3.ntmps Try.f3.results.toList [slv a l c, slv a2 l2 c2, .raw (.bool dest), hdr hs hd hp hx hy, ri64 at_] [] [] w R)) hVC)
end Go.Proofs.Ytnbbnokjbopcbaa

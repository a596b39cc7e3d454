/- For the doer: the functions of the translation, and the types whose values are rows of plain leaves. -/
import Derived.Test.YtbaaecphcjhdjaaTab
import Derived.Test.YtbaaecphcjhdjaaCxN
import Derived.Test.YtbaaecphcjhdjaaCxO
set_option linter.all false
set_option maxRecDepth 100000
namespace Go.Proofs.Ytbaaecphcjhdjaa
open Go Go.Sx Go.Cx
theorem eqok74 : EqOk Try.prog 74 [.int .i32, .int .i32, .int .i32] := by
  refine ⟨⟨_, Try.runUnderlying74, fun x y => rfl⟩, fun e l w hf => ?_, fun l m r w hf hg he => ?_, by kernel_rfl⟩
  · obtain ⟨a0, lhf0, ehf0, hf0⟩ := fits_int hf
    obtain ⟨a1, lhf1, ehf1, hf1⟩ := fits_int hf0
    obtain ⟨a2, lhf2, ehf2, hf2⟩ := fits_int hf1
    obtain rfl := fits_nil hf2
    subst ehf2
    subst ehf1
    subst ehf0
    show (Instr.checkKey e (9998 + 2) 74 (.agg #[.int .i32 a0, .int .i32 a1, .int .i32 a2])).run Try.prog w = .ok () w
    generalize 9998 = n
    simp only [Instr.checkKey, Sem.run_bind, Try.runUnderlying74, Result.andThen_ok]
    simp [← Array.forIn_toList, List.forIn_cons, Instr.checkKey, part, Try.runUnderlying21, Try.isAgg21, Try.sizeOf21]
  · obtain ⟨a0, lhf0, ehf0, hf0⟩ := fits_int hf
    obtain ⟨a1, lhf1, ehf1, hf1⟩ := fits_int hf0
    obtain ⟨a2, lhf2, ehf2, hf2⟩ := fits_int hf1
    obtain rfl := fits_nil hf2
    subst ehf2
    subst ehf1
    subst ehf0
    obtain ⟨b0, lhg0, ehg0, hg0⟩ := fits_int hg
    obtain ⟨b1, lhg1, ehg1, hg1⟩ := fits_int hg0
    obtain ⟨b2, lhg2, ehg2, hg2⟩ := fits_int hg1
    obtain rfl := fits_nil hg2
    subst ehg2
    subst ehg1
    subst ehg0
    show (Op.equalIn (9998 + 2) 74 (.agg #[.int .i32 a0, .int .i32 a1, .int .i32 a2]) (.agg #[.int .i32 b0, .int .i32 b1, .int .i32 b2])).run Try.prog w = .ok r w
    generalize 9998 = n
    have h0 := fun (k : IntKind) (x y : Int) (w : World) => run_equalIn_int (P := Try.prog) w n 21 k .i32 x y Try.underlying21
    have he := eqL_all he
    rw [run_equalIn_struct (P := Try.prog) w (n + 1) 74 _ _ (by kernel_rfl) Try.stoodInHeld74]
    have hfl : Try.prog.fieldsOf 74 = match Try.prog.underlying 74 with | some (.struct fs) => fs | _ => #[] := rfl
    rw [hfl, Try.underlying74]
    simp only [Op.eqFields]
    simp [part, Try.runUnderlying21, Try.isAgg21, Try.sizeOf21, h0]
    subst he
    simp only [eqB]
    cases hc0 : (a0 == b0) <;> cases hc1 : (a1 == b1) <;> cases hc2 : (a2 == b2) <;> simp_all

theorem eqok97 : EqOk Try.prog 97 [.int .i32, .int .i32, .int .i32] := by
  refine ⟨⟨_, Try.runUnderlying97, fun x y => rfl⟩, fun e l w hf => ?_, fun l m r w hf hg he => ?_, by kernel_rfl⟩
  · obtain ⟨a0, lhf0, ehf0, hf0⟩ := fits_int hf
    obtain ⟨a1, lhf1, ehf1, hf1⟩ := fits_int hf0
    obtain ⟨a2, lhf2, ehf2, hf2⟩ := fits_int hf1
    obtain rfl := fits_nil hf2
    subst ehf2
    subst ehf1
    subst ehf0
    show (Instr.checkKey e (9998 + 2) 97 (.agg #[.int .i32 a0, .int .i32 a1, .int .i32 a2])).run Try.prog w = .ok () w
    generalize 9998 = n
    simp only [Instr.checkKey, Sem.run_bind, Try.runUnderlying97, Result.andThen_ok]
    simp [Std.Legacy.Range.forIn_eq_forIn_range', Std.Legacy.Range.size, List.range'_succ, List.forIn_cons, Instr.checkKey, part, Try.runUnderlying21, Try.isAgg21, Try.sizeOf21]
  · obtain ⟨a0, lhf0, ehf0, hf0⟩ := fits_int hf
    obtain ⟨a1, lhf1, ehf1, hf1⟩ := fits_int hf0
    obtain ⟨a2, lhf2, ehf2, hf2⟩ := fits_int hf1
    obtain rfl := fits_nil hf2
    subst ehf2
    subst ehf1
    subst ehf0
    obtain ⟨b0, lhg0, ehg0, hg0⟩ := fits_int hg
    obtain ⟨b1, lhg1, ehg1, hg1⟩ := fits_int hg0
    obtain ⟨b2, lhg2, ehg2, hg2⟩ := fits_int hg1
    obtain rfl := fits_nil hg2
    subst ehg2
    subst ehg1
    subst ehg0
    show (Op.equalIn (9998 + 2) 97 (.agg #[.int .i32 a0, .int .i32 a1, .int .i32 a2]) (.agg #[.int .i32 b0, .int .i32 b1, .int .i32 b2])).run Try.prog w = .ok r w
    generalize 9998 = n
    have h0 := fun (k : IntKind) (x y : Int) (w : World) => run_equalIn_int (P := Try.prog) w n 21 k .i32 x y Try.underlying21
    have he := eqL_all he
    simp only [Op.equalIn, Sem.run_bind, Try.runUnderlying97, Result.andThen_ok, Try.sizeOf21]
    simp [Std.Legacy.Range.forIn_eq_forIn_range', Std.Legacy.Range.size, List.range'_succ, List.forIn_cons, part, Try.runUnderlying21, Try.isAgg21, Try.sizeOf21, h0]
    subst he
    simp only [eqB]
    cases hc0 : (a0 == b0) <;> cases hc1 : (a1 == b1) <;> cases hc2 : (a2 == b2) <;> simp_all

theorem eqok37 : EqOk Try.prog 37 [.int .u64, .int .u64] := by
  refine ⟨⟨_, Try.runUnderlying37, fun x y => rfl⟩, fun e l w hf => ?_, fun l m r w hf hg he => ?_, by kernel_rfl⟩
  · obtain ⟨a0, lhf0, ehf0, hf0⟩ := fits_int hf
    obtain ⟨a1, lhf1, ehf1, hf1⟩ := fits_int hf0
    obtain rfl := fits_nil hf1
    subst ehf1
    subst ehf0
    show (Instr.checkKey e (9998 + 2) 37 (.agg #[.int .u64 a0, .int .u64 a1])).run Try.prog w = .ok () w
    generalize 9998 = n
    simp only [Instr.checkKey, Sem.run_bind, Try.runUnderlying37, Result.andThen_ok]
    simp [← Array.forIn_toList, List.forIn_cons, Instr.checkKey, part, Try.runUnderlying35, Try.isAgg35, Try.sizeOf35]
  · obtain ⟨a0, lhf0, ehf0, hf0⟩ := fits_int hf
    obtain ⟨a1, lhf1, ehf1, hf1⟩ := fits_int hf0
    obtain rfl := fits_nil hf1
    subst ehf1
    subst ehf0
    obtain ⟨b0, lhg0, ehg0, hg0⟩ := fits_int hg
    obtain ⟨b1, lhg1, ehg1, hg1⟩ := fits_int hg0
    obtain rfl := fits_nil hg1
    subst ehg1
    subst ehg0
    show (Op.equalIn (9998 + 2) 37 (.agg #[.int .u64 a0, .int .u64 a1]) (.agg #[.int .u64 b0, .int .u64 b1])).run Try.prog w = .ok r w
    generalize 9998 = n
    have h0 := fun (k : IntKind) (x y : Int) (w : World) => run_equalIn_int (P := Try.prog) w n 35 k .u64 x y Try.underlying35
    have he := eqL_all he
    rw [run_equalIn_struct (P := Try.prog) w (n + 1) 37 _ _ (by kernel_rfl) Try.stoodInHeld37]
    have hfl : Try.prog.fieldsOf 37 = match Try.prog.underlying 37 with | some (.struct fs) => fs | _ => #[] := rfl
    rw [hfl, Try.underlying37]
    simp only [Op.eqFields]
    simp [part, Try.runUnderlying35, Try.isAgg35, Try.sizeOf35, h0]
    subst he
    simp only [eqB]
    cases hc0 : (a0 == b0) <;> cases hc1 : (a1 == b1) <;> simp_all

theorem eqok30 : EqOk Try.prog 30 [.int .u32, .int .u32, .int .u8, .int .u16, .int .u16] := by
  refine ⟨⟨_, Try.runUnderlying30, fun x y => rfl⟩, fun e l w hf => ?_, fun l m r w hf hg he => ?_, by kernel_rfl⟩
  · obtain ⟨a0, lhf0, ehf0, hf0⟩ := fits_int hf
    obtain ⟨a1, lhf1, ehf1, hf1⟩ := fits_int hf0
    obtain ⟨a2, lhf2, ehf2, hf2⟩ := fits_int hf1
    obtain ⟨a3, lhf3, ehf3, hf3⟩ := fits_int hf2
    obtain ⟨a4, lhf4, ehf4, hf4⟩ := fits_int hf3
    obtain rfl := fits_nil hf4
    subst ehf4
    subst ehf3
    subst ehf2
    subst ehf1
    subst ehf0
    show (Instr.checkKey e (9998 + 2) 30 (.agg #[.int .u32 a0, .int .u32 a1, .int .u8 a2, .int .u16 a3, .int .u16 a4])).run Try.prog w = .ok () w
    generalize 9998 = n
    simp only [Instr.checkKey, Sem.run_bind, Try.runUnderlying30, Result.andThen_ok]
    simp [← Array.forIn_toList, List.forIn_cons, Instr.checkKey, part, Try.runUnderlying5, Try.isAgg5, Try.sizeOf5, Try.runUnderlying27, Try.isAgg27, Try.sizeOf27, Try.runUnderlying28, Try.isAgg28, Try.sizeOf28]
  · obtain ⟨a0, lhf0, ehf0, hf0⟩ := fits_int hf
    obtain ⟨a1, lhf1, ehf1, hf1⟩ := fits_int hf0
    obtain ⟨a2, lhf2, ehf2, hf2⟩ := fits_int hf1
    obtain ⟨a3, lhf3, ehf3, hf3⟩ := fits_int hf2
    obtain ⟨a4, lhf4, ehf4, hf4⟩ := fits_int hf3
    obtain rfl := fits_nil hf4
    subst ehf4
    subst ehf3
    subst ehf2
    subst ehf1
    subst ehf0
    obtain ⟨b0, lhg0, ehg0, hg0⟩ := fits_int hg
    obtain ⟨b1, lhg1, ehg1, hg1⟩ := fits_int hg0
    obtain ⟨b2, lhg2, ehg2, hg2⟩ := fits_int hg1
    obtain ⟨b3, lhg3, ehg3, hg3⟩ := fits_int hg2
    obtain ⟨b4, lhg4, ehg4, hg4⟩ := fits_int hg3
    obtain rfl := fits_nil hg4
    subst ehg4
    subst ehg3
    subst ehg2
    subst ehg1
    subst ehg0
    show (Op.equalIn (9998 + 2) 30 (.agg #[.int .u32 a0, .int .u32 a1, .int .u8 a2, .int .u16 a3, .int .u16 a4]) (.agg #[.int .u32 b0, .int .u32 b1, .int .u8 b2, .int .u16 b3, .int .u16 b4])).run Try.prog w = .ok r w
    generalize 9998 = n
    have h0 := fun (k : IntKind) (x y : Int) (w : World) => run_equalIn_int (P := Try.prog) w n 5 k .u8 x y Try.underlying5
    have h1 := fun (k : IntKind) (x y : Int) (w : World) => run_equalIn_int (P := Try.prog) w n 27 k .u32 x y Try.underlying27
    have h2 := fun (k : IntKind) (x y : Int) (w : World) => run_equalIn_int (P := Try.prog) w n 28 k .u16 x y Try.underlying28
    have he := eqL_all he
    rw [run_equalIn_struct (P := Try.prog) w (n + 1) 30 _ _ (by kernel_rfl) Try.stoodInHeld30]
    have hfl : Try.prog.fieldsOf 30 = match Try.prog.underlying 30 with | some (.struct fs) => fs | _ => #[] := rfl
    rw [hfl, Try.underlying30]
    simp only [Op.eqFields]
    simp [part, Try.runUnderlying5, Try.isAgg5, Try.sizeOf5, Try.runUnderlying27, Try.isAgg27, Try.sizeOf27, Try.runUnderlying28, Try.isAgg28, Try.sizeOf28, h0, h1, h2]
    subst he
    simp only [eqB]
    cases hc0 : (a0 == b0) <;> cases hc1 : (a1 == b1) <;> cases hc2 : (a2 == b2) <;> cases hc3 : (a3 == b3) <;> cases hc4 : (a4 == b4) <;> simp_all

noncomputable def tys : Tys := ⟨tab, [(74, [.int .i32, .int .i32, .int .i32]), (97, [.int .i32, .int .i32, .int .i32]), (37, [.int .u64, .int .u64]), (30, [.int .u32, .int .u32, .int .u8, .int .u16, .int .u16])]⟩
theorem tys_ok : TysOk Try.prog tys := ⟨tab_ok, fun t ls h => by
  by_cases h74 : t = 74
  · subst h74; cases h; exact eqok74
  by_cases h97 : t = 97
  · subst h97; cases h; exact eqok97
  by_cases h37 : t = 37
  · subst h37; cases h; exact eqok37
  by_cases h30 : t = 30
  · subst h30; cases h; exact eqok30
  exact absurd h (by simp [tys, lk, show Nat.beq 74 t = false from Bool.eq_false_iff.2 fun h => h74 (Nat.eq_of_beq_eq_true h).symm, show Nat.beq 97 t = false from Bool.eq_false_iff.2 fun h => h97 (Nat.eq_of_beq_eq_true h).symm, show Nat.beq 37 t = false from Bool.eq_false_iff.2 fun h => h37 (Nat.eq_of_beq_eq_true h).symm, show Nat.beq 30 t = false from Bool.eq_false_iff.2 fun h => h30 (Nat.eq_of_beq_eq_true h).symm])⟩
noncomputable def fnl : List (FuncId × Func) := [(2, Try.f2), (3, Try.f3), (4, Try.f4), (5, Try.f5), (6, Try.f6), (7, Try.f7), (8, Try.f8), (9, Try.f9), (10, Try.f10), (11, Try.f11), (12, Try.f12), (13, Try.f13), (14, Try.f14), (15, Try.f15), (16, Try.f16), (17, Try.f17), (18, Try.f18), (19, Try.f19), (20, Try.f20), (21, Try.f21), (22, Try.f22), (23, Try.f23), (24, Try.f24), (25, Try.f25), (26, Try.f26), (27, Try.f27), (28, Try.f28), (29, Try.f29), (30, Try.f30), (31, Try.f31), (32, Try.f32), (33, Try.f33), (34, Try.f34), (35, Try.f35), (36, Try.f36), (37, Try.f37), (38, Try.f38), (39, Try.f39), (40, Try.f40), (42, Try.f42), (43, Try.f43), (44, Try.f44), (45, Try.f45), (46, Try.f46), (47, Try.f47), (48, Try.f48), (49, Try.f49), (50, Try.f50), (51, Try.f51), (52, Try.f52), (53, Try.f53), (54, Try.f54), (55, Try.f55), (56, Try.f56), (57, Try.f57), (58, Try.f58), (59, Try.f59), (60, Try.f60), (61, Try.f61), (62, Try.f62), (63, Try.f63), (64, Try.f64), (65, Try.f65), (66, Try.f66), (67, Try.f67), (68, Try.f68), (69, Try.f69), (70, Try.f70), (71, Try.f71), (72, Try.f72), (73, Try.f73), (74, Try.f74), (75, Try.f75), (76, Try.f76), (77, Try.f77)]
theorem fnl_ok : FnlOk Try.prog fnl := ⟨Try.func2, Try.call2, Try.func3, Try.call3, Try.func4, Try.call4, Try.func5, Try.call5, Try.func6, Try.call6, Try.func7, Try.call7, Try.func8, Try.call8, Try.func9, Try.call9, Try.func10, Try.call10, Try.func11, Try.call11, Try.func12, Try.call12, Try.func13, Try.call13, Try.func14, Try.call14, Try.func15, Try.call15, Try.func16, Try.call16, Try.func17, Try.call17, Try.func18, Try.call18, Try.func19, Try.call19, Try.func20, Try.call20, Try.func21, Try.call21, Try.func22, Try.call22, Try.func23, Try.call23, Try.func24, Try.call24, Try.func25, Try.call25, Try.func26, Try.call26, Try.func27, Try.call27, Try.func28, Try.call28, Try.func29, Try.call29, Try.func30, Try.call30, Try.func31, Try.call31, Try.func32, Try.call32, Try.func33, Try.call33, Try.func34, Try.call34, Try.func35, Try.call35, Try.func36, Try.call36, Try.func37, Try.call37, Try.func38, Try.call38, Try.func39, Try.call39, Try.func40, Try.call40, Try.func42, Try.call42, Try.func43, Try.call43, Try.func44, Try.call44, Try.func45, Try.call45, Try.func46, Try.call46, Try.func47, Try.call47, Try.func48, Try.call48, Try.func49, Try.call49, Try.func50, Try.call50, Try.func51, Try.call51, Try.func52, Try.call52, Try.func53, Try.call53, Try.func54, Try.call54, Try.func55, Try.call55, Try.func56, Try.call56, Try.func57, Try.call57, Try.func58, Try.call58, Try.func59, Try.call59, Try.func60, Try.call60, Try.func61, Try.call61, Try.func62, Try.call62, Try.func63, Try.call63, Try.func64, Try.call64, Try.func65, Try.call65, Try.func66, Try.call66, Try.func67, Try.call67, Try.func68, Try.call68, Try.func69, Try.call69, Try.func70, Try.call70, Try.func71, Try.call71, Try.func72, Try.call72, Try.func73, Try.call73, Try.func74, Try.call74, Try.func75, Try.call75, Try.func76, Try.call76, Try.func77, Try.call77, trivial⟩
noncomputable def fnC : T CFn := fnsT tys fnl
def ext : Exts := fun f => bif Nat.beq f 41 then some add64C else none
theorem ext_ok : ∀ f g, ext f = some g → ∀ τ vs v xs w, g vs = some v → CV.rels τ vs xs → ∃ x, v.rel τ x ∧ (callFunc f xs.toArray).run Try.prog w = .ok (.value x) w := fun f g hg τ vs v xs w h hr => by
  unfold ext at hg
  cases hb : Nat.beq f 41 <;> rw [hb] at hg <;> cases hg
  have := Nat.eq_of_beq_eq_true hb; subst this
  exact add64_ok Try.func41 (by kernel_rfl) (by kernel_rfl) (by kernel_rfl) (by kernel_rfl) h hr
theorem env_cx : EnvOk Try.prog tys fnC.get ext := ⟨tys_ok, fnsT_ok fnl_ok, ext_ok, mixed_ok⟩
end Go.Proofs.Ytbaaecphcjhdjaa

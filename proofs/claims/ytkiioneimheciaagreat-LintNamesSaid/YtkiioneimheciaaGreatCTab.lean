/- For the doer: the functions of the translation, and the types whose values are rows of plain leaves. -/
import Derived.Test.YtkiioneimheciaaGreatTab
import Derived.Test.YtkiioneimheciaaGreatCxN
import Derived.Test.YtkiioneimheciaaGreatCxO
set_option linter.all false
set_option maxRecDepth 100000
namespace Go.Proofs.YtkiioneimheciaaGreat
open Go Go.Sx Go.Cx
theorem eqin276 (n : Nat) (a0 : Int) (a1 : Int) (a2 : Int) (b0 : Int) (b1 : Int) (b2 : Int) (w : World) : Sem.run Tryz.prog (Op.equalIn (n + 2) 276 (.agg #[.int .i32 a0, .int .i32 a1, .int .i32 a2]) (.agg #[.int .i32 b0, .int .i32 b1, .int .i32 b2])) w = .ok ((a0 == b0) && ((a1 == b1) && (a2 == b2))) w := by
  have h0 := fun (k : IntKind) (x y : Int) (w : World) => run_equalIn_int (P := Tryz.prog) w n 21 k .i32 x y Tryz.underlying21
  rw [run_equalIn_struct (P := Tryz.prog) w (n + 1) 276 _ _ (by kernel_rfl) Tryz.stoodInHeld276]
  have hfl : Tryz.prog.fieldsOf 276 = match Tryz.prog.underlying 276 with | some (.struct fs) => fs | _ => #[] := rfl
  rw [hfl, Tryz.underlying276]
  simp only [Op.eqFields]
  simp [part, Tryz.runUnderlying21, Tryz.isAgg21, Tryz.sizeOf21, h0]
  refine (Decidable.em (a0 = b0)).elim (fun hc0 => ?_) (fun hc0 => by simp [hc0])
  refine (Decidable.em (a1 = b1)).elim (fun hc1 => ?_) (fun hc1 => by simp [hc1])
  refine (Decidable.em (a2 = b2)).elim (fun hc2 => ?_) (fun hc2 => by simp [hc2])
  simp [hc0, hc1, hc2]

theorem eqok276 : EqOk Tryz.prog 276 [.int .i32, .int .i32, .int .i32] := by
  refine ⟨⟨_, Tryz.runUnderlying276, fun x y => rfl⟩, fun e l w hf => ?_, fun l m r w hf hg he => ?_, by kernel_rfl⟩
  · obtain ⟨a0, lhf0, ehf0, hf0⟩ := fits_int hf
    obtain ⟨a1, lhf1, ehf1, hf1⟩ := fits_int hf0
    obtain ⟨a2, lhf2, ehf2, hf2⟩ := fits_int hf1
    obtain rfl := fits_nil hf2
    subst ehf2
    subst ehf1
    subst ehf0
    show (Instr.checkKey e (9998 + 2) 276 (.agg #[.int .i32 a0, .int .i32 a1, .int .i32 a2])).run Tryz.prog w = .ok () w
    generalize 9998 = n
    simp only [Instr.checkKey, Sem.run_bind, Tryz.runUnderlying276, Result.andThen_ok]
    simp [← Array.forIn_toList, List.forIn_cons, Instr.checkKey, part, Tryz.runUnderlying21, Tryz.isAgg21, Tryz.sizeOf21]
  · obtain ⟨a0, lhf0, ehf0, hf0⟩ := fits_int hf
    obtain ⟨a1, lhf1, ehf1, hf1⟩ := fits_int hf0
    obtain ⟨a2, lhf2, ehf2, hf2⟩ := fits_int hf1
    obtain rfl := fits_nil hf2
    subst ehf2
    subst ehf1
    subst ehf0
    obtain ⟨b0, lhg0, ehg0, hg0⟩ := fits_int hg
    obtain ⟨b1, lhg1, ehg1, hg1⟩ := fits_int hg0
    obtain ⟨b2, lhg2, ehg2, hg2⟩ := fits_int hg1
    obtain rfl := fits_nil hg2
    subst ehg2
    subst ehg1
    subst ehg0
    have he := eqL_all he
    subst he
    simp only [eqB, Bool.and_true]
    exact (eqin276 9998 a0 a1 a2 b0 b1 b2 w).trans (by simp only [Bool.and_assoc])

theorem eqok332 : EqOk Tryz.prog 332 [.int .i32, .int .i32, .int .i32] := by
  refine ⟨⟨_, Tryz.runUnderlying332, fun x y => rfl⟩, fun e l w hf => ?_, fun l m r w hf hg he => ?_, by kernel_rfl⟩
  · obtain ⟨a0, lhf0, ehf0, hf0⟩ := fits_int hf
    obtain ⟨a1, lhf1, ehf1, hf1⟩ := fits_int hf0
    obtain ⟨a2, lhf2, ehf2, hf2⟩ := fits_int hf1
    obtain rfl := fits_nil hf2
    subst ehf2
    subst ehf1
    subst ehf0
    show (Instr.checkKey e (9998 + 2) 332 (.agg #[.int .i32 a0, .int .i32 a1, .int .i32 a2])).run Tryz.prog w = .ok () w
    generalize 9998 = n
    simp only [Instr.checkKey, Sem.run_bind, Tryz.runUnderlying332, Result.andThen_ok]
    simp [Std.Legacy.Range.forIn_eq_forIn_range', Std.Legacy.Range.size, List.range'_succ, List.forIn_cons, Instr.checkKey, part, Tryz.runUnderlying21, Tryz.isAgg21, Tryz.sizeOf21]
  · obtain ⟨a0, lhf0, ehf0, hf0⟩ := fits_int hf
    obtain ⟨a1, lhf1, ehf1, hf1⟩ := fits_int hf0
    obtain ⟨a2, lhf2, ehf2, hf2⟩ := fits_int hf1
    obtain rfl := fits_nil hf2
    subst ehf2
    subst ehf1
    subst ehf0
    obtain ⟨b0, lhg0, ehg0, hg0⟩ := fits_int hg
    obtain ⟨b1, lhg1, ehg1, hg1⟩ := fits_int hg0
    obtain ⟨b2, lhg2, ehg2, hg2⟩ := fits_int hg1
    obtain rfl := fits_nil hg2
    subst ehg2
    subst ehg1
    subst ehg0
    show (Op.equalIn (9998 + 2) 332 (.agg #[.int .i32 a0, .int .i32 a1, .int .i32 a2]) (.agg #[.int .i32 b0, .int .i32 b1, .int .i32 b2])).run Tryz.prog w = .ok r w
    generalize 9998 = n
    have h0 := fun (k : IntKind) (x y : Int) (w : World) => run_equalIn_int (P := Tryz.prog) w n 21 k .i32 x y Tryz.underlying21
    have he := eqL_all he
    simp only [Op.equalIn, Sem.run_bind, Tryz.runUnderlying332, Result.andThen_ok, Tryz.sizeOf21]
    simp [Std.Legacy.Range.forIn_eq_forIn_range', Std.Legacy.Range.size, List.range'_succ, List.forIn_cons, part, Tryz.runUnderlying21, Tryz.isAgg21, Tryz.sizeOf21, h0]
    subst he
    simp only [eqB]
    cases hc0 : (a0 == b0) <;> cases hc1 : (a1 == b1) <;> cases hc2 : (a2 == b2) <;> simp_all

theorem eqin293 (n : Nat) (a0 : Int) (a1 : Int) (b0 : Int) (b1 : Int) (w : World) : Sem.run Tryz.prog (Op.equalIn (n + 2) 293 (.agg #[.int .u64 a0, .int .u64 a1]) (.agg #[.int .u64 b0, .int .u64 b1])) w = .ok ((a0 == b0) && (a1 == b1)) w := by
  have h0 := fun (k : IntKind) (x y : Int) (w : World) => run_equalIn_int (P := Tryz.prog) w n 223 k .u64 x y Tryz.underlying223
  rw [run_equalIn_struct (P := Tryz.prog) w (n + 1) 293 _ _ (by kernel_rfl) Tryz.stoodInHeld293]
  have hfl : Tryz.prog.fieldsOf 293 = match Tryz.prog.underlying 293 with | some (.struct fs) => fs | _ => #[] := rfl
  rw [hfl, Tryz.underlying293]
  simp only [Op.eqFields]
  simp [part, Tryz.runUnderlying223, Tryz.isAgg223, Tryz.sizeOf223, h0]
  refine (Decidable.em (a0 = b0)).elim (fun hc0 => ?_) (fun hc0 => by simp [hc0])
  refine (Decidable.em (a1 = b1)).elim (fun hc1 => ?_) (fun hc1 => by simp [hc1])
  simp [hc0, hc1]

theorem eqok293 : EqOk Tryz.prog 293 [.int .u64, .int .u64] := by
  refine ⟨⟨_, Tryz.runUnderlying293, fun x y => rfl⟩, fun e l w hf => ?_, fun l m r w hf hg he => ?_, by kernel_rfl⟩
  · obtain ⟨a0, lhf0, ehf0, hf0⟩ := fits_int hf
    obtain ⟨a1, lhf1, ehf1, hf1⟩ := fits_int hf0
    obtain rfl := fits_nil hf1
    subst ehf1
    subst ehf0
    show (Instr.checkKey e (9998 + 2) 293 (.agg #[.int .u64 a0, .int .u64 a1])).run Tryz.prog w = .ok () w
    generalize 9998 = n
    simp only [Instr.checkKey, Sem.run_bind, Tryz.runUnderlying293, Result.andThen_ok]
    simp [← Array.forIn_toList, List.forIn_cons, Instr.checkKey, part, Tryz.runUnderlying223, Tryz.isAgg223, Tryz.sizeOf223]
  · obtain ⟨a0, lhf0, ehf0, hf0⟩ := fits_int hf
    obtain ⟨a1, lhf1, ehf1, hf1⟩ := fits_int hf0
    obtain rfl := fits_nil hf1
    subst ehf1
    subst ehf0
    obtain ⟨b0, lhg0, ehg0, hg0⟩ := fits_int hg
    obtain ⟨b1, lhg1, ehg1, hg1⟩ := fits_int hg0
    obtain rfl := fits_nil hg1
    subst ehg1
    subst ehg0
    have he := eqL_all he
    subst he
    simp only [eqB, Bool.and_true]
    exact (eqin293 9998 a0 a1 b0 b1 w).trans (by simp only [Bool.and_assoc])

theorem eqin49 (n : Nat) (a0 : Int) (a1 : Int) (a2 : Int) (a3 : Int) (a4 : Int) (b0 : Int) (b1 : Int) (b2 : Int) (b3 : Int) (b4 : Int) (w : World) : Sem.run Tryz.prog (Op.equalIn (n + 2) 49 (.agg #[.int .u32 a0, .int .u32 a1, .int .u8 a2, .int .u16 a3, .int .u16 a4]) (.agg #[.int .u32 b0, .int .u32 b1, .int .u8 b2, .int .u16 b3, .int .u16 b4])) w = .ok ((a0 == b0) && ((a1 == b1) && ((a2 == b2) && ((a3 == b3) && (a4 == b4))))) w := by
  have h0 := fun (k : IntKind) (x y : Int) (w : World) => run_equalIn_int (P := Tryz.prog) w n 43 k .u32 x y Tryz.underlying43
  have h1 := fun (k : IntKind) (x y : Int) (w : World) => run_equalIn_int (P := Tryz.prog) w n 5 k .u8 x y Tryz.underlying5
  have h2 := fun (k : IntKind) (x y : Int) (w : World) => run_equalIn_int (P := Tryz.prog) w n 47 k .u16 x y Tryz.underlying47
  rw [run_equalIn_struct (P := Tryz.prog) w (n + 1) 49 _ _ (by kernel_rfl) Tryz.stoodInHeld49]
  have hfl : Tryz.prog.fieldsOf 49 = match Tryz.prog.underlying 49 with | some (.struct fs) => fs | _ => #[] := rfl
  rw [hfl, Tryz.underlying49]
  simp only [Op.eqFields]
  simp [part, Tryz.runUnderlying43, Tryz.isAgg43, Tryz.sizeOf43, Tryz.runUnderlying5, Tryz.isAgg5, Tryz.sizeOf5, Tryz.runUnderlying47, Tryz.isAgg47, Tryz.sizeOf47, h0, h1, h2]
  refine (Decidable.em (a0 = b0)).elim (fun hc0 => ?_) (fun hc0 => by simp [hc0])
  refine (Decidable.em (a1 = b1)).elim (fun hc1 => ?_) (fun hc1 => by simp [hc1])
  refine (Decidable.em (a2 = b2)).elim (fun hc2 => ?_) (fun hc2 => by simp [hc2])
  refine (Decidable.em (a3 = b3)).elim (fun hc3 => ?_) (fun hc3 => by simp [hc3])
  refine (Decidable.em (a4 = b4)).elim (fun hc4 => ?_) (fun hc4 => by simp [hc4])
  simp [hc0, hc1, hc2, hc3, hc4]

theorem eqok49 : EqOk Tryz.prog 49 [.int .u32, .int .u32, .int .u8, .int .u16, .int .u16] := by
  refine ⟨⟨_, Tryz.runUnderlying49, fun x y => rfl⟩, fun e l w hf => ?_, fun l m r w hf hg he => ?_, by kernel_rfl⟩
  · obtain ⟨a0, lhf0, ehf0, hf0⟩ := fits_int hf
    obtain ⟨a1, lhf1, ehf1, hf1⟩ := fits_int hf0
    obtain ⟨a2, lhf2, ehf2, hf2⟩ := fits_int hf1
    obtain ⟨a3, lhf3, ehf3, hf3⟩ := fits_int hf2
    obtain ⟨a4, lhf4, ehf4, hf4⟩ := fits_int hf3
    obtain rfl := fits_nil hf4
    subst ehf4
    subst ehf3
    subst ehf2
    subst ehf1
    subst ehf0
    show (Instr.checkKey e (9998 + 2) 49 (.agg #[.int .u32 a0, .int .u32 a1, .int .u8 a2, .int .u16 a3, .int .u16 a4])).run Tryz.prog w = .ok () w
    generalize 9998 = n
    simp only [Instr.checkKey, Sem.run_bind, Tryz.runUnderlying49, Result.andThen_ok]
    simp [← Array.forIn_toList, List.forIn_cons, Instr.checkKey, part, Tryz.runUnderlying43, Tryz.isAgg43, Tryz.sizeOf43, Tryz.runUnderlying5, Tryz.isAgg5, Tryz.sizeOf5, Tryz.runUnderlying47, Tryz.isAgg47, Tryz.sizeOf47]
  · obtain ⟨a0, lhf0, ehf0, hf0⟩ := fits_int hf
    obtain ⟨a1, lhf1, ehf1, hf1⟩ := fits_int hf0
    obtain ⟨a2, lhf2, ehf2, hf2⟩ := fits_int hf1
    obtain ⟨a3, lhf3, ehf3, hf3⟩ := fits_int hf2
    obtain ⟨a4, lhf4, ehf4, hf4⟩ := fits_int hf3
    obtain rfl := fits_nil hf4
    subst ehf4
    subst ehf3
    subst ehf2
    subst ehf1
    subst ehf0
    obtain ⟨b0, lhg0, ehg0, hg0⟩ := fits_int hg
    obtain ⟨b1, lhg1, ehg1, hg1⟩ := fits_int hg0
    obtain ⟨b2, lhg2, ehg2, hg2⟩ := fits_int hg1
    obtain ⟨b3, lhg3, ehg3, hg3⟩ := fits_int hg2
    obtain ⟨b4, lhg4, ehg4, hg4⟩ := fits_int hg3
    obtain rfl := fits_nil hg4
    subst ehg4
    subst ehg3
    subst ehg2
    subst ehg1
    subst ehg0
    have he := eqL_all he
    subst he
    simp only [eqB, Bool.and_true]
    exact (eqin49 9998 a0 a1 a2 a3 a4 b0 b1 b2 b3 b4 w).trans (by simp only [Bool.and_assoc])

theorem eqin63 (n : Nat) (a0 : Int) (a1 : Int) (b0 : Int) (b1 : Int) (w : World) : Sem.run Tryz.prog (Op.equalIn (n + 2) 63 (.agg #[.int .u32 a0, .int .i64 a1]) (.agg #[.int .u32 b0, .int .i64 b1])) w = .ok ((a0 == b0) && (a1 == b1)) w := by
  have h0 := fun (k : IntKind) (x y : Int) (w : World) => run_equalIn_int (P := Tryz.prog) w n 43 k .u32 x y Tryz.underlying43
  have h1 := fun (k : IntKind) (x y : Int) (w : World) => run_equalIn_int (P := Tryz.prog) w n 3 k .i64 x y Tryz.underlying3
  rw [run_equalIn_struct (P := Tryz.prog) w (n + 1) 63 _ _ (by kernel_rfl) Tryz.stoodInHeld63]
  have hfl : Tryz.prog.fieldsOf 63 = match Tryz.prog.underlying 63 with | some (.struct fs) => fs | _ => #[] := rfl
  rw [hfl, Tryz.underlying63]
  simp only [Op.eqFields]
  simp [part, Tryz.runUnderlying43, Tryz.isAgg43, Tryz.sizeOf43, Tryz.runUnderlying3, Tryz.isAgg3, Tryz.sizeOf3, h0, h1]
  refine (Decidable.em (a0 = b0)).elim (fun hc0 => ?_) (fun hc0 => by simp [hc0])
  refine (Decidable.em (a1 = b1)).elim (fun hc1 => ?_) (fun hc1 => by simp [hc1])
  simp [hc0, hc1]

theorem eqin90 (n : Nat) (a0 : Int) (a1 : Int) (b0 : Int) (b1 : Int) (w : World) : Sem.run Tryz.prog (Op.equalIn (n + 2) 90 (.agg #[.int .u32 a0, .int .u32 a1]) (.agg #[.int .u32 b0, .int .u32 b1])) w = .ok ((a0 == b0) && (a1 == b1)) w := by
  have h0 := fun (k : IntKind) (x y : Int) (w : World) => run_equalIn_int (P := Tryz.prog) w n 42 k .u32 x y Tryz.underlying42
  rw [run_equalIn_struct (P := Tryz.prog) w (n + 1) 90 _ _ (by kernel_rfl) Tryz.stoodInHeld90]
  have hfl : Tryz.prog.fieldsOf 90 = match Tryz.prog.underlying 90 with | some (.struct fs) => fs | _ => #[] := rfl
  rw [hfl, Tryz.underlying90]
  simp only [Op.eqFields]
  simp [part, Tryz.runUnderlying42, Tryz.isAgg42, Tryz.sizeOf42, h0]
  refine (Decidable.em (a0 = b0)).elim (fun hc0 => ?_) (fun hc0 => by simp [hc0])
  refine (Decidable.em (a1 = b1)).elim (fun hc1 => ?_) (fun hc1 => by simp [hc1])
  simp [hc0, hc1]

theorem eqin92 (n : Nat) (a0 : Bool) (a1 : Int) (a2 : Int) (a3 : Int) (a4 : Int) (a5 : Int) (a6 : Int) (a7 : Int) (a8 : Int) (a9 : Int) (b0 : Bool) (b1 : Int) (b2 : Int) (b3 : Int) (b4 : Int) (b5 : Int) (b6 : Int) (b7 : Int) (b8 : Int) (b9 : Int) (w : World) : Sem.run Tryz.prog (Op.equalIn (n + 3) 92 (.agg #[.bool a0, .int .i64 a1, .int .u32 a2, .int .i64 a3, .int .u32 a4, .int .i64 a5, .int .u32 a6, .int .u32 a7, .int .u32 a8, .int .u32 a9]) (.agg #[.bool b0, .int .i64 b1, .int .u32 b2, .int .i64 b3, .int .u32 b4, .int .i64 b5, .int .u32 b6, .int .u32 b7, .int .u32 b8, .int .u32 b9])) w = .ok ((a0 == b0) && ((a1 == b1) && ((((a2 == b2) && (a3 == b3))) && ((((a4 == b4) && (a5 == b5))) && ((((a6 == b6) && (a7 == b7))) && (((a8 == b8) && (a9 == b9)))))))) w := by
  have h0 := fun (x y : Bool) (w : World) => run_equalIn_bool (P := Tryz.prog) w (n + 1) 4 x y Tryz.underlying4
  have h1 := fun (k : IntKind) (x y : Int) (w : World) => run_equalIn_int (P := Tryz.prog) w (n + 1) 3 k .i64 x y Tryz.underlying3
  have g63 := eqin63 n
  have g90 := eqin90 n
  rw [run_equalIn_struct (P := Tryz.prog) w (n + 2) 92 _ _ (by kernel_rfl) Tryz.stoodInHeld92]
  have hfl : Tryz.prog.fieldsOf 92 = match Tryz.prog.underlying 92 with | some (.struct fs) => fs | _ => #[] := rfl
  rw [hfl, Tryz.underlying92]
  simp only [Op.eqFields]
  simp [part, Tryz.runUnderlying4, Tryz.isAgg4, Tryz.sizeOf4, Tryz.runUnderlying3, Tryz.isAgg3, Tryz.sizeOf3, Tryz.runUnderlying63, Tryz.isAgg63, Tryz.sizeOf63, Tryz.runUnderlying43, Tryz.isAgg43, Tryz.sizeOf43, Tryz.runUnderlying90, Tryz.isAgg90, Tryz.sizeOf90, Tryz.runUnderlying42, Tryz.isAgg42, Tryz.sizeOf42, h0, h1, g63, g90]
  refine (Decidable.em (a0 = b0)).elim (fun hc0 => ?_) (fun hc0 => by simp [hc0])
  refine (Decidable.em (a1 = b1)).elim (fun hc1 => ?_) (fun hc1 => by simp [hc1])
  refine (Decidable.em (a2 = b2)).elim (fun hc2 => ?_) (fun hc2 => by simp [hc2])
  refine (Decidable.em (a3 = b3)).elim (fun hc3 => ?_) (fun hc3 => by simp [hc3])
  refine (Decidable.em (a4 = b4)).elim (fun hc4 => ?_) (fun hc4 => by simp [hc4])
  refine (Decidable.em (a5 = b5)).elim (fun hc5 => ?_) (fun hc5 => by simp [hc5])
  refine (Decidable.em (a6 = b6)).elim (fun hc6 => ?_) (fun hc6 => by simp [hc6])
  refine (Decidable.em (a7 = b7)).elim (fun hc7 => ?_) (fun hc7 => by simp [hc7])
  refine (Decidable.em (a8 = b8)).elim (fun hc8 => ?_) (fun hc8 => by simp [hc8])
  refine (Decidable.em (a9 = b9)).elim (fun hc9 => ?_) (fun hc9 => by simp [hc9])
  simp [hc0, hc1, hc2, hc3, hc4, hc5, hc6, hc7, hc8, hc9]

theorem eqok92 : EqOk Tryz.prog 92 [.bool, .int .i64, .int .u32, .int .i64, .int .u32, .int .i64, .int .u32, .int .u32, .int .u32, .int .u32] := by
  refine ⟨⟨_, Tryz.runUnderlying92, fun x y => rfl⟩, fun e l w hf => ?_, fun l m r w hf hg he => ?_, by kernel_rfl⟩
  · obtain ⟨a0, lhf0, ehf0, hf0⟩ := fits_bool hf
    obtain ⟨a1, lhf1, ehf1, hf1⟩ := fits_int hf0
    obtain ⟨a2, lhf2, ehf2, hf2⟩ := fits_int hf1
    obtain ⟨a3, lhf3, ehf3, hf3⟩ := fits_int hf2
    obtain ⟨a4, lhf4, ehf4, hf4⟩ := fits_int hf3
    obtain ⟨a5, lhf5, ehf5, hf5⟩ := fits_int hf4
    obtain ⟨a6, lhf6, ehf6, hf6⟩ := fits_int hf5
    obtain ⟨a7, lhf7, ehf7, hf7⟩ := fits_int hf6
    obtain ⟨a8, lhf8, ehf8, hf8⟩ := fits_int hf7
    obtain ⟨a9, lhf9, ehf9, hf9⟩ := fits_int hf8
    obtain rfl := fits_nil hf9
    subst ehf9
    subst ehf8
    subst ehf7
    subst ehf6
    subst ehf5
    subst ehf4
    subst ehf3
    subst ehf2
    subst ehf1
    subst ehf0
    show (Instr.checkKey e (9997 + 3) 92 (.agg #[.bool a0, .int .i64 a1, .int .u32 a2, .int .i64 a3, .int .u32 a4, .int .i64 a5, .int .u32 a6, .int .u32 a7, .int .u32 a8, .int .u32 a9])).run Tryz.prog w = .ok () w
    generalize 9997 = n
    simp only [Instr.checkKey, Sem.run_bind, Tryz.runUnderlying92, Result.andThen_ok]
    simp [← Array.forIn_toList, List.forIn_cons, Instr.checkKey, part, Tryz.runUnderlying4, Tryz.isAgg4, Tryz.sizeOf4, Tryz.runUnderlying3, Tryz.isAgg3, Tryz.sizeOf3, Tryz.runUnderlying63, Tryz.isAgg63, Tryz.sizeOf63, Tryz.runUnderlying43, Tryz.isAgg43, Tryz.sizeOf43, Tryz.runUnderlying90, Tryz.isAgg90, Tryz.sizeOf90, Tryz.runUnderlying42, Tryz.isAgg42, Tryz.sizeOf42]
  · obtain ⟨a0, lhf0, ehf0, hf0⟩ := fits_bool hf
    obtain ⟨a1, lhf1, ehf1, hf1⟩ := fits_int hf0
    obtain ⟨a2, lhf2, ehf2, hf2⟩ := fits_int hf1
    obtain ⟨a3, lhf3, ehf3, hf3⟩ := fits_int hf2
    obtain ⟨a4, lhf4, ehf4, hf4⟩ := fits_int hf3
    obtain ⟨a5, lhf5, ehf5, hf5⟩ := fits_int hf4
    obtain ⟨a6, lhf6, ehf6, hf6⟩ := fits_int hf5
    obtain ⟨a7, lhf7, ehf7, hf7⟩ := fits_int hf6
    obtain ⟨a8, lhf8, ehf8, hf8⟩ := fits_int hf7
    obtain ⟨a9, lhf9, ehf9, hf9⟩ := fits_int hf8
    obtain rfl := fits_nil hf9
    subst ehf9
    subst ehf8
    subst ehf7
    subst ehf6
    subst ehf5
    subst ehf4
    subst ehf3
    subst ehf2
    subst ehf1
    subst ehf0
    obtain ⟨b0, lhg0, ehg0, hg0⟩ := fits_bool hg
    obtain ⟨b1, lhg1, ehg1, hg1⟩ := fits_int hg0
    obtain ⟨b2, lhg2, ehg2, hg2⟩ := fits_int hg1
    obtain ⟨b3, lhg3, ehg3, hg3⟩ := fits_int hg2
    obtain ⟨b4, lhg4, ehg4, hg4⟩ := fits_int hg3
    obtain ⟨b5, lhg5, ehg5, hg5⟩ := fits_int hg4
    obtain ⟨b6, lhg6, ehg6, hg6⟩ := fits_int hg5
    obtain ⟨b7, lhg7, ehg7, hg7⟩ := fits_int hg6
    obtain ⟨b8, lhg8, ehg8, hg8⟩ := fits_int hg7
    obtain ⟨b9, lhg9, ehg9, hg9⟩ := fits_int hg8
    obtain rfl := fits_nil hg9
    subst ehg9
    subst ehg8
    subst ehg7
    subst ehg6
    subst ehg5
    subst ehg4
    subst ehg3
    subst ehg2
    subst ehg1
    subst ehg0
    have he := eqL_all he
    subst he
    simp only [eqB, Bool.and_true]
    exact (eqin92 9997 a0 a1 a2 a3 a4 a5 a6 a7 a8 a9 b0 b1 b2 b3 b4 b5 b6 b7 b8 b9 w).trans (by simp only [Bool.and_assoc])

noncomputable def tys : Tys := ⟨tab, [(276, [.int .i32, .int .i32, .int .i32]), (332, [.int .i32, .int .i32, .int .i32]), (293, [.int .u64, .int .u64]), (49, [.int .u32, .int .u32, .int .u8, .int .u16, .int .u16]), (92, [.bool, .int .i64, .int .u32, .int .i64, .int .u32, .int .i64, .int .u32, .int .u32, .int .u32, .int .u32])]⟩
theorem tys_ok : TysOk Tryz.prog tys := ⟨tab_ok, fun t ls h => by
  by_cases h276 : t = 276
  · subst h276; cases h; exact eqok276
  by_cases h332 : t = 332
  · subst h332; cases h; exact eqok332
  by_cases h293 : t = 293
  · subst h293; cases h; exact eqok293
  by_cases h49 : t = 49
  · subst h49; cases h; exact eqok49
  by_cases h92 : t = 92
  · subst h92; cases h; exact eqok92
  exact absurd h (by simp [tys, lk, show Nat.beq 276 t = false from Bool.eq_false_iff.2 fun h => h276 (Nat.eq_of_beq_eq_true h).symm, show Nat.beq 332 t = false from Bool.eq_false_iff.2 fun h => h332 (Nat.eq_of_beq_eq_true h).symm, show Nat.beq 293 t = false from Bool.eq_false_iff.2 fun h => h293 (Nat.eq_of_beq_eq_true h).symm, show Nat.beq 49 t = false from Bool.eq_false_iff.2 fun h => h49 (Nat.eq_of_beq_eq_true h).symm, show Nat.beq 92 t = false from Bool.eq_false_iff.2 fun h => h92 (Nat.eq_of_beq_eq_true h).symm])⟩
noncomputable def fnl : List (FuncId × Func) := [(2, Tryz.f2), (3, Tryz.f3), (4, Tryz.f4), (5, Tryz.f5), (6, Tryz.f6), (7, Tryz.f7), (8, Tryz.f8), (9, Tryz.f9), (10, Tryz.f10), (11, Tryz.f11), (12, Tryz.f12), (13, Tryz.f13), (14, Tryz.f14), (15, Tryz.f15), (16, Tryz.f16), (17, Tryz.f17), (18, Tryz.f18), (19, Tryz.f19), (20, Tryz.f20), (21, Tryz.f21), (22, Tryz.f22), (23, Tryz.f23), (24, Tryz.f24), (25, Tryz.f25), (26, Tryz.f26), (27, Tryz.f27), (28, Tryz.f28), (29, Tryz.f29), (30, Tryz.f30), (31, Tryz.f31), (32, Tryz.f32), (33, Tryz.f33), (34, Tryz.f34), (35, Tryz.f35), (36, Tryz.f36), (37, Tryz.f37), (38, Tryz.f38), (39, Tryz.f39), (40, Tryz.f40), (41, Tryz.f41), (42, Tryz.f42), (43, Tryz.f43), (44, Tryz.f44), (45, Tryz.f45), (46, Tryz.f46), (47, Tryz.f47), (48, Tryz.f48), (49, Tryz.f49), (50, Tryz.f50), (51, Tryz.f51), (52, Tryz.f52), (53, Tryz.f53), (54, Tryz.f54), (55, Tryz.f55), (56, Tryz.f56), (57, Tryz.f57), (58, Tryz.f58), (59, Tryz.f59), (60, Tryz.f60), (61, Tryz.f61), (62, Tryz.f62), (63, Tryz.f63), (64, Tryz.f64), (65, Tryz.f65), (66, Tryz.f66), (67, Tryz.f67), (68, Tryz.f68), (69, Tryz.f69), (70, Tryz.f70), (71, Tryz.f71), (72, Tryz.f72), (73, Tryz.f73), (74, Tryz.f74), (75, Tryz.f75), (76, Tryz.f76), (77, Tryz.f77), (78, Tryz.f78), (79, Tryz.f79), (80, Tryz.f80), (81, Tryz.f81), (82, Tryz.f82), (83, Tryz.f83), (84, Tryz.f84), (85, Tryz.f85), (86, Tryz.f86), (87, Tryz.f87), (88, Tryz.f88), (89, Tryz.f89), (90, Tryz.f90), (91, Tryz.f91), (92, Tryz.f92), (93, Tryz.f93), (94, Tryz.f94), (95, Tryz.f95), (96, Tryz.f96), (97, Tryz.f97), (98, Tryz.f98), (99, Tryz.f99), (100, Tryz.f100), (101, Tryz.f101), (102, Tryz.f102), (103, Tryz.f103), (104, Tryz.f104), (105, Tryz.f105), (106, Tryz.f106), (107, Tryz.f107), (108, Tryz.f108), (109, Tryz.f109), (110, Tryz.f110), (111, Tryz.f111), (112, Tryz.f112), (113, Tryz.f113), (114, Tryz.f114), (115, Tryz.f115), (116, Tryz.f116), (117, Tryz.f117), (118, Tryz.f118), (119, Tryz.f119), (120, Tryz.f120), (121, Tryz.f121), (122, Tryz.f122), (123, Tryz.f123), (124, Tryz.f124), (125, Tryz.f125), (126, Tryz.f126), (127, Tryz.f127), (128, Tryz.f128), (129, Tryz.f129), (130, Tryz.f130), (131, Tryz.f131), (132, Tryz.f132), (133, Tryz.f133), (134, Tryz.f134), (135, Tryz.f135), (136, Tryz.f136), (137, Tryz.f137), (138, Tryz.f138), (139, Tryz.f139), (140, Tryz.f140), (141, Tryz.f141), (142, Tryz.f142), (143, Tryz.f143), (144, Tryz.f144), (145, Tryz.f145), (146, Tryz.f146), (147, Tryz.f147), (148, Tryz.f148), (149, Tryz.f149), (150, Tryz.f150), (151, Tryz.f151), (152, Tryz.f152), (153, Tryz.f153), (154, Tryz.f154), (155, Tryz.f155), (156, Tryz.f156), (157, Tryz.f157), (158, Tryz.f158), (159, Tryz.f159), (160, Tryz.f160), (161, Tryz.f161), (162, Tryz.f162), (163, Tryz.f163), (164, Tryz.f164), (165, Tryz.f165), (166, Tryz.f166), (167, Tryz.f167), (168, Tryz.f168), (169, Tryz.f169), (170, Tryz.f170), (171, Tryz.f171), (172, Tryz.f172), (173, Tryz.f173), (174, Tryz.f174), (175, Tryz.f175), (176, Tryz.f176), (177, Tryz.f177), (178, Tryz.f178), (179, Tryz.f179), (180, Tryz.f180), (181, Tryz.f181), (182, Tryz.f182), (183, Tryz.f183), (184, Tryz.f184), (185, Tryz.f185), (186, Tryz.f186), (187, Tryz.f187), (188, Tryz.f188), (189, Tryz.f189), (190, Tryz.f190), (191, Tryz.f191), (192, Tryz.f192), (193, Tryz.f193), (194, Tryz.f194), (195, Tryz.f195), (196, Tryz.f196), (197, Tryz.f197), (198, Tryz.f198), (199, Tryz.f199), (200, Tryz.f200), (201, Tryz.f201), (202, Tryz.f202), (203, Tryz.f203), (204, Tryz.f204), (205, Tryz.f205), (206, Tryz.f206), (207, Tryz.f207), (208, Tryz.f208), (209, Tryz.f209), (210, Tryz.f210), (211, Tryz.f211), (212, Tryz.f212), (213, Tryz.f213), (214, Tryz.f214), (215, Tryz.f215), (216, Tryz.f216), (217, Tryz.f217), (218, Tryz.f218), (219, Tryz.f219), (220, Tryz.f220), (221, Tryz.f221), (222, Tryz.f222), (223, Tryz.f223), (224, Tryz.f224), (225, Tryz.f225), (226, Tryz.f226), (227, Tryz.f227), (228, Tryz.f228), (229, Tryz.f229), (230, Tryz.f230), (231, Tryz.f231), (232, Tryz.f232), (233, Tryz.f233), (234, Tryz.f234), (235, Tryz.f235), (236, Tryz.f236), (237, Tryz.f237), (238, Tryz.f238), (239, Tryz.f239), (240, Tryz.f240), (241, Tryz.f241), (242, Tryz.f242), (243, Tryz.f243), (244, Tryz.f244), (245, Tryz.f245), (246, Tryz.f246), (247, Tryz.f247), (248, Tryz.f248), (249, Tryz.f249), (250, Tryz.f250), (251, Tryz.f251), (252, Tryz.f252), (253, Tryz.f253), (254, Tryz.f254), (255, Tryz.f255), (256, Tryz.f256), (257, Tryz.f257), (258, Tryz.f258), (259, Tryz.f259), (260, Tryz.f260), (261, Tryz.f261), (262, Tryz.f262), (263, Tryz.f263), (264, Tryz.f264), (265, Tryz.f265), (266, Tryz.f266), (267, Tryz.f267), (268, Tryz.f268), (269, Tryz.f269), (270, Tryz.f270), (271, Tryz.f271), (272, Tryz.f272), (273, Tryz.f273), (274, Tryz.f274), (275, Tryz.f275), (276, Tryz.f276), (277, Tryz.f277), (278, Tryz.f278), (279, Tryz.f279), (280, Tryz.f280), (281, Tryz.f281), (282, Tryz.f282), (283, Tryz.f283), (284, Tryz.f284), (285, Tryz.f285), (286, Tryz.f286), (287, Tryz.f287), (288, Tryz.f288), (289, Tryz.f289), (290, Tryz.f290), (291, Tryz.f291), (292, Tryz.f292), (293, Tryz.f293), (294, Tryz.f294), (295, Tryz.f295), (296, Tryz.f296), (297, Tryz.f297), (298, Tryz.f298), (299, Tryz.f299), (300, Tryz.f300), (301, Tryz.f301), (302, Tryz.f302), (303, Tryz.f303), (304, Tryz.f304)]
theorem fnl_ok : FnlOk Tryz.prog fnl := ⟨Tryz.func2, Tryz.call2, Tryz.func3, Tryz.call3, Tryz.func4, Tryz.call4, Tryz.func5, Tryz.call5, Tryz.func6, Tryz.call6, Tryz.func7, Tryz.call7, Tryz.func8, Tryz.call8, Tryz.func9, Tryz.call9, Tryz.func10, Tryz.call10, Tryz.func11, Tryz.call11, Tryz.func12, Tryz.call12, Tryz.func13, Tryz.call13, Tryz.func14, Tryz.call14, Tryz.func15, Tryz.call15, Tryz.func16, Tryz.call16, Tryz.func17, Tryz.call17, Tryz.func18, Tryz.call18, Tryz.func19, Tryz.call19, Tryz.func20, Tryz.call20, Tryz.func21, Tryz.call21, Tryz.func22, Tryz.call22, Tryz.func23, Tryz.call23, Tryz.func24, Tryz.call24, Tryz.func25, Tryz.call25, Tryz.func26, Tryz.call26, Tryz.func27, Tryz.call27, Tryz.func28, Tryz.call28, Tryz.func29, Tryz.call29, Tryz.func30, Tryz.call30, Tryz.func31, Tryz.call31, Tryz.func32, Tryz.call32, Tryz.func33, Tryz.call33, Tryz.func34, Tryz.call34, Tryz.func35, Tryz.call35, Tryz.func36, Tryz.call36, Tryz.func37, Tryz.call37, Tryz.func38, Tryz.call38, Tryz.func39, Tryz.call39, Tryz.func40, Tryz.call40, Tryz.func41, Tryz.call41, Tryz.func42, Tryz.call42, Tryz.func43, Tryz.call43, Tryz.func44, Tryz.call44, Tryz.func45, Tryz.call45, Tryz.func46, Tryz.call46, Tryz.func47, Tryz.call47, Tryz.func48, Tryz.call48, Tryz.func49, Tryz.call49, Tryz.func50, Tryz.call50, Tryz.func51, Tryz.call51, Tryz.func52, Tryz.call52, Tryz.func53, Tryz.call53, Tryz.func54, Tryz.call54, Tryz.func55, Tryz.call55, Tryz.func56, Tryz.call56, Tryz.func57, Tryz.call57, Tryz.func58, Tryz.call58, Tryz.func59, Tryz.call59, Tryz.func60, Tryz.call60, Tryz.func61, Tryz.call61, Tryz.func62, Tryz.call62, Tryz.func63, Tryz.call63, Tryz.func64, Tryz.call64, Tryz.func65, Tryz.call65, Tryz.func66, Tryz.call66, Tryz.func67, Tryz.call67, Tryz.func68, Tryz.call68, Tryz.func69, Tryz.call69, Tryz.func70, Tryz.call70, Tryz.func71, Tryz.call71, Tryz.func72, Tryz.call72, Tryz.func73, Tryz.call73, Tryz.func74, Tryz.call74, Tryz.func75, Tryz.call75, Tryz.func76, Tryz.call76, Tryz.func77, Tryz.call77, Tryz.func78, Tryz.call78, Tryz.func79, Tryz.call79, Tryz.func80, Tryz.call80, Tryz.func81, Tryz.call81, Tryz.func82, Tryz.call82, Tryz.func83, Tryz.call83, Tryz.func84, Tryz.call84, Tryz.func85, Tryz.call85, Tryz.func86, Tryz.call86, Tryz.func87, Tryz.call87, Tryz.func88, Tryz.call88, Tryz.func89, Tryz.call89, Tryz.func90, Tryz.call90, Tryz.func91, Tryz.call91, Tryz.func92, Tryz.call92, Tryz.func93, Tryz.call93, Tryz.func94, Tryz.call94, Tryz.func95, Tryz.call95, Tryz.func96, Tryz.call96, Tryz.func97, Tryz.call97, Tryz.func98, Tryz.call98, Tryz.func99, Tryz.call99, Tryz.func100, Tryz.call100, Tryz.func101, Tryz.call101, Tryz.func102, Tryz.call102, Tryz.func103, Tryz.call103, Tryz.func104, Tryz.call104, Tryz.func105, Tryz.call105, Tryz.func106, Tryz.call106, Tryz.func107, Tryz.call107, Tryz.func108, Tryz.call108, Tryz.func109, Tryz.call109, Tryz.func110, Tryz.call110, Tryz.func111, Tryz.call111, Tryz.func112, Tryz.call112, Tryz.func113, Tryz.call113, Tryz.func114, Tryz.call114, Tryz.func115, Tryz.call115, Tryz.func116, Tryz.call116, Tryz.func117, Tryz.call117, Tryz.func118, Tryz.call118, Tryz.func119, Tryz.call119, Tryz.func120, Tryz.call120, Tryz.func121, Tryz.call121, Tryz.func122, Tryz.call122, Tryz.func123, Tryz.call123, Tryz.func124, Tryz.call124, Tryz.func125, Tryz.call125, Tryz.func126, Tryz.call126, Tryz.func127, Tryz.call127, Tryz.func128, Tryz.call128, Tryz.func129, Tryz.call129, Tryz.func130, Tryz.call130, Tryz.func131, Tryz.call131, Tryz.func132, Tryz.call132, Tryz.func133, Tryz.call133, Tryz.func134, Tryz.call134, Tryz.func135, Tryz.call135, Tryz.func136, Tryz.call136, Tryz.func137, Tryz.call137, Tryz.func138, Tryz.call138, Tryz.func139, Tryz.call139, Tryz.func140, Tryz.call140, Tryz.func141, Tryz.call141, Tryz.func142, Tryz.call142, Tryz.func143, Tryz.call143, Tryz.func144, Tryz.call144, Tryz.func145, Tryz.call145, Tryz.func146, Tryz.call146, Tryz.func147, Tryz.call147, Tryz.func148, Tryz.call148, Tryz.func149, Tryz.call149, Tryz.func150, Tryz.call150, Tryz.func151, Tryz.call151, Tryz.func152, Tryz.call152, Tryz.func153, Tryz.call153, Tryz.func154, Tryz.call154, Tryz.func155, Tryz.call155, Tryz.func156, Tryz.call156, Tryz.func157, Tryz.call157, Tryz.func158, Tryz.call158, Tryz.func159, Tryz.call159, Tryz.func160, Tryz.call160, Tryz.func161, Tryz.call161, Tryz.func162, Tryz.call162, Tryz.func163, Tryz.call163, Tryz.func164, Tryz.call164, Tryz.func165, Tryz.call165, Tryz.func166, Tryz.call166, Tryz.func167, Tryz.call167, Tryz.func168, Tryz.call168, Tryz.func169, Tryz.call169, Tryz.func170, Tryz.call170, Tryz.func171, Tryz.call171, Tryz.func172, Tryz.call172, Tryz.func173, Tryz.call173, Tryz.func174, Tryz.call174, Tryz.func175, Tryz.call175, Tryz.func176, Tryz.call176, Tryz.func177, Tryz.call177, Tryz.func178, Tryz.call178, Tryz.func179, Tryz.call179, Tryz.func180, Tryz.call180, Tryz.func181, Tryz.call181, Tryz.func182, Tryz.call182, Tryz.func183, Tryz.call183, Tryz.func184, Tryz.call184, Tryz.func185, Tryz.call185, Tryz.func186, Tryz.call186, Tryz.func187, Tryz.call187, Tryz.func188, Tryz.call188, Tryz.func189, Tryz.call189, Tryz.func190, Tryz.call190, Tryz.func191, Tryz.call191, Tryz.func192, Tryz.call192, Tryz.func193, Tryz.call193, Tryz.func194, Tryz.call194, Tryz.func195, Tryz.call195, Tryz.func196, Tryz.call196, Tryz.func197, Tryz.call197, Tryz.func198, Tryz.call198, Tryz.func199, Tryz.call199, Tryz.func200, Tryz.call200, Tryz.func201, Tryz.call201, Tryz.func202, Tryz.call202, Tryz.func203, Tryz.call203, Tryz.func204, Tryz.call204, Tryz.func205, Tryz.call205, Tryz.func206, Tryz.call206, Tryz.func207, Tryz.call207, Tryz.func208, Tryz.call208, Tryz.func209, Tryz.call209, Tryz.func210, Tryz.call210, Tryz.func211, Tryz.call211, Tryz.func212, Tryz.call212, Tryz.func213, Tryz.call213, Tryz.func214, Tryz.call214, Tryz.func215, Tryz.call215, Tryz.func216, Tryz.call216, Tryz.func217, Tryz.call217, Tryz.func218, Tryz.call218, Tryz.func219, Tryz.call219, Tryz.func220, Tryz.call220, Tryz.func221, Tryz.call221, Tryz.func222, Tryz.call222, Tryz.func223, Tryz.call223, Tryz.func224, Tryz.call224, Tryz.func225, Tryz.call225, Tryz.func226, Tryz.call226, Tryz.func227, Tryz.call227, Tryz.func228, Tryz.call228, Tryz.func229, Tryz.call229, Tryz.func230, Tryz.call230, Tryz.func231, Tryz.call231, Tryz.func232, Tryz.call232, Tryz.func233, Tryz.call233, Tryz.func234, Tryz.call234, Tryz.func235, Tryz.call235, Tryz.func236, Tryz.call236, Tryz.func237, Tryz.call237, Tryz.func238, Tryz.call238, Tryz.func239, Tryz.call239, Tryz.func240, Tryz.call240, Tryz.func241, Tryz.call241, Tryz.func242, Tryz.call242, Tryz.func243, Tryz.call243, Tryz.func244, Tryz.call244, Tryz.func245, Tryz.call245, Tryz.func246, Tryz.call246, Tryz.func247, Tryz.call247, Tryz.func248, Tryz.call248, Tryz.func249, Tryz.call249, Tryz.func250, Tryz.call250, Tryz.func251, Tryz.call251, Tryz.func252, Tryz.call252, Tryz.func253, Tryz.call253, Tryz.func254, Tryz.call254, Tryz.func255, Tryz.call255, Tryz.func256, Tryz.call256, Tryz.func257, Tryz.call257, Tryz.func258, Tryz.call258, Tryz.func259, Tryz.call259, Tryz.func260, Tryz.call260, Tryz.func261, Tryz.call261, Tryz.func262, Tryz.call262, Tryz.func263, Tryz.call263, Tryz.func264, Tryz.call264, Tryz.func265, Tryz.call265, Tryz.func266, Tryz.call266, Tryz.func267, Tryz.call267, Tryz.func268, Tryz.call268, Tryz.func269, Tryz.call269, Tryz.func270, Tryz.call270, Tryz.func271, Tryz.call271, Tryz.func272, Tryz.call272, Tryz.func273, Tryz.call273, Tryz.func274, Tryz.call274, Tryz.func275, Tryz.call275, Tryz.func276, Tryz.call276, Tryz.func277, Tryz.call277, Tryz.func278, Tryz.call278, Tryz.func279, Tryz.call279, Tryz.func280, Tryz.call280, Tryz.func281, Tryz.call281, Tryz.func282, Tryz.call282, Tryz.func283, Tryz.call283, Tryz.func284, Tryz.call284, Tryz.func285, Tryz.call285, Tryz.func286, Tryz.call286, Tryz.func287, Tryz.call287, Tryz.func288, Tryz.call288, Tryz.func289, Tryz.call289, Tryz.func290, Tryz.call290, Tryz.func291, Tryz.call291, Tryz.func292, Tryz.call292, Tryz.func293, Tryz.call293, Tryz.func294, Tryz.call294, Tryz.func295, Tryz.call295, Tryz.func296, Tryz.call296, Tryz.func297, Tryz.call297, Tryz.func298, Tryz.call298, Tryz.func299, Tryz.call299, Tryz.func300, Tryz.call300, Tryz.func301, Tryz.call301, Tryz.func302, Tryz.call302, Tryz.func303, Tryz.call303, Tryz.func304, Tryz.call304, trivial⟩
noncomputable def fnC : T CFn := fnsT tys fnl
def ext : Exts := fun _ => none
theorem ext_ok : ∀ f g, ext f = some g → ∀ τ vs v xs w, g vs = some v → CV.rels τ vs xs → ∃ x, v.rel τ x ∧ (callFunc f xs.toArray).run Tryz.prog w = .ok (.value x) w := fun f g hg => by cases hg
theorem env_cx : EnvOk Tryz.prog tys fnC.get ext := ⟨tys_ok, fnsT_ok fnl_ok, ext_ok, mixed_ok⟩
end Go.Proofs.YtkiioneimheciaaGreat

/- What the functions do, printed by a program of mine out of their code; Lean checks each equation. -/
import Derived.Test.YtlaojbclmcageaaA25
import Derived.Test.YtlaojbclmcageaaProg
import Derived.KernelRfl
set_option maxRecDepth 100000
set_option linter.unusedVariables false
namespace Go.Proofs.Ytlaojbclmcageaa
open Go Go.AM Go.Proofs
def ti3 : TI := { agg := false, size := 1, bytes := 8, zero := [.d (.int .i64 0)], k := .int .i64 }
def ti4 : TI := { agg := false, size := 1, bytes := 1, zero := [.d (.bool false)], k := .bool }
def ti5 : TI := { agg := false, size := 1, bytes := 1, zero := [.d (.int .u8 0)], k := .int .u8 }
def ti22 : TI := { agg := false, size := 1, bytes := 24, zero := [.d (.sl true [])], k := .slice 4 }
def ti23 : TI := { agg := false, size := 1, bytes := 24, zero := [.d (.sl true [])], k := .slice 66 }
def ti33 : TI := { agg := false, size := 1, bytes := 24, zero := [.d (.sl true [])], k := .slice 3 }
def ti50 : TI := { agg := false, size := 1, bytes := 24, zero := [.d (.sl true [])], k := .slice 5 }
def ti66 : TI := { agg := true, size := 2, bytes := 16, zero := [.d (.int .i64 0), .d (.int .i64 0)], k := .struct [(0, 3), (1, 3)] }
theorem ti66_f0 {i v e o : Nat} : fieldA ti66 (.ptr i v e o) 0 = some (.ptr i v e (o + 0)) := rfl
theorem ti66_v0 {cs : List Dat} {o : Nat} : fieldA ti66 (.vptr cs o) 0 = some (.vptr cs (o + 0)) := rfl
theorem ti66_f1 {i v e o : Nat} : fieldA ti66 (.ptr i v e o) 1 = some (.ptr i v e (o + 1)) := rfl
theorem ti66_v1 {cs : List Dat} {o : Nat} : fieldA ti66 (.vptr cs o) 1 = some (.vptr cs (o + 1)) := rfl
def ti81 : TI := { agg := false, size := 1, bytes := 24, zero := [.d (.sl true [])], k := .slice 23 }
theorem bd66 {parts : List (Nat × AV)} : buildA Try.prog ti66 parts = (fillA (fun i => (([(0, 3), (1, 3)] : List (Nat × TypeId))[i]?).map fun f => (f.1, Try.prog.cellsOf f.2)) [.d (.int .i64 0), .d (.int .i64 0)] parts).map AV.agg := rfl
theorem cell3 : Try.prog.cellsOf 3 = 1 := by kernel_rfl
theorem cell4 : Try.prog.cellsOf 4 = 1 := by kernel_rfl
theorem cell5 : Try.prog.cellsOf 5 = 1 := by kernel_rfl
theorem cell23 : Try.prog.cellsOf 23 = 1 := by kernel_rfl
theorem cell66 : Try.prog.cellsOf 66 = 2 := by kernel_rfl
/-! tithing/tithinglaw15.ExtentAllots -/
def pol3 : Pol := { lend := fun _ => true, keep := [], frz := fun _ => [], perm := fun r => [], bf := fun r => [], ret := true }
def S3 (γ : Calld) (a0 a1 : AV) (H : AHeap) (K : AV → AHeap → Prop) : Prop :=
  frzLK [a0, a1] H fun l3 H4 => γ 12 l3 H4 fun v1 H2 => optA (extractA v1 0) fun v5 => optA (extractA v1 1) fun v6 => optA (extractA v1 2) fun v7 => frzLK [a0, a1] H2 fun l10 H11 => γ 13 l10 H11 fun v8 H9 => optA (extractA v8 0) fun v12 => optA (extractA v8 1) fun v13 => optA (extractA v8 2) fun v14 => frzLK [a0] H9 fun l17 H18 => γ 14 l17 H18 fun v15 H16 => optA (extractA v15 0) fun v19 => optA (extractA v15 1) fun v20 => frzLK [a0] H16 fun l23 H24 => γ 15 l23 H24 fun v21 H22 => optA (extractA v21 0) fun v25 => optA (extractA v21 1) fun v26 => frzLK [v5, v12] H22 fun l29 H30 => γ 16 l29 H30 fun v27 H28 => ifA v27 (frzLK [v6, v13] H28 fun l33 H34 => γ 17 l33 H34 fun v31 H32 => ifA v31 (optA (intA .eql v7 v14) fun v35 => ifA v35 (optA (intA .eql v19 v25) fun v36 => ifA v36 (optA (intA .eql v20 v26) fun v37 => ifA v37 (frzLK [] H32 fun l40 H41 => γ 18 l40 H41 fun v38 H39 => retF [v38] H39 K) (retF [.d (.bool false)] H32 K)) (retF [.d (.bool false)] H32 K)) (retF [.d (.bool false)] H32 K)) (retF [.d (.bool false)] H32 K)) (retF [.d (.bool false)] H28 K)
noncomputable def r3_0 : List Oper := regOps Try.f3 0
noncomputable def r3_1 : List Oper := regOps Try.f3 1
noncomputable def r3_2 : List Oper := regOps Try.f3 2
noncomputable def r3_3 : List Oper := regOps Try.f3 3
noncomputable def r3_4 : List Oper := regOps Try.f3 4
noncomputable def r3_5 : List Oper := regOps Try.f3 5
noncomputable def c3 : Code := (.seq (.region 0 #[opAt r3_0 0] false) (.seq (.region 1 #[opAt r3_1 0, opAt r3_1 1, opAt r3_1 2, opAt r3_1 3, opAt r3_1 4, opAt r3_1 5, opAt r3_1 6, opAt r3_1 7, opAt r3_1 8, opAt r3_1 9] false) (.seq (.region 2 #[opAt r3_2 0, opAt r3_2 1, opAt r3_2 2, opAt r3_2 3, opAt r3_2 4, opAt r3_2 5, opAt r3_2 6, opAt r3_2 7, opAt r3_2 8, opAt r3_2 9] false) (.seq (.region 3 #[opAt r3_3 0, opAt r3_3 1, opAt r3_3 2, opAt r3_3 3, opAt r3_3 4, opAt r3_3 5, opAt r3_3 6] false) (.seq (.region 4 #[opAt r3_4 0, opAt r3_4 1, opAt r3_4 2, opAt r3_4 3, opAt r3_4 4, opAt r3_4 5, opAt r3_4 6] false) (.seq (.region 5 #[opAt r3_5 0, opAt r3_5 1, opAt r3_5 2, opAt r3_5 3, opAt r3_5 4, opAt r3_5 5, opAt r3_5 6, opAt r3_5 7, opAt r3_5 8, opAt r3_5 9, opAt r3_5 10, opAt r3_5 11, opAt r3_5 12, opAt r3_5 13, opAt r3_5 14, opAt r3_5 15, opAt r3_5 16, opAt r3_5 17, opAt r3_5 18, opAt r3_5 19, opAt r3_5 20, opAt r3_5 21, opAt r3_5 22, opAt r3_5 23, opAt r3_5 24, opAt r3_5 25, opAt r3_5 26] false) .ret))))))
theorem c3_eq : Try.f3.body = some c3 := by kernel_rfl
theorem S3_eq (γ : Calld) (a0 a1 : AV) (H : AHeap) (K : AV → AHeap → Prop) : execC Try.prog γ pol3 Try.f3 c3 [a0, a1] H K = S3 γ a0 a1 H K := by kernel_rfl
theorem C3 {a0 a1 : AV} {H : AHeap} {K : AV → AHeap → Prop} (h : S3 (CallsA Try.prog) a0 a1 H K) : CallsA Try.prog 3 [a0, a1] H K :=
  calls_of Try.func3 (ne_of_beq_false (by kernel_rfl)) c3_eq (by kernel_rfl) (by rw [S3_eq]; exact h)
/-! tithing/tithinglaw15.ExtentOf -/
def pol4 : Pol := { lend := fun _ => true, keep := [], frz := fun _ => [], perm := fun r => [], bf := fun r => [], ret := true }
def S4 (γ : Calld) (a0 : AV) (H : AHeap) (K : AV → AHeap → Prop) : Prop :=
  optA (lenSl a0) fun v1 => optA (intA .gtr v1 (.d (.int .i64 400))) fun v2 => ifA v2 (frzLK [] H fun l5 H6 => γ 18 l5 H6 fun v3 H4 => retF [v3] H4 K) (frzLK [a0] H fun l9 H10 => γ 19 l9 H10 fun v7 H8 => optA (extractA v7 0) fun v11 => optA (extractA v7 1) fun v12 => frzLK [a0] H8 fun l15 H16 => γ 20 l15 H16 fun v13 H14 => optA (extractA v13 0) fun v17 => optA (extractA v13 1) fun v18 => frzLK [v11, v17] H14 fun l21 H22 => γ 16 l21 H22 fun v19 H20 => ifA v19 (optA (intA .eql v12 v18) fun v23 => ifA v23 (frzLK [] H20 fun l26 H27 => γ 18 l26 H27 fun v24 H25 => retF [v24] H25 K) (retF [.d (.bool false)] H20 K)) (retF [.d (.bool false)] H20 K))
noncomputable def r4_0 : List Oper := regOps Try.f4 0
noncomputable def r4_1 : List Oper := regOps Try.f4 1
noncomputable def r4_2 : List Oper := regOps Try.f4 2
noncomputable def r4_3 : List Oper := regOps Try.f4 3
noncomputable def r4_4 : List Oper := regOps Try.f4 4
noncomputable def r4_5 : List Oper := regOps Try.f4 5
noncomputable def c4 : Code := (.seq (.region 0 #[opAt r4_0 0] false) (.seq (.seq (.region 1 #[opAt r4_1 0, opAt r4_1 1, opAt r4_1 2] false) (.cond (.tmp 9) (.seq (.region 2 #[opAt r4_2 0, opAt r4_2 1] false) .ret) .skip)) (.seq (.region 3 #[opAt r4_3 0, opAt r4_3 1, opAt r4_3 2, opAt r4_3 3, opAt r4_3 4, opAt r4_3 5, opAt r4_3 6] false) (.seq (.region 4 #[opAt r4_4 0, opAt r4_4 1, opAt r4_4 2, opAt r4_4 3, opAt r4_4 4, opAt r4_4 5, opAt r4_4 6] false) (.seq (.region 5 #[opAt r4_5 0, opAt r4_5 1, opAt r4_5 2, opAt r4_5 3, opAt r4_5 4, opAt r4_5 5, opAt r4_5 6, opAt r4_5 7, opAt r4_5 8, opAt r4_5 9, opAt r4_5 10, opAt r4_5 11] false) .ret)))))
theorem c4_eq : Try.f4.body = some c4 := by kernel_rfl
theorem S4_eq (γ : Calld) (a0 : AV) (H : AHeap) (K : AV → AHeap → Prop) : execC Try.prog γ pol4 Try.f4 c4 [a0] H K = S4 γ a0 H K := by kernel_rfl
theorem C4 {a0 : AV} {H : AHeap} {K : AV → AHeap → Prop} (h : S4 (CallsA Try.prog) a0 H K) : CallsA Try.prog 4 [a0] H K :=
  calls_of Try.func4 (ne_of_beq_false (by kernel_rfl)) c4_eq (by kernel_rfl) (by rw [S4_eq]; exact h)
/-! tithing/tithinglaw15.ExtentMarks -/
def pol5 : Pol := { lend := fun _ => true, keep := [], frz := fun _ => [], perm := fun r => [], bf := fun r => [], ret := true }
def S5 (γ : Calld) (a0 a1 : AV) (H : AHeap) (K : AV → AHeap → Prop) : Prop :=
  optA (lenSl a1) fun v1 => optA (intA .gtr v1 (.d (.int .i64 400))) fun v2 => ifA v2 (frzLK [] H fun l5 H6 => γ 18 l5 H6 fun v3 H4 => retF [v3] H4 K) (frzLK [a0, a1] H fun l9 H10 => γ 21 l9 H10 fun v7 H8 => optA (extractA v7 0) fun v11 => optA (extractA v7 1) fun v12 => frzLK [a0, a1] H8 fun l15 H16 => γ 22 l15 H16 fun v13 H14 => optA (extractA v13 0) fun v17 => optA (extractA v13 1) fun v18 => frzLK [a0, a1] H14 fun l21 H22 => γ 23 l21 H22 fun v19 H20 => optA (extractA v19 0) fun v23 => optA (extractA v19 1) fun v24 => frzLK [a0, a1] H20 fun l27 H28 => γ 24 l27 H28 fun v25 H26 => optA (extractA v25 0) fun v29 => optA (extractA v25 1) fun v30 => frzLK [v11, v17] H26 fun l33 H34 => γ 17 l33 H34 fun v31 H32 => ifA v31 (optA (intA .eql v12 v18) fun v35 => ifA v35 (frzLK [v23, v29] H32 fun l38 H39 => γ 17 l38 H39 fun v36 H37 => ifA v36 (optA (intA .eql v24 v30) fun v40 => ifA v40 (frzLK [] H37 fun l43 H44 => γ 18 l43 H44 fun v41 H42 => retF [v41] H42 K) (retF [.d (.bool false)] H37 K)) (retF [.d (.bool false)] H37 K)) (retF [.d (.bool false)] H32 K)) (retF [.d (.bool false)] H32 K))
noncomputable def r5_0 : List Oper := regOps Try.f5 0
noncomputable def r5_1 : List Oper := regOps Try.f5 1
noncomputable def r5_2 : List Oper := regOps Try.f5 2
noncomputable def r5_3 : List Oper := regOps Try.f5 3
noncomputable def r5_4 : List Oper := regOps Try.f5 4
noncomputable def r5_5 : List Oper := regOps Try.f5 5
noncomputable def r5_6 : List Oper := regOps Try.f5 6
noncomputable def r5_7 : List Oper := regOps Try.f5 7
noncomputable def c5 : Code := (.seq (.region 0 #[opAt r5_0 0] false) (.seq (.seq (.region 1 #[opAt r5_1 0, opAt r5_1 1, opAt r5_1 2] false) (.cond (.tmp 15) (.seq (.region 2 #[opAt r5_2 0, opAt r5_2 1] false) .ret) .skip)) (.seq (.region 3 #[opAt r5_3 0, opAt r5_3 1, opAt r5_3 2, opAt r5_3 3, opAt r5_3 4, opAt r5_3 5, opAt r5_3 6, opAt r5_3 7] false) (.seq (.region 4 #[opAt r5_4 0, opAt r5_4 1, opAt r5_4 2, opAt r5_4 3, opAt r5_4 4, opAt r5_4 5, opAt r5_4 6, opAt r5_4 7] false) (.seq (.region 5 #[opAt r5_5 0, opAt r5_5 1, opAt r5_5 2, opAt r5_5 3, opAt r5_5 4, opAt r5_5 5, opAt r5_5 6, opAt r5_5 7] false) (.seq (.region 6 #[opAt r5_6 0, opAt r5_6 1, opAt r5_6 2, opAt r5_6 3, opAt r5_6 4, opAt r5_6 5, opAt r5_6 6, opAt r5_6 7] false) (.seq (.region 7 #[opAt r5_7 0, opAt r5_7 1, opAt r5_7 2, opAt r5_7 3, opAt r5_7 4, opAt r5_7 5, opAt r5_7 6, opAt r5_7 7, opAt r5_7 8, opAt r5_7 9, opAt r5_7 10, opAt r5_7 11, opAt r5_7 12, opAt r5_7 13, opAt r5_7 14, opAt r5_7 15, opAt r5_7 16, opAt r5_7 17, opAt r5_7 18, opAt r5_7 19, opAt r5_7 20, opAt r5_7 21] false) .ret)))))))
theorem c5_eq : Try.f5.body = some c5 := by kernel_rfl
theorem S5_eq (γ : Calld) (a0 a1 : AV) (H : AHeap) (K : AV → AHeap → Prop) : execC Try.prog γ pol5 Try.f5 c5 [a0, a1] H K = S5 γ a0 a1 H K := by kernel_rfl
theorem C5 {a0 a1 : AV} {H : AHeap} {K : AV → AHeap → Prop} (h : S5 (CallsA Try.prog) a0 a1 H K) : CallsA Try.prog 5 [a0, a1] H K :=
  calls_of Try.func5 (ne_of_beq_false (by kernel_rfl)) c5_eq (by kernel_rfl) (by rw [S5_eq]; exact h)
/-! tithing/tithinglaw15.ExtentGrows -/
def pol6 : Pol := { lend := fun _ => true, keep := [], frz := fun _ => [], perm := fun r => [], bf := fun r => [], ret := true }
def S6 (γ : Calld) (a0 a1 a2 : AV) (H : AHeap) (K : AV → AHeap → Prop) : Prop :=
  optA (lenSl a1) fun v1 => optA (intA .gtr v1 (.d (.int .i64 400))) fun v2 => ifA v2 (frzLK [] H fun l5 H6 => γ 18 l5 H6 fun v3 H4 => retF [v3] H4 K) (frzLK [a0, a1, a2] H fun l9 H10 => γ 25 l9 H10 fun v7 H8 => optA (extractA v7 0) fun v11 => optA (extractA v7 1) fun v12 => optA (extractA v7 2) fun v13 => frzLK [a0, a1, a2] H8 fun l16 H17 => γ 26 l16 H17 fun v14 H15 => optA (extractA v14 0) fun v18 => optA (extractA v14 1) fun v19 => optA (extractA v14 2) fun v20 => frzLK [v11, v18] H15 fun l23 H24 => γ 16 l23 H24 fun v21 H22 => ifA v21 (frzLK [v12, v19] H22 fun l27 H28 => γ 17 l27 H28 fun v25 H26 => ifA v25 (optA (intA .eql v13 v20) fun v29 => ifA v29 (frzLK [] H26 fun l32 H33 => γ 18 l32 H33 fun v30 H31 => retF [v30] H31 K) (retF [.d (.bool false)] H26 K)) (retF [.d (.bool false)] H26 K)) (retF [.d (.bool false)] H22 K))
noncomputable def r6_0 : List Oper := regOps Try.f6 0
noncomputable def r6_1 : List Oper := regOps Try.f6 1
noncomputable def r6_2 : List Oper := regOps Try.f6 2
noncomputable def r6_3 : List Oper := regOps Try.f6 3
noncomputable def r6_4 : List Oper := regOps Try.f6 4
noncomputable def r6_5 : List Oper := regOps Try.f6 5
noncomputable def c6 : Code := (.seq (.region 0 #[opAt r6_0 0] false) (.seq (.seq (.region 1 #[opAt r6_1 0, opAt r6_1 1, opAt r6_1 2] false) (.cond (.tmp 15) (.seq (.region 2 #[opAt r6_2 0, opAt r6_2 1] false) .ret) .skip)) (.seq (.region 3 #[opAt r6_3 0, opAt r6_3 1, opAt r6_3 2, opAt r6_3 3, opAt r6_3 4, opAt r6_3 5, opAt r6_3 6, opAt r6_3 7, opAt r6_3 8, opAt r6_3 9, opAt r6_3 10] false) (.seq (.region 4 #[opAt r6_4 0, opAt r6_4 1, opAt r6_4 2, opAt r6_4 3, opAt r6_4 4, opAt r6_4 5, opAt r6_4 6, opAt r6_4 7, opAt r6_4 8, opAt r6_4 9, opAt r6_4 10] false) (.seq (.region 5 #[opAt r6_5 0, opAt r6_5 1, opAt r6_5 2, opAt r6_5 3, opAt r6_5 4, opAt r6_5 5, opAt r6_5 6, opAt r6_5 7, opAt r6_5 8, opAt r6_5 9, opAt r6_5 10, opAt r6_5 11, opAt r6_5 12, opAt r6_5 13, opAt r6_5 14, opAt r6_5 15, opAt r6_5 16] false) .ret)))))
theorem c6_eq : Try.f6.body = some c6 := by kernel_rfl
theorem S6_eq (γ : Calld) (a0 a1 a2 : AV) (H : AHeap) (K : AV → AHeap → Prop) : execC Try.prog γ pol6 Try.f6 c6 [a0, a1, a2] H K = S6 γ a0 a1 a2 H K := by kernel_rfl
theorem C6 {a0 a1 a2 : AV} {H : AHeap} {K : AV → AHeap → Prop} (h : S6 (CallsA Try.prog) a0 a1 a2 H K) : CallsA Try.prog 6 [a0, a1, a2] H K :=
  calls_of Try.func6 (ne_of_beq_false (by kernel_rfl)) c6_eq (by kernel_rfl) (by rw [S6_eq]; exact h)
/-! tithing/tithinglaw15.ExtentFree -/
def pol7 : Pol := { lend := fun _ => true, keep := [0, 5, 6, 8, 9], frz := fun _ => [], perm := fun r => [], bf := fun r => [], ret := true }
def S7 (γ : Calld) (a0 a1 : AV) (H : AHeap) (K : AV → AHeap → Prop) : Prop :=
  frzLK [a0, a1] H fun l3 H4 => γ 12 l3 H4 fun v1 H2 => optA (extractA v1 0) fun v5 => optA (extractA v1 1) fun v6 => optA (extractA v1 2) fun v7 => optA (intA .neq v7 (.d (.int .i64 0))) fun v8 => ifA v8 (frzLK [] H2 fun l11 H12 => γ 18 l11 H12 fun v9 H10 => retF [v9] H10 K) (frzLK [v5] H2 fun l15 H16 => γ 27 l15 H16 fun v13 H14 => optA (extractA v13 0) fun v17 => optA (extractA v13 1) fun v18 => optA (intA .neq v18 (.d (.int .i64 0))) fun v19 => ifA v19 (retF [.d (.bool false)] H14 K) (optA (lenSl v17) fun v20 => optA (intA .neq v20 a1) fun v21 => ifA v21 (retF [.d (.bool false)] H14 K) (frzLK [v5] H14 fun l24 H25 => γ 28 l24 H25 fun v22 H23 => optA (unA .not v22) fun v26 => ifA v26 (retF [.d (.bool false)] H23 K) (optA (lenSl v6) fun v27 => optA (lenSl a0) fun v28 => optA (intA .neq v27 v28) fun v29 => ifA v29 (retF [.d (.bool false)] H23 K) (loopA (fun X30 l31 H32 => optA (lenSl (l31.getD 3 .junk)) fun v33 => optA (intA .lss (l31.getD 4 .junk) v33) fun v34 => ifA v34 (optA (indexAddrA ti33 1 (l31.getD 3 .junk) (l31.getD 4 .junk)) fun v35 => optA (ldV false 1 v35 H32) fun v36 => optA (intA .lss v36 (.d (.int .i64 0))) fun v37 => ifA v37 (retF [.d (.bool false)] H32 K) (optA (indexAddrA ti33 1 (l31.getD 3 .junk) (l31.getD 4 .junk)) fun v38 => optA (ldV false 1 v38 H32) fun v39 => optA (lenSl (l31.getD 0 .junk)) fun v40 => optA (intA .geq v39 v40) fun v41 => ifA v41 (retF [.d (.bool false)] H32 K) (optA (indexAddrA ti33 1 (l31.getD 3 .junk) (l31.getD 4 .junk)) fun v42 => optA (ldV false 1 v42 H32) fun v43 => optA (indexAddrA ti22 1 (l31.getD 0 .junk) v43) fun v44 => optA (ldV false 1 v44 H32) fun v45 => ifA v45 (retF [.d (.bool false)] H32 K) (optA (indexAddrA ti33 1 (l31.getD 3 .junk) (l31.getD 4 .junk)) fun v46 => optA (ldV false 1 v46 H32) fun v47 => optA (indexAddrA ti22 1 (l31.getD 2 .junk) v47) fun v48 => optA (ldV false 1 v48 H32) fun v49 => optA (unA .not v49) fun v50 => ifA v50 (retF [.d (.bool false)] H32 K) (optA (intA .add (l31.getD 4 .junk) (.d (.int .i64 1))) fun v51 => X30 [l31.getD 0 .junk, l31.getD 1 .junk, l31.getD 2 .junk, l31.getD 3 .junk, v51] H32))))) (frzLK [l31.getD 2 .junk, l31.getD 1 .junk] H32 fun l54 H55 => γ 21 l54 H55 fun v52 H53 => optA (extractA v52 0) fun v56 => optA (extractA v52 1) fun v57 => optA (intA .eql v57 (.d (.int .i64 0))) fun v58 => ifA v58 (frzLK [v56, l31.getD 0 .junk] H53 fun l61 H62 => γ 17 l61 H62 fun v59 H60 => ifA v59 (frzLK [] H60 fun l65 H66 => γ 18 l65 H66 fun v63 H64 => retF [v63] H64 K) (retF [.d (.bool false)] H60 K)) (retF [.d (.bool false)] H53 K))) [a0, v5, v6, v17, .d (.int .i64 0)] H23)))))
noncomputable def r7_0 : List Oper := regOps Try.f7 0
noncomputable def r7_1 : List Oper := regOps Try.f7 1
noncomputable def r7_2 : List Oper := regOps Try.f7 2
noncomputable def r7_3 : List Oper := regOps Try.f7 3
noncomputable def r7_4 : List Oper := regOps Try.f7 4
noncomputable def r7_5 : List Oper := regOps Try.f7 5
noncomputable def r7_6 : List Oper := regOps Try.f7 6
noncomputable def r7_7 : List Oper := regOps Try.f7 7
noncomputable def r7_8 : List Oper := regOps Try.f7 8
noncomputable def r7_9 : List Oper := regOps Try.f7 9
noncomputable def r7_10 : List Oper := regOps Try.f7 10
noncomputable def r7_11 : List Oper := regOps Try.f7 11
noncomputable def r7_12 : List Oper := regOps Try.f7 12
noncomputable def r7_13 : List Oper := regOps Try.f7 13
noncomputable def c7 : Code := (.seq (.region 0 #[opAt r7_0 0] false) (.seq (.region 1 #[opAt r7_1 0, opAt r7_1 1, opAt r7_1 2, opAt r7_1 3, opAt r7_1 4, opAt r7_1 5, opAt r7_1 6, opAt r7_1 7, opAt r7_1 8, opAt r7_1 9] false) (.seq (.seq (.region 2 #[opAt r7_2 0, opAt r7_2 1] false) (.cond (.tmp 19) (.seq (.region 3 #[opAt r7_3 0, opAt r7_3 1] false) .ret) .skip)) (.seq (.region 4 #[opAt r7_4 0, opAt r7_4 1, opAt r7_4 2, opAt r7_4 3, opAt r7_4 4, opAt r7_4 5, opAt r7_4 6] false) (.seq (.seq (.region 5 #[opAt r7_5 0, opAt r7_5 1, opAt r7_5 2, opAt r7_5 3, opAt r7_5 4, opAt r7_5 5, opAt r7_5 6, opAt r7_5 7, opAt r7_5 8, opAt r7_5 9, opAt r7_5 10, opAt r7_5 11, opAt r7_5 12, opAt r7_5 13, opAt r7_5 14, opAt r7_5 15, opAt r7_5 16, opAt r7_5 17, opAt r7_5 18, opAt r7_5 19] false) (.cond (.tmp 45) (.seq (.region 6 #[opAt r7_6 0] false) .ret) .skip)) (.seq (.seq (.region 7 #[opAt r7_7 0] false) (.block 0 (.loop (.seq (.seq (.region 8 #[opAt r7_8 0, opAt r7_8 1, opAt r7_8 2, opAt r7_8 3] false) (.cond (.tmp 49) .skip (.exit 0))) (.seq (.block 1 (.seq (.region 10 #[opAt r7_9 0, opAt r7_9 1, opAt r7_9 2, opAt r7_9 3, opAt r7_9 4, opAt r7_9 5, opAt r7_9 6, opAt r7_9 7, opAt r7_9 8, opAt r7_9 9, opAt r7_9 10, opAt r7_9 11, opAt r7_9 12, opAt r7_9 13, opAt r7_9 14, opAt r7_9 15, opAt r7_9 16, opAt r7_9 17, opAt r7_9 18, opAt r7_9 19, opAt r7_9 20, opAt r7_9 21, opAt r7_9 22, opAt r7_9 23, opAt r7_9 24, opAt r7_9 25, opAt r7_9 26, opAt r7_9 27, opAt r7_9 28, opAt r7_9 29, opAt r7_9 30, opAt r7_9 31, opAt r7_9 32] false) (.cond (.tmp 84) (.seq (.region 11 #[opAt r7_10 0] false) .ret) .skip))) (.region 9 #[opAt r7_11 0, opAt r7_11 1, opAt r7_11 2] false)))))) (.seq (.region 12 #[opAt r7_12 0, opAt r7_12 1, opAt r7_12 2, opAt r7_12 3, opAt r7_12 4, opAt r7_12 5, opAt r7_12 6, opAt r7_12 7] false) (.seq (.region 13 #[opAt r7_13 0, opAt r7_13 1, opAt r7_13 2, opAt r7_13 3, opAt r7_13 4, opAt r7_13 5, opAt r7_13 6, opAt r7_13 7, opAt r7_13 8, opAt r7_13 9, opAt r7_13 10] false) .ret))))))))
theorem c7_eq : Try.f7.body = some c7 := by kernel_rfl
theorem S7_eq (γ : Calld) (a0 a1 : AV) (H : AHeap) (K : AV → AHeap → Prop) : execC Try.prog γ pol7 Try.f7 c7 [a0, a1] H K = S7 γ a0 a1 H K := by kernel_rfl
theorem C7 {a0 a1 : AV} {H : AHeap} {K : AV → AHeap → Prop} (h : S7 (CallsA Try.prog) a0 a1 H K) : CallsA Try.prog 7 [a0, a1] H K :=
  calls_of Try.func7 (ne_of_beq_false (by kernel_rfl)) c7_eq (by kernel_rfl) (by rw [S7_eq]; exact h)
/-! tithing/tithinglaw15.ExtentLists -/
def pol8 : Pol := { lend := fun _ => true, keep := [], frz := fun _ => [], perm := fun r => [], bf := fun r => [], ret := true }
def S8 (γ : Calld) (a0 a1 a2 : AV) (H : AHeap) (K : AV → AHeap → Prop) : Prop :=
  optA (lenSl a1) fun v1 => optA (intA .gtr v1 (.d (.int .i64 400))) fun v2 => ifA v2 (frzLK [] H fun l5 H6 => γ 18 l5 H6 fun v3 H4 => retF [v3] H4 K) (frzLK [a1] H fun l9 H10 => γ 27 l9 H10 fun v7 H8 => optA (extractA v7 0) fun v11 => optA (extractA v7 1) fun v12 => frzLK [a1] H8 fun l15 H16 => γ 29 l15 H16 fun v13 H14 => optA (extractA v13 0) fun v17 => optA (extractA v13 1) fun v18 => frzLK [a1] H14 fun l21 H22 => γ 30 l21 H22 fun v19 H20 => optA (extractA v19 0) fun v23 => optA (extractA v19 1) fun v24 => frzLK [a1] H20 fun l27 H28 => γ 31 l27 H28 fun v25 H26 => optA (extractA v25 0) fun v29 => optA (extractA v25 1) fun v30 => frzLK [a1, a2] H26 fun l33 H34 => γ 32 l33 H34 fun v31 H32 => optA (extractA v31 0) fun v35 => optA (extractA v31 1) fun v36 => frzLK [a1, a2] H32 fun l39 H40 => γ 33 l39 H40 fun v37 H38 => optA (extractA v37 0) fun v41 => optA (extractA v37 1) fun v42 => frzLK [a0, a1] H38 fun l45 H46 => γ 34 l45 H46 fun v43 H44 => frzLK [a0, a1] H44 fun l49 H50 => γ 35 l49 H50 fun v47 H48 => optA (boolA .eql v43 v47) fun v51 => ifA v51 (frzLK [v11, v17] H48 fun l54 H55 => γ 36 l54 H55 fun v52 H53 => ifA v52 (optA (intA .eql v12 v18) fun v56 => ifA v56 (optA (intA .eql v23 v29) fun v57 => ifA v57 (optA (intA .eql v24 v30) fun v58 => ifA v58 (optA (intA .eql v35 v41) fun v59 => ifA v59 (optA (intA .eql v36 v42) fun v60 => ifA v60 (frzLK [] H53 fun l63 H64 => γ 18 l63 H64 fun v61 H62 => retF [v61] H62 K) (retF [.d (.bool false)] H53 K)) (retF [.d (.bool false)] H53 K)) (retF [.d (.bool false)] H53 K)) (retF [.d (.bool false)] H53 K)) (retF [.d (.bool false)] H53 K)) (retF [.d (.bool false)] H53 K)) (retF [.d (.bool false)] H48 K))
noncomputable def r8_0 : List Oper := regOps Try.f8 0
noncomputable def r8_1 : List Oper := regOps Try.f8 1
noncomputable def r8_2 : List Oper := regOps Try.f8 2
noncomputable def r8_3 : List Oper := regOps Try.f8 3
noncomputable def r8_4 : List Oper := regOps Try.f8 4
noncomputable def r8_5 : List Oper := regOps Try.f8 5
noncomputable def r8_6 : List Oper := regOps Try.f8 6
noncomputable def r8_7 : List Oper := regOps Try.f8 7
noncomputable def r8_8 : List Oper := regOps Try.f8 8
noncomputable def r8_9 : List Oper := regOps Try.f8 9
noncomputable def c8 : Code := (.seq (.region 0 #[opAt r8_0 0] false) (.seq (.seq (.region 1 #[opAt r8_1 0, opAt r8_1 1, opAt r8_1 2] false) (.cond (.tmp 21) (.seq (.region 2 #[opAt r8_2 0, opAt r8_2 1] false) .ret) .skip)) (.seq (.region 3 #[opAt r8_3 0, opAt r8_3 1, opAt r8_3 2, opAt r8_3 3, opAt r8_3 4, opAt r8_3 5, opAt r8_3 6] false) (.seq (.region 4 #[opAt r8_4 0, opAt r8_4 1, opAt r8_4 2, opAt r8_4 3, opAt r8_4 4, opAt r8_4 5, opAt r8_4 6] false) (.seq (.region 5 #[opAt r8_5 0, opAt r8_5 1, opAt r8_5 2, opAt r8_5 3, opAt r8_5 4, opAt r8_5 5, opAt r8_5 6] false) (.seq (.region 6 #[opAt r8_6 0, opAt r8_6 1, opAt r8_6 2, opAt r8_6 3, opAt r8_6 4, opAt r8_6 5, opAt r8_6 6] false) (.seq (.region 7 #[opAt r8_7 0, opAt r8_7 1, opAt r8_7 2, opAt r8_7 3, opAt r8_7 4, opAt r8_7 5, opAt r8_7 6, opAt r8_7 7] false) (.seq (.region 8 #[opAt r8_8 0, opAt r8_8 1, opAt r8_8 2, opAt r8_8 3, opAt r8_8 4, opAt r8_8 5, opAt r8_8 6, opAt r8_8 7] false) (.seq (.region 9 #[opAt r8_9 0, opAt r8_9 1, opAt r8_9 2, opAt r8_9 3, opAt r8_9 4, opAt r8_9 5, opAt r8_9 6, opAt r8_9 7, opAt r8_9 8, opAt r8_9 9, opAt r8_9 10, opAt r8_9 11, opAt r8_9 12, opAt r8_9 13, opAt r8_9 14, opAt r8_9 15, opAt r8_9 16, opAt r8_9 17, opAt r8_9 18, opAt r8_9 19, opAt r8_9 20, opAt r8_9 21, opAt r8_9 22, opAt r8_9 23, opAt r8_9 24, opAt r8_9 25, opAt r8_9 26, opAt r8_9 27, opAt r8_9 28, opAt r8_9 29, opAt r8_9 30, opAt r8_9 31, opAt r8_9 32, opAt r8_9 33, opAt r8_9 34, opAt r8_9 35, opAt r8_9 36, opAt r8_9 37, opAt r8_9 38, opAt r8_9 39, opAt r8_9 40] false) .ret)))))))))
theorem c8_eq : Try.f8.body = some c8 := by kernel_rfl
theorem S8_eq (γ : Calld) (a0 a1 a2 : AV) (H : AHeap) (K : AV → AHeap → Prop) : execC Try.prog γ pol8 Try.f8 c8 [a0, a1, a2] H K = S8 γ a0 a1 a2 H K := by kernel_rfl
theorem C8 {a0 a1 a2 : AV} {H : AHeap} {K : AV → AHeap → Prop} (h : S8 (CallsA Try.prog) a0 a1 a2 H K) : CallsA Try.prog 8 [a0, a1, a2] H K :=
  calls_of Try.func8 (ne_of_beq_false (by kernel_rfl)) c8_eq (by kernel_rfl) (by rw [S8_eq]; exact h)
/-! tithing/tithinglaw15.ExtentPacks -/
def pol9 : Pol := { lend := fun _ => true, keep := [], frz := fun _ => [], perm := fun r => [], bf := fun r => [], ret := true }
def S9 (γ : Calld) (a0 a1 a2 : AV) (H : AHeap) (K : AV → AHeap → Prop) : Prop :=
  frzLK [a0] H fun l3 H4 => γ 37 l3 H4 fun v1 H2 => optA (extractA v1 0) fun v5 => optA (extractA v1 1) fun v6 => frzLK [a0] H2 fun l9 H10 => γ 38 l9 H10 fun v7 H8 => optA (extractA v7 0) fun v11 => optA (extractA v7 1) fun v12 => frzLK [a1, a2] H8 fun l15 H16 => γ 39 l15 H16 fun v13 H14 => optA (extractA v13 0) fun v17 => optA (extractA v13 1) fun v18 => frzLK [a1, a2] H14 fun l21 H22 => γ 40 l21 H22 fun v19 H20 => optA (extractA v19 0) fun v23 => optA (extractA v19 1) fun v24 => optA (cvBS v5 H20) fun v25 => optA (cvBS v11 H20) fun v26 => optA (strA .eql v25 v26) fun v27 => ifA v27 (optA (intA .eql v6 v12) fun v28 => ifA v28 (frzLK [v17, v23] H20 fun l31 H32 => γ 17 l31 H32 fun v29 H30 => ifA v29 (optA (intA .eql v18 v24) fun v33 => ifA v33 (frzLK [] H30 fun l36 H37 => γ 18 l36 H37 fun v34 H35 => retF [v34] H35 K) (retF [.d (.bool false)] H30 K)) (retF [.d (.bool false)] H30 K)) (retF [.d (.bool false)] H20 K)) (retF [.d (.bool false)] H20 K)
noncomputable def r9_0 : List Oper := regOps Try.f9 0
noncomputable def r9_1 : List Oper := regOps Try.f9 1
noncomputable def r9_2 : List Oper := regOps Try.f9 2
noncomputable def r9_3 : List Oper := regOps Try.f9 3
noncomputable def r9_4 : List Oper := regOps Try.f9 4
noncomputable def r9_5 : List Oper := regOps Try.f9 5
noncomputable def c9 : Code := (.seq (.region 0 #[opAt r9_0 0] false) (.seq (.region 1 #[opAt r9_1 0, opAt r9_1 1, opAt r9_1 2, opAt r9_1 3, opAt r9_1 4, opAt r9_1 5, opAt r9_1 6] false) (.seq (.region 2 #[opAt r9_2 0, opAt r9_2 1, opAt r9_2 2, opAt r9_2 3, opAt r9_2 4, opAt r9_2 5, opAt r9_2 6] false) (.seq (.region 3 #[opAt r9_3 0, opAt r9_3 1, opAt r9_3 2, opAt r9_3 3, opAt r9_3 4, opAt r9_3 5, opAt r9_3 6, opAt r9_3 7] false) (.seq (.region 4 #[opAt r9_4 0, opAt r9_4 1, opAt r9_4 2, opAt r9_4 3, opAt r9_4 4, opAt r9_4 5, opAt r9_4 6, opAt r9_4 7] false) (.seq (.region 5 #[opAt r9_5 0, opAt r9_5 1, opAt r9_5 2, opAt r9_5 3, opAt r9_5 4, opAt r9_5 5, opAt r9_5 6, opAt r9_5 7, opAt r9_5 8, opAt r9_5 9, opAt r9_5 10, opAt r9_5 11, opAt r9_5 12, opAt r9_5 13, opAt r9_5 14, opAt r9_5 15, opAt r9_5 16, opAt r9_5 17, opAt r9_5 18, opAt r9_5 19, opAt r9_5 20, opAt r9_5 21, opAt r9_5 22, opAt r9_5 23] false) .ret))))))
theorem c9_eq : Try.f9.body = some c9 := by kernel_rfl
theorem S9_eq (γ : Calld) (a0 a1 a2 : AV) (H : AHeap) (K : AV → AHeap → Prop) : execC Try.prog γ pol9 Try.f9 c9 [a0, a1, a2] H K = S9 γ a0 a1 a2 H K := by kernel_rfl
theorem C9 {a0 a1 a2 : AV} {H : AHeap} {K : AV → AHeap → Prop} (h : S9 (CallsA Try.prog) a0 a1 a2 H K) : CallsA Try.prog 9 [a0, a1, a2] H K :=
  calls_of Try.func9 (ne_of_beq_false (by kernel_rfl)) c9_eq (by kernel_rfl) (by rw [S9_eq]; exact h)
/-! tithing/tithinglaw15.ExtentCuts -/
def pol10 : Pol := { lend := fun _ => true, keep := [], frz := fun _ => [], perm := fun r => [], bf := fun r => [], ret := true }
def S10 (γ : Calld) (a0 a1 a2 : AV) (H : AHeap) (K : AV → AHeap → Prop) : Prop :=
  optA (lenSl a0) fun v1 => optA (intA .gtr v1 (.d (.int .i64 400))) fun v2 => ifA v2 (frzLK [] H fun l5 H6 => γ 18 l5 H6 fun v3 H4 => retF [v3] H4 K) (optA (lenSl a1) fun v7 => optA (intA .gtr v7 (.d (.int .i64 400))) fun v8 => ifA v8 (frzLK [] H fun l11 H12 => γ 18 l11 H12 fun v9 H10 => retF [v9] H10 K) (frzLK [a0, a2] H fun l15 H16 => γ 41 l15 H16 fun v13 H14 => optA (extractA v13 0) fun v17 => optA (extractA v13 1) fun v18 => optA (extractA v13 2) fun v19 => frzLK [a0, a2] H14 fun l22 H23 => γ 42 l22 H23 fun v20 H21 => optA (extractA v20 0) fun v24 => optA (extractA v20 1) fun v25 => optA (extractA v20 2) fun v26 => frzLK [a0, a1] H21 fun l29 H30 => γ 43 l29 H30 fun v27 H28 => optA (extractA v27 0) fun v31 => optA (extractA v27 1) fun v32 => frzLK [a0, a1] H28 fun l35 H36 => γ 44 l35 H36 fun v33 H34 => optA (extractA v33 0) fun v37 => optA (extractA v33 1) fun v38 => frzLK [v17, v24] H34 fun l41 H42 => γ 16 l41 H42 fun v39 H40 => ifA v39 (frzLK [v18, v25] H40 fun l45 H46 => γ 16 l45 H46 fun v43 H44 => ifA v43 (optA (intA .eql v19 v26) fun v47 => ifA v47 (frzLK [v31, v37] H44 fun l50 H51 => γ 16 l50 H51 fun v48 H49 => ifA v48 (optA (intA .eql v32 v38) fun v52 => ifA v52 (frzLK [] H49 fun l55 H56 => γ 18 l55 H56 fun v53 H54 => retF [v53] H54 K) (retF [.d (.bool false)] H49 K)) (retF [.d (.bool false)] H49 K)) (retF [.d (.bool false)] H44 K)) (retF [.d (.bool false)] H44 K)) (retF [.d (.bool false)] H40 K)))
noncomputable def r10_0 : List Oper := regOps Try.f10 0
noncomputable def r10_1 : List Oper := regOps Try.f10 1
noncomputable def r10_2 : List Oper := regOps Try.f10 2
noncomputable def r10_3 : List Oper := regOps Try.f10 3
noncomputable def r10_4 : List Oper := regOps Try.f10 4
noncomputable def r10_5 : List Oper := regOps Try.f10 5
noncomputable def r10_6 : List Oper := regOps Try.f10 6
noncomputable def r10_7 : List Oper := regOps Try.f10 7
noncomputable def c10 : Code := (.seq (.region 0 #[opAt r10_0 0] false) (.seq (.seq (.region 1 #[opAt r10_1 0, opAt r10_1 1, opAt r10_1 2, opAt r10_1 3, opAt r10_1 4, opAt r10_1 5, opAt r10_1 6, opAt r10_1 7] false) (.cond (.tmp 24) (.seq (.region 2 #[opAt r10_2 0, opAt r10_2 1] false) .ret) .skip)) (.seq (.region 3 #[opAt r10_3 0, opAt r10_3 1, opAt r10_3 2, opAt r10_3 3, opAt r10_3 4, opAt r10_3 5, opAt r10_3 6, opAt r10_3 7, opAt r10_3 8, opAt r10_3 9] false) (.seq (.region 4 #[opAt r10_4 0, opAt r10_4 1, opAt r10_4 2, opAt r10_4 3, opAt r10_4 4, opAt r10_4 5, opAt r10_4 6, opAt r10_4 7, opAt r10_4 8, opAt r10_4 9] false) (.seq (.region 5 #[opAt r10_5 0, opAt r10_5 1, opAt r10_5 2, opAt r10_5 3, opAt r10_5 4, opAt r10_5 5, opAt r10_5 6, opAt r10_5 7] false) (.seq (.region 6 #[opAt r10_6 0, opAt r10_6 1, opAt r10_6 2, opAt r10_6 3, opAt r10_6 4, opAt r10_6 5, opAt r10_6 6, opAt r10_6 7] false) (.seq (.region 7 #[opAt r10_7 0, opAt r10_7 1, opAt r10_7 2, opAt r10_7 3, opAt r10_7 4, opAt r10_7 5, opAt r10_7 6, opAt r10_7 7, opAt r10_7 8, opAt r10_7 9, opAt r10_7 10, opAt r10_7 11, opAt r10_7 12, opAt r10_7 13, opAt r10_7 14, opAt r10_7 15, opAt r10_7 16, opAt r10_7 17, opAt r10_7 18, opAt r10_7 19, opAt r10_7 20, opAt r10_7 21, opAt r10_7 22, opAt r10_7 23, opAt r10_7 24, opAt r10_7 25, opAt r10_7 26] false) .ret)))))))
theorem c10_eq : Try.f10.body = some c10 := by kernel_rfl
theorem S10_eq (γ : Calld) (a0 a1 a2 : AV) (H : AHeap) (K : AV → AHeap → Prop) : execC Try.prog γ pol10 Try.f10 c10 [a0, a1, a2] H K = S10 γ a0 a1 a2 H K := by kernel_rfl
theorem C10 {a0 a1 a2 : AV} {H : AHeap} {K : AV → AHeap → Prop} (h : S10 (CallsA Try.prog) a0 a1 a2 H K) : CallsA Try.prog 10 [a0, a1, a2] H K :=
  calls_of Try.func10 (ne_of_beq_false (by kernel_rfl)) c10_eq (by kernel_rfl) (by rw [S10_eq]; exact h)
/-! tithing/tithinglaw15.ExtentBack -/
def pol11 : Pol := { lend := fun _ => true, keep := [], frz := fun _ => [], perm := fun r => [], bf := fun r => [], ret := true }
def S11 (γ : Calld) (a0 a1 a2 : AV) (H : AHeap) (K : AV → AHeap → Prop) : Prop :=
  optA (lenSl a1) fun v1 => optA (intA .gtr v1 (.d (.int .i64 400))) fun v2 => ifA v2 (frzLK [] H fun l5 H6 => γ 18 l5 H6 fun v3 H4 => retF [v3] H4 K) (frzLK [a0] H fun l9 H10 => γ 37 l9 H10 fun v7 H8 => optA (extractA v7 0) fun v11 => optA (extractA v7 1) fun v12 => optA (intA .eql v12 (.d (.int .i64 0))) fun v13 => ifA v13 (optA (lenSl a0) fun v14 => frzLK [v11, v14] H8 fun l17 H18 => γ 39 l17 H18 fun v15 H16 => optA (extractA v15 0) fun v19 => optA (extractA v15 1) fun v20 => optA (intA .neq v20 (.d (.int .i64 0))) fun v21 => ifA v21 (retF [.d (.bool false)] H16 K) (frzLK [v19, a0] H16 fun l24 H25 => γ 17 l24 H25 fun v22 H23 => optA (unA .not v22) fun v26 => ifA v26 (retF [.d (.bool false)] H23 K) (frzLK [a1] H23 fun l29 H30 => γ 27 l29 H30 fun v27 H28 => optA (extractA v27 0) fun v31 => optA (extractA v27 1) fun v32 => optA (intA .neq v32 (.d (.int .i64 0))) fun v33 => ifA v33 (frzLK [] H28 fun l36 H37 => γ 18 l36 H37 fun v34 H35 => retF [v34] H35 K) (frzLK [v31] H28 fun l40 H41 => γ 19 l40 H41 fun v38 H39 => optA (extractA v38 0) fun v42 => optA (extractA v38 1) fun v43 => optA (intA .neq v43 (.d (.int .i64 0))) fun v44 => ifA v44 (retF [.d (.bool false)] H39 K) (frzLK [v42] H39 fun l47 H48 => γ 28 l47 H48 fun v45 H46 => optA (unA .not v45) fun v49 => ifA v49 (retF [.d (.bool false)] H46 K) (frzLK [v42] H46 fun l52 H53 => γ 27 l52 H53 fun v50 H51 => optA (extractA v50 0) fun v54 => optA (extractA v50 1) fun v55 => optA (intA .neq v55 (.d (.int .i64 0))) fun v56 => ifA v56 (retF [.d (.bool false)] H51 K) (frzLK [v31, v54] H51 fun l59 H60 => γ 36 l59 H60 fun v57 H58 => optA (unA .not v57) fun v61 => ifA v61 (retF [.d (.bool false)] H58 K) (frzLK [a1, a2] H58 fun l64 H65 => γ 41 l64 H65 fun v62 H63 => optA (extractA v62 0) fun v66 => optA (extractA v62 1) fun v67 => optA (extractA v62 2) fun v68 => optA (intA .neq v68 (.d (.int .i64 0))) fun v69 => ifA v69 (frzLK [] H63 fun l72 H73 => γ 18 l72 H73 fun v70 H71 => retF [v70] H71 K) (frzLK [v66] H63 fun l76 H77 => γ 27 l76 H77 fun v74 H75 => optA (extractA v74 0) fun v78 => optA (extractA v74 1) fun v79 => frzLK [v67] H75 fun l82 H83 => γ 27 l82 H83 fun v80 H81 => optA (extractA v80 0) fun v84 => optA (extractA v80 1) fun v85 => optA (intA .neq v79 (.d (.int .i64 0))) fun v86 => ifA v86 (retF [.d (.bool false)] H81 K) (optA (intA .neq v85 (.d (.int .i64 0))) fun v87 => ifA v87 (retF [.d (.bool false)] H81 K) (optA (lenSl v78) fun v88 => optA (intA .neq v88 a2) fun v89 => ifA v89 (retF [.d (.bool false)] H81 K) (newK H81 (fun n92 => bsA ti3 0 [] [] H81 n92) fun v90 H91 => newK H91 (fun n95 => apA 1 8 v90 v78 H91 n95) fun v93 H94 => newK H94 (fun n98 => apA 1 8 v93 v84 H94 n98) fun v96 H97 => frzLK [v96, v31] H97 fun l101 H102 => γ 36 l101 H102 fun v99 H100 => optA (unA .not v99) fun v103 => ifA v103 (retF [.d (.bool false)] H100 K) (frzLK [v66, v67] H100 fun l106 H107 => γ 43 l106 H107 fun v104 H105 => optA (extractA v104 0) fun v108 => optA (extractA v104 1) fun v109 => frzLK [v108] H105 fun l112 H113 => γ 27 l112 H113 fun v110 H111 => optA (extractA v110 0) fun v114 => optA (extractA v110 1) fun v115 => optA (intA .eql v109 (.d (.int .i64 0))) fun v116 => ifA v116 (optA (intA .eql v115 (.d (.int .i64 0))) fun v117 => ifA v117 (frzLK [v114, v31] H111 fun l120 H121 => γ 36 l120 H121 fun v118 H119 => ifA v118 (frzLK [] H119 fun l124 H125 => γ 18 l124 H125 fun v122 H123 => retF [v122] H123 K) (retF [.d (.bool false)] H119 K)) (retF [.d (.bool false)] H111 K)) (retF [.d (.bool false)] H111 K)))))))))))))) (frzLK [a1] H8 fun l128 H129 => γ 27 l128 H129 fun v126 H127 => optA (extractA v126 0) fun v130 => optA (extractA v126 1) fun v131 => optA (intA .neq v131 (.d (.int .i64 0))) fun v132 => ifA v132 (frzLK [] H127 fun l135 H136 => γ 18 l135 H136 fun v133 H134 => retF [v133] H134 K) (frzLK [v130] H127 fun l139 H140 => γ 19 l139 H140 fun v137 H138 => optA (extractA v137 0) fun v141 => optA (extractA v137 1) fun v142 => optA (intA .neq v142 (.d (.int .i64 0))) fun v143 => ifA v143 (retF [.d (.bool false)] H138 K) (frzLK [v141] H138 fun l146 H147 => γ 28 l146 H147 fun v144 H145 => optA (unA .not v144) fun v148 => ifA v148 (retF [.d (.bool false)] H145 K) (frzLK [v141] H145 fun l151 H152 => γ 27 l151 H152 fun v149 H150 => optA (extractA v149 0) fun v153 => optA (extractA v149 1) fun v154 => optA (intA .neq v154 (.d (.int .i64 0))) fun v155 => ifA v155 (retF [.d (.bool false)] H150 K) (frzLK [v130, v153] H150 fun l158 H159 => γ 36 l158 H159 fun v156 H157 => optA (unA .not v156) fun v160 => ifA v160 (retF [.d (.bool false)] H157 K) (frzLK [a1, a2] H157 fun l163 H164 => γ 41 l163 H164 fun v161 H162 => optA (extractA v161 0) fun v165 => optA (extractA v161 1) fun v166 => optA (extractA v161 2) fun v167 => optA (intA .neq v167 (.d (.int .i64 0))) fun v168 => ifA v168 (frzLK [] H162 fun l171 H172 => γ 18 l171 H172 fun v169 H170 => retF [v169] H170 K) (frzLK [v165] H162 fun l175 H176 => γ 27 l175 H176 fun v173 H174 => optA (extractA v173 0) fun v177 => optA (extractA v173 1) fun v178 => frzLK [v166] H174 fun l181 H182 => γ 27 l181 H182 fun v179 H180 => optA (extractA v179 0) fun v183 => optA (extractA v179 1) fun v184 => optA (intA .neq v178 (.d (.int .i64 0))) fun v185 => ifA v185 (retF [.d (.bool false)] H180 K) (optA (intA .neq v184 (.d (.int .i64 0))) fun v186 => ifA v186 (retF [.d (.bool false)] H180 K) (optA (lenSl v177) fun v187 => optA (intA .neq v187 a2) fun v188 => ifA v188 (retF [.d (.bool false)] H180 K) (newK H180 (fun n191 => bsA ti3 0 [] [] H180 n191) fun v189 H190 => newK H190 (fun n194 => apA 1 8 v189 v177 H190 n194) fun v192 H193 => newK H193 (fun n197 => apA 1 8 v192 v183 H193 n197) fun v195 H196 => frzLK [v195, v130] H196 fun l200 H201 => γ 36 l200 H201 fun v198 H199 => optA (unA .not v198) fun v202 => ifA v202 (retF [.d (.bool false)] H199 K) (frzLK [v165, v166] H199 fun l205 H206 => γ 43 l205 H206 fun v203 H204 => optA (extractA v203 0) fun v207 => optA (extractA v203 1) fun v208 => frzLK [v207] H204 fun l211 H212 => γ 27 l211 H212 fun v209 H210 => optA (extractA v209 0) fun v213 => optA (extractA v209 1) fun v214 => optA (intA .eql v208 (.d (.int .i64 0))) fun v215 => ifA v215 (optA (intA .eql v214 (.d (.int .i64 0))) fun v216 => ifA v216 (frzLK [v213, v130] H210 fun l219 H220 => γ 36 l219 H220 fun v217 H218 => ifA v217 (frzLK [] H218 fun l223 H224 => γ 18 l223 H224 fun v221 H222 => retF [v221] H222 K) (retF [.d (.bool false)] H218 K)) (retF [.d (.bool false)] H210 K)) (retF [.d (.bool false)] H210 K)))))))))))))
noncomputable def r11_0 : List Oper := regOps Try.f11 0
noncomputable def r11_1 : List Oper := regOps Try.f11 1
noncomputable def r11_2 : List Oper := regOps Try.f11 2
noncomputable def r11_3 : List Oper := regOps Try.f11 3
noncomputable def r11_4 : List Oper := regOps Try.f11 4
noncomputable def r11_5 : List Oper := regOps Try.f11 5
noncomputable def r11_6 : List Oper := regOps Try.f11 6
noncomputable def r11_7 : List Oper := regOps Try.f11 7
noncomputable def r11_8 : List Oper := regOps Try.f11 8
noncomputable def r11_9 : List Oper := regOps Try.f11 9
noncomputable def r11_10 : List Oper := regOps Try.f11 10
noncomputable def r11_11 : List Oper := regOps Try.f11 11
noncomputable def r11_12 : List Oper := regOps Try.f11 12
noncomputable def r11_13 : List Oper := regOps Try.f11 13
noncomputable def r11_14 : List Oper := regOps Try.f11 14
noncomputable def r11_15 : List Oper := regOps Try.f11 15
noncomputable def r11_16 : List Oper := regOps Try.f11 16
noncomputable def r11_17 : List Oper := regOps Try.f11 17
noncomputable def r11_18 : List Oper := regOps Try.f11 18
noncomputable def r11_19 : List Oper := regOps Try.f11 19
noncomputable def r11_20 : List Oper := regOps Try.f11 20
noncomputable def r11_21 : List Oper := regOps Try.f11 21
noncomputable def r11_22 : List Oper := regOps Try.f11 22
noncomputable def r11_23 : List Oper := regOps Try.f11 23
noncomputable def r11_24 : List Oper := regOps Try.f11 24
noncomputable def r11_25 : List Oper := regOps Try.f11 25
noncomputable def r11_26 : List Oper := regOps Try.f11 26
noncomputable def c11 : Code := (.seq (.region 0 #[opAt r11_0 0] false) (.seq (.seq (.region 1 #[opAt r11_1 0, opAt r11_1 1, opAt r11_1 2] false) (.cond (.tmp 24) (.seq (.region 2 #[opAt r11_2 0, opAt r11_2 1] false) .ret) .skip)) (.seq (.seq (.region 3 #[opAt r11_3 0, opAt r11_3 1, opAt r11_3 2, opAt r11_3 3, opAt r11_3 4, opAt r11_3 5, opAt r11_3 6] false) (.seq (.region 4 #[opAt r11_4 0, opAt r11_4 1] false) (.cond (.tmp 32) (.seq (.region 5 #[opAt r11_5 0, opAt r11_5 1, opAt r11_5 2, opAt r11_5 3, opAt r11_5 4, opAt r11_5 5, opAt r11_5 6, opAt r11_5 7, opAt r11_5 8] false) (.seq (.region 6 #[opAt r11_6 0, opAt r11_6 1, opAt r11_6 2, opAt r11_6 3, opAt r11_6 4, opAt r11_6 5, opAt r11_6 6, opAt r11_6 7] false) (.cond (.tmp 47) (.seq (.region 7 #[opAt r11_7 0] false) .ret) .skip))) .skip))) (.seq (.region 8 #[opAt r11_8 0, opAt r11_8 1, opAt r11_8 2, opAt r11_8 3, opAt r11_8 4, opAt r11_8 5, opAt r11_8 6] false) (.seq (.seq (.region 9 #[opAt r11_9 0, opAt r11_9 1] false) (.cond (.tmp 54) (.seq (.region 10 #[opAt r11_10 0, opAt r11_10 1] false) .ret) .skip)) (.seq (.region 11 #[opAt r11_11 0, opAt r11_11 1, opAt r11_11 2, opAt r11_11 3, opAt r11_11 4, opAt r11_11 5, opAt r11_11 6] false) (.seq (.seq (.region 12 #[opAt r11_12 0, opAt r11_12 1, opAt r11_12 2, opAt r11_12 3, opAt r11_12 4, opAt r11_12 5, opAt r11_12 6] false) (.cond (.tmp 67) (.seq (.region 13 #[opAt r11_13 0] false) .ret) .skip)) (.seq (.region 14 #[opAt r11_14 0, opAt r11_14 1, opAt r11_14 2, opAt r11_14 3, opAt r11_14 4, opAt r11_14 5, opAt r11_14 6] false) (.seq (.seq (.region 15 #[opAt r11_15 0, opAt r11_15 1, opAt r11_15 2, opAt r11_15 3, opAt r11_15 4, opAt r11_15 5, opAt r11_15 6, opAt r11_15 7] false) (.cond (.tmp 80) (.seq (.region 16 #[opAt r11_16 0] false) .ret) .skip)) (.seq (.region 17 #[opAt r11_17 0, opAt r11_17 1, opAt r11_17 2, opAt r11_17 3, opAt r11_17 4, opAt r11_17 5, opAt r11_17 6, opAt r11_17 7, opAt r11_17 8, opAt r11_17 9] false) (.seq (.seq (.region 18 #[opAt r11_18 0, opAt r11_18 1] false) (.cond (.tmp 89) (.seq (.region 19 #[opAt r11_19 0, opAt r11_19 1] false) .ret) .skip)) (.seq (.region 20 #[opAt r11_20 0, opAt r11_20 1, opAt r11_20 2, opAt r11_20 3, opAt r11_20 4, opAt r11_20 5, opAt r11_20 6] false) (.seq (.region 21 #[opAt r11_21 0, opAt r11_21 1, opAt r11_21 2, opAt r11_21 3, opAt r11_21 4, opAt r11_21 5, opAt r11_21 6] false) (.seq (.seq (.region 22 #[opAt r11_22 0, opAt r11_22 1, opAt r11_22 2, opAt r11_22 3, opAt r11_22 4, opAt r11_22 5, opAt r11_22 6, opAt r11_22 7, opAt r11_22 8, opAt r11_22 9, opAt r11_22 10, opAt r11_22 11, opAt r11_22 12, opAt r11_22 13, opAt r11_22 14, opAt r11_22 15, opAt r11_22 16, opAt r11_22 17, opAt r11_22 18, opAt r11_22 19, opAt r11_22 20, opAt r11_22 21] false) (.cond (.tmp 122) (.seq (.region 23 #[opAt r11_23 0] false) .ret) .skip)) (.seq (.region 24 #[opAt r11_24 0, opAt r11_24 1, opAt r11_24 2, opAt r11_24 3, opAt r11_24 4, opAt r11_24 5, opAt r11_24 6, opAt r11_24 7] false) (.seq (.region 25 #[opAt r11_25 0, opAt r11_25 1, opAt r11_25 2, opAt r11_25 3, opAt r11_25 4, opAt r11_25 5, opAt r11_25 6] false) (.seq (.region 26 #[opAt r11_26 0, opAt r11_26 1, opAt r11_26 2, opAt r11_26 3, opAt r11_26 4, opAt r11_26 5, opAt r11_26 6, opAt r11_26 7, opAt r11_26 8, opAt r11_26 9, opAt r11_26 10, opAt r11_26 11, opAt r11_26 12, opAt r11_26 13, opAt r11_26 14] false) .ret)))))))))))))))))
theorem c11_eq : Try.f11.body = some c11 := by kernel_rfl
theorem S11_eq (γ : Calld) (a0 a1 a2 : AV) (H : AHeap) (K : AV → AHeap → Prop) : execC Try.prog γ pol11 Try.f11 c11 [a0, a1, a2] H K = S11 γ a0 a1 a2 H K := by kernel_rfl
theorem C11 {a0 a1 a2 : AV} {H : AHeap} {K : AV → AHeap → Prop} (h : S11 (CallsA Try.prog) a0 a1 a2 H K) : CallsA Try.prog 11 [a0, a1, a2] H K :=
  calls_of Try.func11 (ne_of_beq_false (by kernel_rfl)) c11_eq (by kernel_rfl) (by rw [S11_eq]; exact h)
/-! tithing/extent.Allot -/
def pol12 : Pol := { lend := fun _ => true, keep := [], frz := fun _ => [], perm := fun r => [], bf := fun r => [], ret := true }
def S12 (γ : Calld) (a0 a1 : AV) (H : AHeap) (K : AV → AHeap → Prop) : Prop :=
  frzLK [a0, .d (.sl true [])] H fun l3 H4 => γ 45 l3 H4 fun v1 H2 => optA (unA .not v1) fun v5 => ifA v5 (retF [.d (.sl true []), .d (.sl true []), .d (.int .i64 2)] H2 K) (optA (intA .lss a1 (.d (.int .i64 0))) fun v6 => ifA v6 (retF [.d (.sl true []), .d (.sl true []), .d (.int .i64 2)] H2 K) (frzLK [a0] H2 fun l9 H10 => γ 46 l9 H10 fun v7 H8 => optA (intA .gtr a1 v7) fun v11 => ifA v11 (retF [.d (.sl true []), .d (.sl true []), .d (.int .i64 150)] H8 K) (frzLK [a0, a1] H8 fun l14 H15 => γ 47 l14 H15 fun v12 H13 => frzLK [v12] H13 fun l18 H19 => γ 48 l18 H19 fun v16 H17 => frzLK [a0, v12, .d (.bool true)] H17 fun l22 H23 => γ 49 l22 H23 fun v20 H21 => retF [v16, v20, .d (.int .i64 0)] H21 K)))
noncomputable def r12_0 : List Oper := regOps Try.f12 0
noncomputable def r12_1 : List Oper := regOps Try.f12 1
noncomputable def r12_2 : List Oper := regOps Try.f12 2
noncomputable def r12_3 : List Oper := regOps Try.f12 3
noncomputable def r12_4 : List Oper := regOps Try.f12 4
noncomputable def r12_5 : List Oper := regOps Try.f12 5
noncomputable def r12_6 : List Oper := regOps Try.f12 6
noncomputable def c12 : Code := (.seq (.region 0 #[opAt r12_0 0, opAt r12_0 1, opAt r12_0 2] false) (.seq (.block 0 (.seq (.region 1 #[opAt r12_1 0, opAt r12_1 1, opAt r12_1 2, opAt r12_1 3, opAt r12_1 4, opAt r12_1 5, opAt r12_1 6, opAt r12_1 7] false) (.cond (.tmp 8) (.seq (.region 2 #[opAt r12_2 0, opAt r12_2 1, opAt r12_2 2] false) .ret) (.seq (.region 3 #[opAt r12_3 0, opAt r12_3 1, opAt r12_3 2, opAt r12_3 3, opAt r12_3 4] false) (.cond (.tmp 16) (.seq (.region 4 #[opAt r12_4 0, opAt r12_4 1, opAt r12_4 2] false) .ret) .skip))))) (.seq (.region 5 #[opAt r12_5 0, opAt r12_5 1, opAt r12_5 2, opAt r12_5 3] false) (.seq (.region 6 #[opAt r12_6 0, opAt r12_6 1, opAt r12_6 2, opAt r12_6 3, opAt r12_6 4, opAt r12_6 5, opAt r12_6 6, opAt r12_6 7] false) .ret))))
theorem c12_eq : Try.f12.body = some c12 := by kernel_rfl
theorem S12_eq (γ : Calld) (a0 a1 : AV) (H : AHeap) (K : AV → AHeap → Prop) : execC Try.prog γ pol12 Try.f12 c12 [a0, a1] H K = S12 γ a0 a1 H K := by kernel_rfl
theorem C12 {a0 a1 : AV} {H : AHeap} {K : AV → AHeap → Prop} (h : S12 (CallsA Try.prog) a0 a1 H K) : CallsA Try.prog 12 [a0, a1] H K :=
  calls_of Try.func12 (ne_of_beq_false (by kernel_rfl)) c12_eq (by kernel_rfl) (by rw [S12_eq]; exact h)
/-! tithing/tithingref15.Allot -/
def pol13 : Pol := { lend := fun _ => true, keep := [], frz := fun _ => [], perm := fun r => [], bf := fun r => [], ret := true }
def S13 (γ : Calld) (a0 a1 : AV) (H : AHeap) (K : AV → AHeap → Prop) : Prop :=
  optA (lenSl a0) fun v1 => optA (intA .gtr v1 (.d (.int .i64 300))) fun v2 => ifA v2 (retF [.d (.sl true []), .d (.sl true []), .d (.int .i64 2)] H K) (optA (intA .lss a1 (.d (.int .i64 0))) fun v3 => ifA v3 (retF [.d (.sl true []), .d (.sl true []), .d (.int .i64 2)] H K) (frzLK [a0] H fun l6 H7 => γ 50 l6 H7 fun v4 H5 => optA (lenSl v4) fun v8 => optA (intA .gtr a1 v8) fun v9 => ifA v9 (retF [.d (.sl true []), .d (.sl true []), .d (.int .i64 150)] H5 K) (frzLK [a0, a1] H5 fun l12 H13 => γ 51 l12 H13 fun v10 H11 => frzLK [.d (.sl true []), v10] H11 fun l16 H17 => γ 52 l16 H17 fun v14 H15 => frzLK [a0, v10, .d (.bool true)] H15 fun l20 H21 => γ 53 l20 H21 fun v18 H19 => retF [v14, v18, .d (.int .i64 0)] H19 K)))
noncomputable def r13_0 : List Oper := regOps Try.f13 0
noncomputable def r13_1 : List Oper := regOps Try.f13 1
noncomputable def r13_2 : List Oper := regOps Try.f13 2
noncomputable def r13_3 : List Oper := regOps Try.f13 3
noncomputable def r13_4 : List Oper := regOps Try.f13 4
noncomputable def r13_5 : List Oper := regOps Try.f13 5
noncomputable def r13_6 : List Oper := regOps Try.f13 6
noncomputable def c13 : Code := (.seq (.region 0 #[opAt r13_0 0, opAt r13_0 1, opAt r13_0 2] false) (.seq (.block 0 (.seq (.region 1 #[opAt r13_1 0, opAt r13_1 1, opAt r13_1 2, opAt r13_1 3, opAt r13_1 4, opAt r13_1 5, opAt r13_1 6, opAt r13_1 7] false) (.cond (.tmp 8) (.seq (.region 2 #[opAt r13_2 0, opAt r13_2 1, opAt r13_2 2] false) .ret) (.seq (.region 3 #[opAt r13_3 0, opAt r13_3 1, opAt r13_3 2, opAt r13_3 3, opAt r13_3 4, opAt r13_3 5] false) (.cond (.tmp 16) (.seq (.region 4 #[opAt r13_4 0, opAt r13_4 1, opAt r13_4 2] false) .ret) .skip))))) (.seq (.region 5 #[opAt r13_5 0, opAt r13_5 1, opAt r13_5 2, opAt r13_5 3] false) (.seq (.region 6 #[opAt r13_6 0, opAt r13_6 1, opAt r13_6 2, opAt r13_6 3, opAt r13_6 4, opAt r13_6 5, opAt r13_6 6, opAt r13_6 7] false) .ret))))
theorem c13_eq : Try.f13.body = some c13 := by kernel_rfl
theorem S13_eq (γ : Calld) (a0 a1 : AV) (H : AHeap) (K : AV → AHeap → Prop) : execC Try.prog γ pol13 Try.f13 c13 [a0, a1] H K = S13 γ a0 a1 H K := by kernel_rfl
theorem C13 {a0 a1 : AV} {H : AHeap} {K : AV → AHeap → Prop} (h : S13 (CallsA Try.prog) a0 a1 H K) : CallsA Try.prog 13 [a0, a1] H K :=
  calls_of Try.func13 (ne_of_beq_false (by kernel_rfl)) c13_eq (by kernel_rfl) (by rw [S13_eq]; exact h)
/-! tithing/extent.Left -/
def pol14 : Pol := { lend := fun _ => true, keep := [], frz := fun _ => [], perm := fun r => [], bf := fun r => [], ret := true }
def S14 (γ : Calld) (a0 : AV) (H : AHeap) (K : AV → AHeap → Prop) : Prop :=
  frzLK [a0, .d (.sl true [])] H fun l3 H4 => γ 45 l3 H4 fun v1 H2 => optA (unA .not v1) fun v5 => ifA v5 (retF [.d (.int .i64 0), .d (.int .i64 2)] H2 K) (frzLK [a0] H2 fun l8 H9 => γ 46 l8 H9 fun v6 H7 => retF [v6, .d (.int .i64 0)] H7 K)
noncomputable def r14_0 : List Oper := regOps Try.f14 0
noncomputable def r14_1 : List Oper := regOps Try.f14 1
noncomputable def r14_2 : List Oper := regOps Try.f14 2
noncomputable def r14_3 : List Oper := regOps Try.f14 3
noncomputable def c14 : Code := (.seq (.region 0 #[opAt r14_0 0, opAt r14_0 1] false) (.seq (.seq (.region 1 #[opAt r14_1 0, opAt r14_1 1, opAt r14_1 2] false) (.cond (.tmp 6) (.seq (.region 2 #[opAt r14_2 0, opAt r14_2 1] false) .ret) .skip)) (.seq (.region 3 #[opAt r14_3 0, opAt r14_3 1, opAt r14_3 2, opAt r14_3 3] false) .ret)))
theorem c14_eq : Try.f14.body = some c14 := by kernel_rfl
theorem S14_eq (γ : Calld) (a0 : AV) (H : AHeap) (K : AV → AHeap → Prop) : execC Try.prog γ pol14 Try.f14 c14 [a0] H K = S14 γ a0 H K := by kernel_rfl
theorem C14 {a0 : AV} {H : AHeap} {K : AV → AHeap → Prop} (h : S14 (CallsA Try.prog) a0 H K) : CallsA Try.prog 14 [a0] H K :=
  calls_of Try.func14 (ne_of_beq_false (by kernel_rfl)) c14_eq (by kernel_rfl) (by rw [S14_eq]; exact h)
/-! tithing/tithingref15.Left -/
def pol15 : Pol := { lend := fun _ => true, keep := [], frz := fun _ => [], perm := fun r => [], bf := fun r => [], ret := true }
def S15 (γ : Calld) (a0 : AV) (H : AHeap) (K : AV → AHeap → Prop) : Prop :=
  optA (lenSl a0) fun v1 => optA (intA .gtr v1 (.d (.int .i64 300))) fun v2 => ifA v2 (retF [.d (.int .i64 0), .d (.int .i64 2)] H K) (frzLK [a0] H fun l5 H6 => γ 50 l5 H6 fun v3 H4 => optA (lenSl v3) fun v7 => retF [v7, .d (.int .i64 0)] H4 K)
noncomputable def r15_0 : List Oper := regOps Try.f15 0
noncomputable def r15_1 : List Oper := regOps Try.f15 1
noncomputable def r15_2 : List Oper := regOps Try.f15 2
noncomputable def r15_3 : List Oper := regOps Try.f15 3
noncomputable def c15 : Code := (.seq (.region 0 #[opAt r15_0 0, opAt r15_0 1] false) (.seq (.seq (.region 1 #[opAt r15_1 0, opAt r15_1 1, opAt r15_1 2] false) (.cond (.tmp 6) (.seq (.region 2 #[opAt r15_2 0, opAt r15_2 1] false) .ret) .skip)) (.seq (.region 3 #[opAt r15_3 0, opAt r15_3 1, opAt r15_3 2, opAt r15_3 3, opAt r15_3 4] false) .ret)))
theorem c15_eq : Try.f15.body = some c15 := by kernel_rfl
theorem S15_eq (γ : Calld) (a0 : AV) (H : AHeap) (K : AV → AHeap → Prop) : execC Try.prog γ pol15 Try.f15 c15 [a0] H K = S15 γ a0 H K := by kernel_rfl
theorem C15 {a0 : AV} {H : AHeap} {K : AV → AHeap → Prop} (h : S15 (CallsA Try.prog) a0 H K) : CallsA Try.prog 15 [a0] H K :=
  calls_of Try.func15 (ne_of_beq_false (by kernel_rfl)) c15_eq (by kernel_rfl) (by rw [S15_eq]; exact h)
/-! tithing/tithingref15.Same -/
def pol16 : Pol := { lend := fun _ => true, keep := [0, 1, 5], frz := fun _ => [], perm := fun r => if r = 6 then [0, 1, 2, 3, 4, 5, 6, 7, 8] else [], bf := fun r => if r = 6 then [0, 0, 3, 7, 0, 0, 48, 112, 255] else [], ret := true }
def S16 (γ : Calld) (a0 a1 : AV) (H : AHeap) (K : AV → AHeap → Prop) : Prop :=
  optA (lenSl a0) fun v1 => optA (lenSl a1) fun v2 => optA (intA .neq v1 v2) fun v3 => ifA v3 (retF [.d (.bool false)] H K) (loopA (fun X4 l5 H6 => optA (lenSl (l5.getD 0 .junk)) fun v7 => optA (intA .lss (l5.getD 2 .junk) v7) fun v8 => ifA v8 (drA true (optA (indexAddrA ti23 2 (l5.getD 0 .junk) (l5.getD 2 .junk)) fun v9 => optA (ldV true 2 v9 H6) fun v10 => optA (indexAddrA ti23 2 (l5.getD 1 .junk) (l5.getD 2 .junk)) fun v11 => optA (ldV true 2 v11 H6) fun v12 => optA (aggA Try.prog .neq 66 v10 v12) fun v13 => ifA v13 (retF [.d (.bool false)] H6 K) (optA (intA .add (l5.getD 2 .junk) (.d (.int .i64 1))) fun v14 => X4 [l5.getD 0 .junk, l5.getD 1 .junk, v14] H6))) (retF [.d (.bool true)] H6 K)) [a0, a1, .d (.int .i64 0)] H)
noncomputable def r16_0 : List Oper := regOps Try.f16 0
noncomputable def r16_1 : List Oper := regOps Try.f16 1
noncomputable def r16_2 : List Oper := regOps Try.f16 2
noncomputable def r16_3 : List Oper := regOps Try.f16 3
noncomputable def r16_4 : List Oper := regOps Try.f16 4
noncomputable def r16_5 : List Oper := regOps Try.f16 5
noncomputable def r16_6 : List Oper := regOps Try.f16 6
noncomputable def r16_7 : List Oper := regOps Try.f16 7
noncomputable def r16_8 : List Oper := regOps Try.f16 8
noncomputable def c16 : Code := (.seq (.region 0 #[opAt r16_0 0] false) (.seq (.seq (.region 1 #[opAt r16_1 0, opAt r16_1 1, opAt r16_1 2, opAt r16_1 3, opAt r16_1 4] false) (.cond (.tmp 10) (.seq (.region 2 #[opAt r16_2 0] false) .ret) .skip)) (.seq (.seq (.region 3 #[opAt r16_3 0] false) (.block 0 (.loop (.seq (.seq (.region 4 #[opAt r16_4 0, opAt r16_4 1, opAt r16_4 2, opAt r16_4 3] false) (.cond (.tmp 14) .skip (.exit 0))) (.seq (.block 1 (.seq (.region 6 #[opAt r16_5 0, opAt r16_5 1, opAt r16_5 2, opAt r16_5 3, opAt r16_5 4, opAt r16_5 5, opAt r16_5 6, opAt r16_5 7, opAt r16_5 8] true) (.cond (.tmp 25) (.seq (.region 7 #[opAt r16_6 0] false) .ret) .skip))) (.region 5 #[opAt r16_7 0, opAt r16_7 1, opAt r16_7 2] false)))))) (.seq (.region 8 #[opAt r16_8 0] false) .ret))))
theorem c16_eq : Try.f16.body = some c16 := by kernel_rfl
theorem S16_eq (γ : Calld) (a0 a1 : AV) (H : AHeap) (K : AV → AHeap → Prop) : execC Try.prog γ pol16 Try.f16 c16 [a0, a1] H K = S16 γ a0 a1 H K := by kernel_rfl
theorem C16 {a0 a1 : AV} {H : AHeap} {K : AV → AHeap → Prop} (h : S16 (CallsA Try.prog) a0 a1 H K) : CallsA Try.prog 16 [a0, a1] H K :=
  calls_of Try.func16 (ne_of_beq_false (by kernel_rfl)) c16_eq (by kernel_rfl) (by rw [S16_eq]; exact h)
/-! tithing/tithingref15.SameMaps -/
def pol17 : Pol := { lend := fun _ => true, keep := [0, 1, 5], frz := fun _ => [], perm := fun r => if r = 6 then [0, 1, 2, 3, 4, 5, 6, 7, 8] else [], bf := fun r => if r = 6 then [0, 0, 3, 7, 0, 0, 48, 112, 255] else [], ret := true }
def S17 (γ : Calld) (a0 a1 : AV) (H : AHeap) (K : AV → AHeap → Prop) : Prop :=
  optA (lenSl a0) fun v1 => optA (lenSl a1) fun v2 => optA (intA .neq v1 v2) fun v3 => ifA v3 (retF [.d (.bool false)] H K) (loopA (fun X4 l5 H6 => optA (lenSl (l5.getD 0 .junk)) fun v7 => optA (intA .lss (l5.getD 2 .junk) v7) fun v8 => ifA v8 (drA true (optA (indexAddrA ti22 1 (l5.getD 0 .junk) (l5.getD 2 .junk)) fun v9 => optA (ldV false 1 v9 H6) fun v10 => optA (indexAddrA ti22 1 (l5.getD 1 .junk) (l5.getD 2 .junk)) fun v11 => optA (ldV false 1 v11 H6) fun v12 => optA (boolA .neq v10 v12) fun v13 => ifA v13 (retF [.d (.bool false)] H6 K) (optA (intA .add (l5.getD 2 .junk) (.d (.int .i64 1))) fun v14 => X4 [l5.getD 0 .junk, l5.getD 1 .junk, v14] H6))) (retF [.d (.bool true)] H6 K)) [a0, a1, .d (.int .i64 0)] H)
noncomputable def r17_0 : List Oper := regOps Try.f17 0
noncomputable def r17_1 : List Oper := regOps Try.f17 1
noncomputable def r17_2 : List Oper := regOps Try.f17 2
noncomputable def r17_3 : List Oper := regOps Try.f17 3
noncomputable def r17_4 : List Oper := regOps Try.f17 4
noncomputable def r17_5 : List Oper := regOps Try.f17 5
noncomputable def r17_6 : List Oper := regOps Try.f17 6
noncomputable def r17_7 : List Oper := regOps Try.f17 7
noncomputable def r17_8 : List Oper := regOps Try.f17 8
noncomputable def c17 : Code := (.seq (.region 0 #[opAt r17_0 0] false) (.seq (.seq (.region 1 #[opAt r17_1 0, opAt r17_1 1, opAt r17_1 2, opAt r17_1 3, opAt r17_1 4] false) (.cond (.tmp 10) (.seq (.region 2 #[opAt r17_2 0] false) .ret) .skip)) (.seq (.seq (.region 3 #[opAt r17_3 0] false) (.block 0 (.loop (.seq (.seq (.region 4 #[opAt r17_4 0, opAt r17_4 1, opAt r17_4 2, opAt r17_4 3] false) (.cond (.tmp 14) .skip (.exit 0))) (.seq (.block 1 (.seq (.region 6 #[opAt r17_5 0, opAt r17_5 1, opAt r17_5 2, opAt r17_5 3, opAt r17_5 4, opAt r17_5 5, opAt r17_5 6, opAt r17_5 7, opAt r17_5 8] true) (.cond (.tmp 25) (.seq (.region 7 #[opAt r17_6 0] false) .ret) .skip))) (.region 5 #[opAt r17_7 0, opAt r17_7 1, opAt r17_7 2] false)))))) (.seq (.region 8 #[opAt r17_8 0] false) .ret))))
theorem c17_eq : Try.f17.body = some c17 := by kernel_rfl
theorem S17_eq (γ : Calld) (a0 a1 : AV) (H : AHeap) (K : AV → AHeap → Prop) : execC Try.prog γ pol17 Try.f17 c17 [a0, a1] H K = S17 γ a0 a1 H K := by kernel_rfl
theorem C17 {a0 a1 : AV} {H : AHeap} {K : AV → AHeap → Prop} (h : S17 (CallsA Try.prog) a0 a1 H K) : CallsA Try.prog 17 [a0, a1] H K :=
  calls_of Try.func17 (ne_of_beq_false (by kernel_rfl)) c17_eq (by kernel_rfl) (by rw [S17_eq]; exact h)
/-! tithing/tithinglaw15.First -/
def pol18 : Pol := { lend := fun _ => true, keep := [], frz := fun _ => [], perm := fun r => [], bf := fun r => [], ret := true }
def S18 (γ : Calld) (H : AHeap) (K : AV → AHeap → Prop) : Prop :=
  newK H (fun n3 => bsA ti4 10 [0, 1, 2, 3, 4, 5, 6, 7, 8, 9] [.d (.bool true), .d (.bool true), .d (.bool false), .d (.bool false), .d (.bool true), .d (.bool false), .d (.bool false), .d (.bool false), .d (.bool false), .d (.bool false)] H n3) fun v1 H2 => frzLK [v1, .d (.int .i64 3)] H2 fun l6 H7 => γ 12 l6 H7 fun v4 H5 => optA (extractA v4 0) fun v8 => optA (extractA v4 1) fun v9 => optA (extractA v4 2) fun v10 => frzLK [v1, .d (.int .i64 6)] H5 fun l13 H14 => γ 12 l13 H14 fun v11 H12 => optA (extractA v11 0) fun v15 => optA (extractA v11 1) fun v16 => optA (extractA v11 2) fun v17 => optA (intA .eql v10 (.d (.int .i64 0))) fun v18 => ifA v18 (optA (intA .eql v17 (.d (.int .i64 0))) fun v19 => ifA v19 (stepK (bdA Try.prog ti66 [0, 1] [.d (.int .i64 5), .d (.int .i64 3)] H12) H12 fun v20 H21 => newK H21 (fun n24 => bsA ti66 1 [0] [v20] H21 n24) fun v22 H23 => frzLK [v8, v22] H23 fun l27 H28 => γ 16 l27 H28 fun v25 H26 => ifA v25 (stepK (bdA Try.prog ti66 [0, 1] [.d (.int .i64 2), .d (.int .i64 2)] H26) H26 fun v29 H30 => stepK (bdA Try.prog ti66 [0, 1] [.d (.int .i64 5), .d (.int .i64 4)] H30) H30 fun v31 H32 => newK H32 (fun n35 => bsA ti66 2 [0, 1] [v29, v31] H32 n35) fun v33 H34 => frzLK [v15, v33] H34 fun l38 H39 => γ 16 l38 H39 fun v36 H37 => retF [v36] H37 K) (retF [.d (.bool false)] H26 K)) (retF [.d (.bool false)] H12 K)) (retF [.d (.bool false)] H12 K)
noncomputable def r18_0 : List Oper := regOps Try.f18 0
noncomputable def r18_1 : List Oper := regOps Try.f18 1
noncomputable def r18_2 : List Oper := regOps Try.f18 2
noncomputable def r18_3 : List Oper := regOps Try.f18 3
noncomputable def r18_4 : List Oper := regOps Try.f18 4
noncomputable def c18 : Code := (.seq (.region 0 #[opAt r18_0 0] false) (.seq (.region 1 #[opAt r18_1 0, opAt r18_1 1] false) (.seq (.region 2 #[opAt r18_2 0, opAt r18_2 1, opAt r18_2 2, opAt r18_2 3, opAt r18_2 4, opAt r18_2 5, opAt r18_2 6, opAt r18_2 7, opAt r18_2 8] false) (.seq (.region 3 #[opAt r18_3 0, opAt r18_3 1, opAt r18_3 2, opAt r18_3 3, opAt r18_3 4, opAt r18_3 5, opAt r18_3 6, opAt r18_3 7, opAt r18_3 8] false) (.seq (.region 4 #[opAt r18_4 0, opAt r18_4 1, opAt r18_4 2, opAt r18_4 3, opAt r18_4 4, opAt r18_4 5, opAt r18_4 6, opAt r18_4 7, opAt r18_4 8, opAt r18_4 9, opAt r18_4 10, opAt r18_4 11, opAt r18_4 12, opAt r18_4 13, opAt r18_4 14, opAt r18_4 15, opAt r18_4 16, opAt r18_4 17, opAt r18_4 18, opAt r18_4 19] false) .ret)))))
theorem c18_eq : Try.f18.body = some c18 := by kernel_rfl
theorem S18_eq (γ : Calld) (H : AHeap) (K : AV → AHeap → Prop) : execC Try.prog γ pol18 Try.f18 c18 [] H K = S18 γ H K := by kernel_rfl
theorem C18 {H : AHeap} {K : AV → AHeap → Prop} (h : S18 (CallsA Try.prog) H K) : CallsA Try.prog 18 [] H K :=
  calls_of Try.func18 (ne_of_beq_false (by kernel_rfl)) c18_eq (by kernel_rfl) (by rw [S18_eq]; exact h)
/-! tithing/extent.Of -/
def pol19 : Pol := { lend := fun _ => true, keep := [0, 4, 8, 9, 10], frz := fun _ => [], perm := fun r => [], bf := fun r => [], ret := true }
def S19 (γ : Calld) (a0 : AV) (H : AHeap) (K : AV → AHeap → Prop) : Prop :=
  newK H (fun n3 => some (.map n3, [(n3, .map [] 0)])) fun v1 H2 => optA (lenSl a0) fun v4 => loopA (fun X5 l6 H7 => optA (intA .lss (l6.getD 4 .junk) (l6.getD 3 .junk)) fun v8 => ifA v8 (optA (indexAddrA ti33 1 (l6.getD 2 .junk) (l6.getD 4 .junk)) fun v9 => optA (ldV false 1 v9 H7) fun v10 => optA (intA .lss v10 (.d (.int .i64 0))) fun v11 => ifA v11 (retF [.d (.sl true []), .d (.int .i64 2)] H7 K) (optA (intA .geq v10 (.d (.int .i64 300))) fun v12 => ifA v12 (retF [.d (.sl true []), .d (.int .i64 2)] H7 K) (optA (lookKA Try.prog 3 v10 (fun kk => lookA (.d (.bool false)) (l6.getD 1 .junk) kk false H7)) fun v13 => ifA v13 (retF [.d (.sl true []), .d (.int .i64 2)] H7 K) (stepK (muA Try.prog 3 (l6.getD 1 .junk) v10 (.d (.bool true)) H7) H7 fun v14 H15 => optA (intA .add (l6.getD 4 .junk) (.d (.int .i64 1))) fun v16 => X5 [l6.getD 0 .junk, l6.getD 1 .junk, l6.getD 2 .junk, l6.getD 3 .junk, v16] H15)))) (frzLK [l6.getD 0 .junk] H7 fun l19 H20 => γ 48 l19 H20 fun v17 H18 => retF [v17, .d (.int .i64 0)] H18 K)) [a0, v1, a0, v4, .d (.int .i64 0)] H2
noncomputable def r19_0 : List Oper := regOps Try.f19 0
noncomputable def r19_1 : List Oper := regOps Try.f19 1
noncomputable def r19_2 : List Oper := regOps Try.f19 2
noncomputable def r19_3 : List Oper := regOps Try.f19 3
noncomputable def r19_4 : List Oper := regOps Try.f19 4
noncomputable def r19_5 : List Oper := regOps Try.f19 5
noncomputable def r19_6 : List Oper := regOps Try.f19 6
noncomputable def r19_7 : List Oper := regOps Try.f19 7
noncomputable def r19_8 : List Oper := regOps Try.f19 8
noncomputable def r19_9 : List Oper := regOps Try.f19 9
noncomputable def c19 : Code := (.seq (.region 0 #[opAt r19_0 0, opAt r19_0 1] false) (.seq (.region 1 #[opAt r19_1 0, opAt r19_1 1] false) (.seq (.seq (.region 2 #[opAt r19_2 0, opAt r19_2 1, opAt r19_2 2] false) (.block 0 (.loop (.seq (.region 3 #[opAt r19_3 0] false) (.seq (.cond (.tmp 11) .skip (.exit 0)) (.seq (.block 1 (.seq (.region 4 #[opAt r19_4 0, opAt r19_4 1, opAt r19_4 2] false) (.seq (.seq (.region 5 #[opAt r19_5 0, opAt r19_5 1, opAt r19_5 2, opAt r19_5 3, opAt r19_5 4, opAt r19_5 5, opAt r19_5 6, opAt r19_5 7, opAt r19_5 8, opAt r19_5 9, opAt r19_5 10] false) (.cond (.tmp 24) (.seq (.region 6 #[opAt r19_6 0, opAt r19_6 1] false) .ret) .skip)) (.region 7 #[opAt r19_7 0, opAt r19_7 1, opAt r19_7 2] false)))) (.region 8 #[opAt r19_8 0, opAt r19_8 1] false))))))) (.seq (.region 9 #[opAt r19_9 0, opAt r19_9 1, opAt r19_9 2, opAt r19_9 3] false) .ret))))
theorem c19_eq : Try.f19.body = some c19 := by kernel_rfl
theorem S19_eq (γ : Calld) (a0 : AV) (H : AHeap) (K : AV → AHeap → Prop) : execC Try.prog γ pol19 Try.f19 c19 [a0] H K = S19 γ a0 H K := by kernel_rfl
theorem C19 {a0 : AV} {H : AHeap} {K : AV → AHeap → Prop} (h : S19 (CallsA Try.prog) a0 H K) : CallsA Try.prog 19 [a0] H K :=
  calls_of Try.func19 (ne_of_beq_false (by kernel_rfl)) c19_eq (by kernel_rfl) (by rw [S19_eq]; exact h)
/-! tithing/tithingref15.Of -/
def pol20 : Pol := { lend := fun _ => true, keep := [0, 4, 5], frz := fun _ => [], perm := fun r => if r = 9 then [0, 1, 2, 3, 4, 5, 6, 7, 8] else [], bf := fun r => if r = 9 then [0, 0, 3, 7, 0, 0, 48, 112, 255] else [], ret := true }
def S20 (γ : Calld) (a0 : AV) (H : AHeap) (K : AV → AHeap → Prop) : Prop :=
  loopA (fun X1 l2 H3 => optA (lenSl (l2.getD 0 .junk)) fun v4 => optA (intA .lss (l2.getD 1 .junk) v4) fun v5 => ifA v5 (optA (indexAddrA ti33 1 (l2.getD 0 .junk) (l2.getD 1 .junk)) fun v6 => optA (ldV false 1 v6 H3) fun v7 => optA (intA .lss v7 (.d (.int .i64 0))) fun v8 => ifA v8 (retF [.d (.sl true []), .d (.int .i64 2)] H3 K) (optA (indexAddrA ti33 1 (l2.getD 0 .junk) (l2.getD 1 .junk)) fun v9 => optA (ldV false 1 v9 H3) fun v10 => optA (intA .geq v10 (.d (.int .i64 300))) fun v11 => ifA v11 (retF [.d (.sl true []), .d (.int .i64 2)] H3 K) (loopA (fun X12 l13 H14 => optA (intA .lss (l13.getD 2 .junk) (l13.getD 1 .junk)) fun v15 => ifA v15 (drA true (optA (indexAddrA ti33 1 (l13.getD 0 .junk) (l13.getD 2 .junk)) fun v16 => optA (ldV false 1 v16 H14) fun v17 => optA (indexAddrA ti33 1 (l13.getD 0 .junk) (l13.getD 1 .junk)) fun v18 => optA (ldV false 1 v18 H14) fun v19 => optA (intA .eql v17 v19) fun v20 => ifA v20 (retF [.d (.sl true []), .d (.int .i64 2)] H14 K) (optA (intA .add (l13.getD 2 .junk) (.d (.int .i64 1))) fun v21 => X12 [l13.getD 0 .junk, l13.getD 1 .junk, v21] H14))) (optA (intA .add (l13.getD 1 .junk) (.d (.int .i64 1))) fun v22 => X1 [l13.getD 0 .junk, v22, l13.getD 2 .junk] H14)) [l2.getD 0 .junk, l2.getD 1 .junk, .d (.int .i64 0)] H3))) (frzLK [.d (.sl true []), l2.getD 0 .junk] H3 fun l25 H26 => γ 52 l25 H26 fun v23 H24 => retF [v23, .d (.int .i64 0)] H24 K)) [a0, .d (.int .i64 0), .junk] H
noncomputable def r20_0 : List Oper := regOps Try.f20 0
noncomputable def r20_1 : List Oper := regOps Try.f20 1
noncomputable def r20_2 : List Oper := regOps Try.f20 2
noncomputable def r20_3 : List Oper := regOps Try.f20 3
noncomputable def r20_4 : List Oper := regOps Try.f20 4
noncomputable def r20_5 : List Oper := regOps Try.f20 5
noncomputable def r20_6 : List Oper := regOps Try.f20 6
noncomputable def r20_7 : List Oper := regOps Try.f20 7
noncomputable def r20_8 : List Oper := regOps Try.f20 8
noncomputable def r20_9 : List Oper := regOps Try.f20 9
noncomputable def r20_10 : List Oper := regOps Try.f20 10
noncomputable def r20_11 : List Oper := regOps Try.f20 11
noncomputable def c20 : Code := (.seq (.region 0 #[opAt r20_0 0, opAt r20_0 1] false) (.seq (.seq (.region 1 #[opAt r20_1 0] false) (.block 0 (.loop (.seq (.seq (.region 2 #[opAt r20_2 0, opAt r20_2 1, opAt r20_2 2, opAt r20_2 3] false) (.cond (.tmp 9) .skip (.exit 0))) (.seq (.block 1 (.seq (.seq (.region 4 #[opAt r20_3 0, opAt r20_3 1, opAt r20_3 2, opAt r20_3 3, opAt r20_3 4, opAt r20_3 5, opAt r20_3 6, opAt r20_3 7, opAt r20_3 8, opAt r20_3 9, opAt r20_3 10, opAt r20_3 11] false) (.cond (.tmp 23) (.seq (.region 5 #[opAt r20_4 0, opAt r20_4 1] false) .ret) .skip)) (.seq (.region 6 #[opAt r20_5 0] false) (.block 2 (.loop (.seq (.seq (.region 7 #[opAt r20_6 0, opAt r20_6 1, opAt r20_6 2] false) (.cond (.tmp 26) .skip (.exit 2))) (.seq (.block 3 (.seq (.region 9 #[opAt r20_7 0, opAt r20_7 1, opAt r20_7 2, opAt r20_7 3, opAt r20_7 4, opAt r20_7 5, opAt r20_7 6, opAt r20_7 7, opAt r20_7 8] true) (.cond (.tmp 37) (.seq (.region 10 #[opAt r20_8 0, opAt r20_8 1] false) .ret) .skip))) (.region 8 #[opAt r20_9 0, opAt r20_9 1, opAt r20_9 2] false)))))))) (.region 3 #[opAt r20_10 0, opAt r20_10 1, opAt r20_10 2] false)))))) (.seq (.region 11 #[opAt r20_11 0, opAt r20_11 1, opAt r20_11 2, opAt r20_11 3] false) .ret)))
theorem c20_eq : Try.f20.body = some c20 := by kernel_rfl
theorem S20_eq (γ : Calld) (a0 : AV) (H : AHeap) (K : AV → AHeap → Prop) : execC Try.prog γ pol20 Try.f20 c20 [a0] H K = S20 γ a0 H K := by kernel_rfl
theorem C20 {a0 : AV} {H : AHeap} {K : AV → AHeap → Prop} (h : S20 (CallsA Try.prog) a0 H K) : CallsA Try.prog 20 [a0] H K :=
  calls_of Try.func20 (ne_of_beq_false (by kernel_rfl)) c20_eq (by kernel_rfl) (by rw [S20_eq]; exact h)
/-! tithing/extent.Free -/
def pol21 : Pol := { lend := fun _ => true, keep := [], frz := fun _ => [], perm := fun r => [], bf := fun r => [], ret := true }
def S21 (γ : Calld) (a0 a1 : AV) (H : AHeap) (K : AV → AHeap → Prop) : Prop :=
  frzLK [a0, a1, .d (.bool false)] H fun l3 H4 => γ 54 l3 H4 fun v1 H2 => optA (extractA v1 0) fun v5 => optA (extractA v1 1) fun v6 => retF [v5, v6] H2 K
noncomputable def r21_0 : List Oper := regOps Try.f21 0
noncomputable def r21_1 : List Oper := regOps Try.f21 1
noncomputable def c21 : Code := (.seq (.region 0 #[opAt r21_0 0, opAt r21_0 1] false) (.seq (.region 1 #[opAt r21_1 0, opAt r21_1 1, opAt r21_1 2, opAt r21_1 3, opAt r21_1 4, opAt r21_1 5, opAt r21_1 6] false) .ret))
theorem c21_eq : Try.f21.body = some c21 := by kernel_rfl
theorem S21_eq (γ : Calld) (a0 a1 : AV) (H : AHeap) (K : AV → AHeap → Prop) : execC Try.prog γ pol21 Try.f21 c21 [a0, a1] H K = S21 γ a0 a1 H K := by kernel_rfl
theorem C21 {a0 a1 : AV} {H : AHeap} {K : AV → AHeap → Prop} (h : S21 (CallsA Try.prog) a0 a1 H K) : CallsA Try.prog 21 [a0, a1] H K :=
  calls_of Try.func21 (ne_of_beq_false (by kernel_rfl)) c21_eq (by kernel_rfl) (by rw [S21_eq]; exact h)
/-! tithing/tithingref15.Free -/
def pol22 : Pol := { lend := fun _ => true, keep := [], frz := fun _ => [], perm := fun r => [], bf := fun r => [], ret := true }
def S22 (γ : Calld) (a0 a1 : AV) (H : AHeap) (K : AV → AHeap → Prop) : Prop :=
  optA (lenSl a0) fun v1 => frzLK [v1, a1] H fun l4 H5 => γ 35 l4 H5 fun v2 H3 => optA (unA .not v2) fun v6 => ifA v6 (retF [.d (.sl true []), .d (.int .i64 2)] H3 K) (frzLK [a1] H3 fun l9 H10 => γ 56 l9 H10 fun v7 H8 => frzLK [a0, v7, .d (.bool true)] H8 fun l13 H14 => γ 55 l13 H14 fun v11 H12 => optA (unA .not v11) fun v15 => ifA v15 (retF [.d (.sl true []), .d (.int .i64 2)] H12 K) (frzLK [a1] H12 fun l18 H19 => γ 56 l18 H19 fun v16 H17 => frzLK [a0, v16, .d (.bool false)] H17 fun l22 H23 => γ 53 l22 H23 fun v20 H21 => retF [v20, .d (.int .i64 0)] H21 K))
noncomputable def r22_0 : List Oper := regOps Try.f22 0
noncomputable def r22_1 : List Oper := regOps Try.f22 1
noncomputable def r22_2 : List Oper := regOps Try.f22 2
noncomputable def r22_3 : List Oper := regOps Try.f22 3
noncomputable def c22 : Code := (.seq (.region 0 #[opAt r22_0 0, opAt r22_0 1] false) (.seq (.seq (.region 1 #[opAt r22_1 0, opAt r22_1 1, opAt r22_1 2, opAt r22_1 3, opAt r22_1 4, opAt r22_1 5, opAt r22_1 6, opAt r22_1 7, opAt r22_1 8, opAt r22_1 9, opAt r22_1 10, opAt r22_1 11] false) (.cond (.tmp 17) (.seq (.region 2 #[opAt r22_2 0, opAt r22_2 1] false) .ret) .skip)) (.seq (.region 3 #[opAt r22_3 0, opAt r22_3 1, opAt r22_3 2, opAt r22_3 3, opAt r22_3 4, opAt r22_3 5] false) .ret)))
theorem c22_eq : Try.f22.body = some c22 := by kernel_rfl
theorem S22_eq (γ : Calld) (a0 a1 : AV) (H : AHeap) (K : AV → AHeap → Prop) : execC Try.prog γ pol22 Try.f22 c22 [a0, a1] H K = S22 γ a0 a1 H K := by kernel_rfl
theorem C22 {a0 a1 : AV} {H : AHeap} {K : AV → AHeap → Prop} (h : S22 (CallsA Try.prog) a0 a1 H K) : CallsA Try.prog 22 [a0, a1] H K :=
  calls_of Try.func22 (ne_of_beq_false (by kernel_rfl)) c22_eq (by kernel_rfl) (by rw [S22_eq]; exact h)
/-! tithing/extent.Take -/
def pol23 : Pol := { lend := fun _ => true, keep := [], frz := fun _ => [], perm := fun r => [], bf := fun r => [], ret := true }
def S23 (γ : Calld) (a0 a1 : AV) (H : AHeap) (K : AV → AHeap → Prop) : Prop :=
  frzLK [a0, a1, .d (.bool true)] H fun l3 H4 => γ 54 l3 H4 fun v1 H2 => optA (extractA v1 0) fun v5 => optA (extractA v1 1) fun v6 => retF [v5, v6] H2 K
noncomputable def r23_0 : List Oper := regOps Try.f23 0
noncomputable def r23_1 : List Oper := regOps Try.f23 1
noncomputable def c23 : Code := (.seq (.region 0 #[opAt r23_0 0, opAt r23_0 1] false) (.seq (.region 1 #[opAt r23_1 0, opAt r23_1 1, opAt r23_1 2, opAt r23_1 3, opAt r23_1 4, opAt r23_1 5, opAt r23_1 6] false) .ret))
theorem c23_eq : Try.f23.body = some c23 := by kernel_rfl
theorem S23_eq (γ : Calld) (a0 a1 : AV) (H : AHeap) (K : AV → AHeap → Prop) : execC Try.prog γ pol23 Try.f23 c23 [a0, a1] H K = S23 γ a0 a1 H K := by kernel_rfl
theorem C23 {a0 a1 : AV} {H : AHeap} {K : AV → AHeap → Prop} (h : S23 (CallsA Try.prog) a0 a1 H K) : CallsA Try.prog 23 [a0, a1] H K :=
  calls_of Try.func23 (ne_of_beq_false (by kernel_rfl)) c23_eq (by kernel_rfl) (by rw [S23_eq]; exact h)
/-! tithing/tithingref15.Take -/
def pol24 : Pol := { lend := fun _ => true, keep := [], frz := fun _ => [], perm := fun r => [], bf := fun r => [], ret := true }
def S24 (γ : Calld) (a0 a1 : AV) (H : AHeap) (K : AV → AHeap → Prop) : Prop :=
  optA (lenSl a0) fun v1 => frzLK [v1, a1] H fun l4 H5 => γ 35 l4 H5 fun v2 H3 => optA (unA .not v2) fun v6 => ifA v6 (retF [.d (.sl true []), .d (.int .i64 2)] H3 K) (frzLK [a1] H3 fun l9 H10 => γ 56 l9 H10 fun v7 H8 => frzLK [a0, v7, .d (.bool false)] H8 fun l13 H14 => γ 55 l13 H14 fun v11 H12 => optA (unA .not v11) fun v15 => ifA v15 (retF [.d (.sl true []), .d (.int .i64 2)] H12 K) (frzLK [a1] H12 fun l18 H19 => γ 56 l18 H19 fun v16 H17 => frzLK [a0, v16, .d (.bool true)] H17 fun l22 H23 => γ 53 l22 H23 fun v20 H21 => retF [v20, .d (.int .i64 0)] H21 K))
noncomputable def r24_0 : List Oper := regOps Try.f24 0
noncomputable def r24_1 : List Oper := regOps Try.f24 1
noncomputable def r24_2 : List Oper := regOps Try.f24 2
noncomputable def r24_3 : List Oper := regOps Try.f24 3
noncomputable def c24 : Code := (.seq (.region 0 #[opAt r24_0 0, opAt r24_0 1] false) (.seq (.seq (.region 1 #[opAt r24_1 0, opAt r24_1 1, opAt r24_1 2, opAt r24_1 3, opAt r24_1 4, opAt r24_1 5, opAt r24_1 6, opAt r24_1 7, opAt r24_1 8, opAt r24_1 9, opAt r24_1 10, opAt r24_1 11] false) (.cond (.tmp 17) (.seq (.region 2 #[opAt r24_2 0, opAt r24_2 1] false) .ret) .skip)) (.seq (.region 3 #[opAt r24_3 0, opAt r24_3 1, opAt r24_3 2, opAt r24_3 3, opAt r24_3 4, opAt r24_3 5] false) .ret)))
theorem c24_eq : Try.f24.body = some c24 := by kernel_rfl
theorem S24_eq (γ : Calld) (a0 a1 : AV) (H : AHeap) (K : AV → AHeap → Prop) : execC Try.prog γ pol24 Try.f24 c24 [a0, a1] H K = S24 γ a0 a1 H K := by kernel_rfl
theorem C24 {a0 a1 : AV} {H : AHeap} {K : AV → AHeap → Prop} (h : S24 (CallsA Try.prog) a0 a1 H K) : CallsA Try.prog 24 [a0, a1] H K :=
  calls_of Try.func24 (ne_of_beq_false (by kernel_rfl)) c24_eq (by kernel_rfl) (by rw [S24_eq]; exact h)
/-! tithing/extent.Grow -/
def pol25 : Pol := { lend := fun _ => true, keep := [0, 1, 2, 9, 11], frz := fun _ => [], perm := fun r => if r = 8 then [0, 1, 2, 3, 4, 5, 6, 7, 8, 9, 10, 11, 12, 13] else [], bf := fun r => if r = 8 then [0, 0, 2, 7, 15, 31, 0, 0, 128, 448, 960, 1984, 4095, 8191] else [], ret := true }
def S25 (γ : Calld) (a0 a1 a2 : AV) (H : AHeap) (K : AV → AHeap → Prop) : Prop :=
  frzLK [a0, a1] H fun l3 H4 => γ 45 l3 H4 fun v1 H2 => optA (unA .not v1) fun v5 => ifA v5 (retF [.d (.sl true []), .d (.sl true []), .d (.int .i64 2)] H2 K) (optA (intA .lss a2 (.d (.int .i64 0))) fun v6 => ifA v6 (retF [.d (.sl true []), .d (.sl true []), .d (.int .i64 2)] H2 K) (frzLK [a0] H2 fun l9 H10 => γ 46 l9 H10 fun v7 H8 => optA (intA .gtr a2 v7) fun v11 => ifA v11 (retF [.d (.sl true []), .d (.sl true []), .d (.int .i64 150)] H8 K) (optA (lenSl a1) fun v12 => optA (intA .gtr v12 (.d (.int .i64 0))) fun v13 => ifA v13 (drA true (optA (intA .sub v12 (.d (.int .i64 1))) fun v14 => optA (indexAddrA ti23 2 a1 v14) fun v15 => optA (fieldA ti66 v15 0) fun v16 => optA (ldV false 1 v16 H8) fun v17 => optA (intA .sub v12 (.d (.int .i64 1))) fun v18 => optA (indexAddrA ti23 2 a1 v18) fun v19 => optA (fieldA ti66 v19 1) fun v20 => optA (ldV false 1 v20 H8) fun v21 => optA (intA .add v17 v21) fun v22 => loopA (fun X23 l24 H25 => optA (lenSl (l24.getD 3 .junk)) fun v26 => optA (intA .lss v26 (l24.getD 2 .junk)) fun v27 => ifA v27 (optA (lenSl (l24.getD 0 .junk)) fun v28 => optA (intA .lss (l24.getD 4 .junk) v28) fun v29 => ifA v29 (optA (indexAddrA ti22 1 (l24.getD 0 .junk) (l24.getD 4 .junk)) fun v30 => optA (ldV false 1 v30 H25) fun v31 => optA (unA .not v31) fun v32 => ifA v32 (newK H25 (fun n35 => bsA ti3 1 [0] [l24.getD 4 .junk] H25 n35) fun v33 H34 => newK H34 (fun n38 => apA 1 8 (l24.getD 3 .junk) v33 H34 n38) fun v36 H37 => optA (intA .add (l24.getD 4 .junk) (.d (.int .i64 1))) fun v39 => X23 [l24.getD 0 .junk, l24.getD 1 .junk, l24.getD 2 .junk, v36, v39] H37) (frzLK [l24.getD 0 .junk, l24.getD 3 .junk, .d (.bool true)] H25 fun l42 H43 => γ 49 l42 H43 fun v40 H41 => optA (lenSl (l24.getD 3 .junk)) fun v44 => optA (intA .sub (l24.getD 2 .junk) v44) fun v45 => frzLK [v40, v45] H41 fun l48 H49 => γ 47 l48 H49 fun v46 H47 => newK H47 (fun n52 => apA 1 8 (l24.getD 3 .junk) v46 H47 n52) fun v50 H51 => frzLK [v50] H51 fun l55 H56 => γ 48 l55 H56 fun v53 H54 => frzLK [l24.getD 1 .junk, v53] H54 fun l59 H60 => γ 57 l59 H60 fun v57 H58 => frzLK [v40, v46, .d (.bool true)] H58 fun l63 H64 => γ 49 l63 H64 fun v61 H62 => retF [v57, v61, .d (.int .i64 0)] H62 K)) (frzLK [l24.getD 0 .junk, l24.getD 3 .junk, .d (.bool true)] H25 fun l67 H68 => γ 49 l67 H68 fun v65 H66 => optA (lenSl (l24.getD 3 .junk)) fun v69 => optA (intA .sub (l24.getD 2 .junk) v69) fun v70 => frzLK [v65, v70] H66 fun l73 H74 => γ 47 l73 H74 fun v71 H72 => newK H72 (fun n77 => apA 1 8 (l24.getD 3 .junk) v71 H72 n77) fun v75 H76 => frzLK [v75] H76 fun l80 H81 => γ 48 l80 H81 fun v78 H79 => frzLK [l24.getD 1 .junk, v78] H79 fun l84 H85 => γ 57 l84 H85 fun v82 H83 => frzLK [v65, v71, .d (.bool true)] H83 fun l88 H89 => γ 49 l88 H89 fun v86 H87 => retF [v82, v86, .d (.int .i64 0)] H87 K)) (frzLK [l24.getD 0 .junk, l24.getD 3 .junk, .d (.bool true)] H25 fun l92 H93 => γ 49 l92 H93 fun v90 H91 => optA (lenSl (l24.getD 3 .junk)) fun v94 => optA (intA .sub (l24.getD 2 .junk) v94) fun v95 => frzLK [v90, v95] H91 fun l98 H99 => γ 47 l98 H99 fun v96 H97 => newK H97 (fun n102 => apA 1 8 (l24.getD 3 .junk) v96 H97 n102) fun v100 H101 => frzLK [v100] H101 fun l105 H106 => γ 48 l105 H106 fun v103 H104 => frzLK [l24.getD 1 .junk, v103] H104 fun l109 H110 => γ 57 l109 H110 fun v107 H108 => frzLK [v90, v96, .d (.bool true)] H108 fun l113 H114 => γ 49 l113 H114 fun v111 H112 => retF [v107, v111, .d (.int .i64 0)] H112 K)) [a0, a1, a2, .d (.sl true []), v22] H8)) (frzLK [a0, .d (.sl true []), .d (.bool true)] H8 fun l117 H118 => γ 49 l117 H118 fun v115 H116 => optA (lenSl (.d (.sl true []))) fun v119 => optA (intA .sub a2 v119) fun v120 => frzLK [v115, v120] H116 fun l123 H124 => γ 47 l123 H124 fun v121 H122 => newK H122 (fun n127 => apA 1 8 (.d (.sl true [])) v121 H122 n127) fun v125 H126 => frzLK [v125] H126 fun l130 H131 => γ 48 l130 H131 fun v128 H129 => frzLK [a1, v128] H129 fun l134 H135 => γ 57 l134 H135 fun v132 H133 => frzLK [v115, v121, .d (.bool true)] H133 fun l138 H139 => γ 49 l138 H139 fun v136 H137 => retF [v132, v136, .d (.int .i64 0)] H137 K))))
noncomputable def r25_0 : List Oper := regOps Try.f25 0
noncomputable def r25_1 : List Oper := regOps Try.f25 1
noncomputable def r25_2 : List Oper := regOps Try.f25 2
noncomputable def r25_3 : List Oper := regOps Try.f25 3
noncomputable def r25_4 : List Oper := regOps Try.f25 4
noncomputable def r25_5 : List Oper := regOps Try.f25 5
noncomputable def r25_6 : List Oper := regOps Try.f25 6
noncomputable def r25_7 : List Oper := regOps Try.f25 7
noncomputable def r25_8 : List Oper := regOps Try.f25 8
noncomputable def r25_9 : List Oper := regOps Try.f25 9
noncomputable def r25_10 : List Oper := regOps Try.f25 10
noncomputable def r25_11 : List Oper := regOps Try.f25 11
noncomputable def r25_12 : List Oper := regOps Try.f25 12
noncomputable def r25_13 : List Oper := regOps Try.f25 13
noncomputable def r25_14 : List Oper := regOps Try.f25 14
noncomputable def c25 : Code := (.seq (.region 0 #[opAt r25_0 0, opAt r25_0 1, opAt r25_0 2] false) (.seq (.block 0 (.seq (.region 1 #[opAt r25_1 0, opAt r25_1 1, opAt r25_1 2, opAt r25_1 3, opAt r25_1 4, opAt r25_1 5, opAt r25_1 6, opAt r25_1 7, opAt r25_1 8] false) (.cond (.tmp 13) (.seq (.region 2 #[opAt r25_2 0, opAt r25_2 1, opAt r25_2 2] false) .ret) (.seq (.region 3 #[opAt r25_3 0, opAt r25_3 1, opAt r25_3 2, opAt r25_3 3, opAt r25_3 4] false) (.cond (.tmp 22) (.seq (.region 4 #[opAt r25_4 0, opAt r25_4 1, opAt r25_4 2] false) .ret) .skip))))) (.seq (.region 5 #[opAt r25_5 0] false) (.seq (.seq (.region 6 #[opAt r25_6 0, opAt r25_6 1, opAt r25_6 2] false) (.seq (.region 7 #[opAt r25_7 0, opAt r25_7 1] false) (.cond (.tmp 30) (.seq (.region 8 #[opAt r25_8 0, opAt r25_8 1, opAt r25_8 2, opAt r25_8 3, opAt r25_8 4, opAt r25_8 5, opAt r25_8 6, opAt r25_8 7, opAt r25_8 8, opAt r25_8 9, opAt r25_8 10, opAt r25_8 11, opAt r25_8 12, opAt r25_8 13] true) (.block 1 (.loop (.seq (.seq (.region 9 #[opAt r25_9 0, opAt r25_9 1, opAt r25_9 2, opAt r25_9 3, opAt r25_9 4, opAt r25_9 5, opAt r25_9 6, opAt r25_9 7, opAt r25_9 8, opAt r25_9 9, opAt r25_9 10, opAt r25_9 11, opAt r25_9 12, opAt r25_9 13, opAt r25_9 14, opAt r25_9 15, opAt r25_9 16] false) (.cond (.tmp 60) .skip (.exit 1))) (.seq (.block 2 (.region 11 #[opAt r25_10 0, opAt r25_10 1, opAt r25_10 2, opAt r25_10 3, opAt r25_10 4] false)) (.region 10 #[opAt r25_11 0, opAt r25_11 1, opAt r25_11 2] false)))))) .skip))) (.seq (.region 12 #[opAt r25_12 0, opAt r25_12 1, opAt r25_12 2, opAt r25_12 3] false) (.seq (.region 13 #[opAt r25_13 0, opAt r25_13 1, opAt r25_13 2, opAt r25_13 3, opAt r25_13 4, opAt r25_13 5, opAt r25_13 6] false) (.seq (.region 14 #[opAt r25_14 0, opAt r25_14 1, opAt r25_14 2, opAt r25_14 3, opAt r25_14 4, opAt r25_14 5, opAt r25_14 6, opAt r25_14 7, opAt r25_14 8, opAt r25_14 9, opAt r25_14 10, opAt r25_14 11] false) .ret)))))))
theorem c25_eq : Try.f25.body = some c25 := by kernel_rfl
theorem S25_eq (γ : Calld) (a0 a1 a2 : AV) (H : AHeap) (K : AV → AHeap → Prop) : execC Try.prog γ pol25 Try.f25 c25 [a0, a1, a2] H K = S25 γ a0 a1 a2 H K := by kernel_rfl
theorem C25 {a0 a1 a2 : AV} {H : AHeap} {K : AV → AHeap → Prop} (h : S25 (CallsA Try.prog) a0 a1 a2 H K) : CallsA Try.prog 25 [a0, a1, a2] H K :=
  calls_of Try.func25 (ne_of_beq_false (by kernel_rfl)) c25_eq (by kernel_rfl) (by rw [S25_eq]; exact h)
/-! tithing/tithingref15.Grow -/
def pol26 : Pol := { lend := fun _ => true, keep := [0, 1, 2, 9, 11], frz := fun _ => [], perm := fun r => [], bf := fun r => [], ret := true }
def S26 (γ : Calld) (a0 a1 a2 : AV) (H : AHeap) (K : AV → AHeap → Prop) : Prop :=
  optA (lenSl a0) fun v1 => frzLK [v1, a1] H fun l4 H5 => γ 35 l4 H5 fun v2 H3 => optA (unA .not v2) fun v6 => ifA v6 (retF [.d (.sl true []), .d (.sl true []), .d (.int .i64 2)] H3 K) (optA (intA .lss a2 (.d (.int .i64 0))) fun v7 => ifA v7 (retF [.d (.sl true []), .d (.sl true []), .d (.int .i64 2)] H3 K) (frzLK [a0] H3 fun l10 H11 => γ 50 l10 H11 fun v8 H9 => optA (lenSl v8) fun v12 => optA (intA .gtr a2 v12) fun v13 => ifA v13 (retF [.d (.sl true []), .d (.sl true []), .d (.int .i64 150)] H9 K) (frzLK [a1] H9 fun l16 H17 => γ 56 l16 H17 fun v14 H15 => optA (lenSl v14) fun v18 => optA (intA .gtr v18 (.d (.int .i64 0))) fun v19 => ifA v19 (optA (lenSl v14) fun v20 => optA (intA .sub v20 (.d (.int .i64 1))) fun v21 => optA (indexAddrA ti33 1 v14 v21) fun v22 => optA (ldV false 1 v22 H15) fun v23 => optA (intA .add v23 (.d (.int .i64 1))) fun v24 => loopA (fun X25 l26 H27 => optA (lenSl (l26.getD 0 .junk)) fun v28 => optA (intA .lss (l26.getD 4 .junk) v28) fun v29 => ifA v29 (optA (indexAddrA ti22 1 (l26.getD 0 .junk) (l26.getD 4 .junk)) fun v30 => optA (ldV false 1 v30 H27) fun v31 => optA (unA .not v31) fun v32 => ifA v32 (optA (lenSl (l26.getD 3 .junk)) fun v33 => optA (intA .lss v33 (l26.getD 2 .junk)) fun v34 => ifA v34 (newK H27 (fun n37 => bsA ti3 1 [0] [l26.getD 4 .junk] H27 n37) fun v35 H36 => newK H36 (fun n40 => apA 1 8 (l26.getD 3 .junk) v35 H36 n40) fun v38 H39 => optA (intA .add (l26.getD 4 .junk) (.d (.int .i64 1))) fun v41 => X25 [l26.getD 0 .junk, l26.getD 1 .junk, l26.getD 2 .junk, v38, v41] H39) (frzLK [l26.getD 0 .junk, l26.getD 3 .junk, .d (.bool true)] H27 fun l44 H45 => γ 53 l44 H45 fun v42 H43 => optA (lenSl (l26.getD 3 .junk)) fun v46 => optA (intA .sub (l26.getD 2 .junk) v46) fun v47 => frzLK [v42, v47] H43 fun l50 H51 => γ 51 l50 H51 fun v48 H49 => newK H49 (fun n54 => apA 1 8 (l26.getD 3 .junk) v48 H49 n54) fun v52 H53 => frzLK [l26.getD 1 .junk, v52] H53 fun l57 H58 => γ 52 l57 H58 fun v55 H56 => frzLK [v42, v48, .d (.bool true)] H56 fun l61 H62 => γ 53 l61 H62 fun v59 H60 => retF [v55, v59, .d (.int .i64 0)] H60 K)) (frzLK [l26.getD 0 .junk, l26.getD 3 .junk, .d (.bool true)] H27 fun l65 H66 => γ 53 l65 H66 fun v63 H64 => optA (lenSl (l26.getD 3 .junk)) fun v67 => optA (intA .sub (l26.getD 2 .junk) v67) fun v68 => frzLK [v63, v68] H64 fun l71 H72 => γ 51 l71 H72 fun v69 H70 => newK H70 (fun n75 => apA 1 8 (l26.getD 3 .junk) v69 H70 n75) fun v73 H74 => frzLK [l26.getD 1 .junk, v73] H74 fun l78 H79 => γ 52 l78 H79 fun v76 H77 => frzLK [v63, v69, .d (.bool true)] H77 fun l82 H83 => γ 53 l82 H83 fun v80 H81 => retF [v76, v80, .d (.int .i64 0)] H81 K)) (frzLK [l26.getD 0 .junk, l26.getD 3 .junk, .d (.bool true)] H27 fun l86 H87 => γ 53 l86 H87 fun v84 H85 => optA (lenSl (l26.getD 3 .junk)) fun v88 => optA (intA .sub (l26.getD 2 .junk) v88) fun v89 => frzLK [v84, v89] H85 fun l92 H93 => γ 51 l92 H93 fun v90 H91 => newK H91 (fun n96 => apA 1 8 (l26.getD 3 .junk) v90 H91 n96) fun v94 H95 => frzLK [l26.getD 1 .junk, v94] H95 fun l99 H100 => γ 52 l99 H100 fun v97 H98 => frzLK [v84, v90, .d (.bool true)] H98 fun l103 H104 => γ 53 l103 H104 fun v101 H102 => retF [v97, v101, .d (.int .i64 0)] H102 K)) [a0, a1, a2, .d (.sl true []), v24] H15) (frzLK [a0, .d (.sl true []), .d (.bool true)] H15 fun l107 H108 => γ 53 l107 H108 fun v105 H106 => optA (lenSl (.d (.sl true []))) fun v109 => optA (intA .sub a2 v109) fun v110 => frzLK [v105, v110] H106 fun l113 H114 => γ 51 l113 H114 fun v111 H112 => newK H112 (fun n117 => apA 1 8 (.d (.sl true [])) v111 H112 n117) fun v115 H116 => frzLK [a1, v115] H116 fun l120 H121 => γ 52 l120 H121 fun v118 H119 => frzLK [v105, v111, .d (.bool true)] H119 fun l124 H125 => γ 53 l124 H125 fun v122 H123 => retF [v118, v122, .d (.int .i64 0)] H123 K))))
noncomputable def r26_0 : List Oper := regOps Try.f26 0
noncomputable def r26_1 : List Oper := regOps Try.f26 1
noncomputable def r26_2 : List Oper := regOps Try.f26 2
noncomputable def r26_3 : List Oper := regOps Try.f26 3
noncomputable def r26_4 : List Oper := regOps Try.f26 4
noncomputable def r26_5 : List Oper := regOps Try.f26 5
noncomputable def r26_6 : List Oper := regOps Try.f26 6
noncomputable def r26_7 : List Oper := regOps Try.f26 7
noncomputable def r26_8 : List Oper := regOps Try.f26 8
noncomputable def r26_9 : List Oper := regOps Try.f26 9
noncomputable def r26_10 : List Oper := regOps Try.f26 10
noncomputable def r26_11 : List Oper := regOps Try.f26 11
noncomputable def r26_12 : List Oper := regOps Try.f26 12
noncomputable def r26_13 : List Oper := regOps Try.f26 13
noncomputable def r26_14 : List Oper := regOps Try.f26 14
noncomputable def c26 : Code := (.seq (.region 0 #[opAt r26_0 0, opAt r26_0 1, opAt r26_0 2] false) (.seq (.block 0 (.seq (.region 1 #[opAt r26_1 0, opAt r26_1 1, opAt r26_1 2, opAt r26_1 3, opAt r26_1 4, opAt r26_1 5, opAt r26_1 6, opAt r26_1 7, opAt r26_1 8, opAt r26_1 9] false) (.cond (.tmp 14) (.seq (.region 2 #[opAt r26_2 0, opAt r26_2 1, opAt r26_2 2] false) .ret) (.seq (.region 3 #[opAt r26_3 0, opAt r26_3 1, opAt r26_3 2, opAt r26_3 3, opAt r26_3 4, opAt r26_3 5] false) (.cond (.tmp 24) (.seq (.region 4 #[opAt r26_4 0, opAt r26_4 1, opAt r26_4 2] false) .ret) .skip))))) (.seq (.region 5 #[opAt r26_5 0] false) (.seq (.seq (.region 6 #[opAt r26_6 0, opAt r26_6 1, opAt r26_6 2] false) (.seq (.region 7 #[opAt r26_7 0, opAt r26_7 1, opAt r26_7 2] false) (.cond (.tmp 34) (.seq (.region 8 #[opAt r26_8 0, opAt r26_8 1, opAt r26_8 2, opAt r26_8 3, opAt r26_8 4, opAt r26_8 5, opAt r26_8 6, opAt r26_8 7] false) (.block 1 (.loop (.seq (.seq (.region 9 #[opAt r26_9 0, opAt r26_9 1, opAt r26_9 2, opAt r26_9 3, opAt r26_9 4, opAt r26_9 5, opAt r26_9 6, opAt r26_9 7, opAt r26_9 8, opAt r26_9 9, opAt r26_9 10, opAt r26_9 11, opAt r26_9 12, opAt r26_9 13, opAt r26_9 14, opAt r26_9 15, opAt r26_9 16] false) (.cond (.tmp 58) .skip (.exit 1))) (.seq (.block 2 (.region 11 #[opAt r26_10 0, opAt r26_10 1, opAt r26_10 2, opAt r26_10 3, opAt r26_10 4] false)) (.region 10 #[opAt r26_11 0, opAt r26_11 1, opAt r26_11 2] false)))))) .skip))) (.seq (.region 12 #[opAt r26_12 0, opAt r26_12 1, opAt r26_12 2, opAt r26_12 3] false) (.seq (.region 13 #[opAt r26_13 0, opAt r26_13 1, opAt r26_13 2, opAt r26_13 3, opAt r26_13 4, opAt r26_13 5, opAt r26_13 6] false) (.seq (.region 14 #[opAt r26_14 0, opAt r26_14 1, opAt r26_14 2, opAt r26_14 3, opAt r26_14 4, opAt r26_14 5, opAt r26_14 6, opAt r26_14 7, opAt r26_14 8, opAt r26_14 9, opAt r26_14 10] false) .ret)))))))
theorem c26_eq : Try.f26.body = some c26 := by kernel_rfl
theorem S26_eq (γ : Calld) (a0 a1 a2 : AV) (H : AHeap) (K : AV → AHeap → Prop) : execC Try.prog γ pol26 Try.f26 c26 [a0, a1, a2] H K = S26 γ a0 a1 a2 H K := by kernel_rfl
theorem C26 {a0 a1 a2 : AV} {H : AHeap} {K : AV → AHeap → Prop} (h : S26 (CallsA Try.prog) a0 a1 a2 H K) : CallsA Try.prog 26 [a0, a1, a2] H K :=
  calls_of Try.func26 (ne_of_beq_false (by kernel_rfl)) c26_eq (by kernel_rfl) (by rw [S26_eq]; exact h)
/-! tithing/extent.Blocks -/
def pol27 : Pol := { lend := fun _ => true, keep := [], frz := fun _ => [], perm := fun r => [], bf := fun r => [], ret := true }
def S27 (γ : Calld) (a0 : AV) (H : AHeap) (K : AV → AHeap → Prop) : Prop :=
  frzLK [.d (.int .i64 300), a0] H fun l3 H4 => γ 34 l3 H4 fun v1 H2 => optA (unA .not v1) fun v5 => ifA v5 (retF [.d (.sl true []), .d (.int .i64 2)] H2 K) (frzLK [a0] H2 fun l8 H9 => γ 58 l8 H9 fun v6 H7 => retF [v6, .d (.int .i64 0)] H7 K)
noncomputable def r27_0 : List Oper := regOps Try.f27 0
noncomputable def r27_1 : List Oper := regOps Try.f27 1
noncomputable def r27_2 : List Oper := regOps Try.f27 2
noncomputable def r27_3 : List Oper := regOps Try.f27 3
noncomputable def c27 : Code := (.seq (.region 0 #[opAt r27_0 0, opAt r27_0 1] false) (.seq (.seq (.region 1 #[opAt r27_1 0, opAt r27_1 1, opAt r27_1 2] false) (.cond (.tmp 6) (.seq (.region 2 #[opAt r27_2 0, opAt r27_2 1] false) .ret) .skip)) (.seq (.region 3 #[opAt r27_3 0, opAt r27_3 1, opAt r27_3 2, opAt r27_3 3] false) .ret)))
theorem c27_eq : Try.f27.body = some c27 := by kernel_rfl
theorem S27_eq (γ : Calld) (a0 : AV) (H : AHeap) (K : AV → AHeap → Prop) : execC Try.prog γ pol27 Try.f27 c27 [a0] H K = S27 γ a0 H K := by kernel_rfl
theorem C27 {a0 : AV} {H : AHeap} {K : AV → AHeap → Prop} (h : S27 (CallsA Try.prog) a0 H K) : CallsA Try.prog 27 [a0] H K :=
  calls_of Try.func27 (ne_of_beq_false (by kernel_rfl)) c27_eq (by kernel_rfl) (by rw [S27_eq]; exact h)
/-! tithing/tithingref15.IsShort -/
def pol28 : Pol := { lend := fun _ => true, keep := [0, 3], frz := fun _ => [], perm := fun r => if r = 4 then [0, 1, 2, 3, 4, 5, 6, 7, 8, 9, 10, 11, 12, 13, 14, 15, 16, 17, 18] else [], bf := fun r => if r = 4 then [0, 0, 2, 7, 15, 31, 0, 0, 128, 448, 960, 1984, 4095, 0, 0, 24576, 57344, 122880, 262143] else [], ret := true }
def S28 (γ : Calld) (a0 : AV) (H : AHeap) (K : AV → AHeap → Prop) : Prop :=
  loopA (fun X1 l2 H3 => optA (lenSl (l2.getD 0 .junk)) fun v4 => optA (intA .lss (l2.getD 1 .junk) v4) fun v5 => ifA v5 (drA true (optA (intA .sub (l2.getD 1 .junk) (.d (.int .i64 1))) fun v6 => optA (indexAddrA ti23 2 (l2.getD 0 .junk) v6) fun v7 => optA (fieldA ti66 v7 0) fun v8 => optA (ldV false 1 v8 H3) fun v9 => optA (intA .sub (l2.getD 1 .junk) (.d (.int .i64 1))) fun v10 => optA (indexAddrA ti23 2 (l2.getD 0 .junk) v10) fun v11 => optA (fieldA ti66 v11 1) fun v12 => optA (ldV false 1 v12 H3) fun v13 => optA (intA .add v9 v13) fun v14 => optA (indexAddrA ti23 2 (l2.getD 0 .junk) (l2.getD 1 .junk)) fun v15 => optA (fieldA ti66 v15 0) fun v16 => optA (ldV false 1 v16 H3) fun v17 => optA (intA .eql v14 v17) fun v18 => ifA v18 (retF [.d (.bool false)] H3 K) (optA (intA .add (l2.getD 1 .junk) (.d (.int .i64 1))) fun v19 => X1 [l2.getD 0 .junk, v19] H3))) (retF [.d (.bool true)] H3 K)) [a0, .d (.int .i64 1)] H
noncomputable def r28_0 : List Oper := regOps Try.f28 0
noncomputable def r28_1 : List Oper := regOps Try.f28 1
noncomputable def r28_2 : List Oper := regOps Try.f28 2
noncomputable def r28_3 : List Oper := regOps Try.f28 3
noncomputable def r28_4 : List Oper := regOps Try.f28 4
noncomputable def r28_5 : List Oper := regOps Try.f28 5
noncomputable def r28_6 : List Oper := regOps Try.f28 6
noncomputable def c28 : Code := (.seq (.region 0 #[opAt r28_0 0] false) (.seq (.seq (.region 1 #[opAt r28_1 0] false) (.block 0 (.loop (.seq (.seq (.region 2 #[opAt r28_2 0, opAt r28_2 1, opAt r28_2 2, opAt r28_2 3] false) (.cond (.tmp 7) .skip (.exit 0))) (.seq (.block 1 (.seq (.region 4 #[opAt r28_3 0, opAt r28_3 1, opAt r28_3 2, opAt r28_3 3, opAt r28_3 4, opAt r28_3 5, opAt r28_3 6, opAt r28_3 7, opAt r28_3 8, opAt r28_3 9, opAt r28_3 10, opAt r28_3 11, opAt r28_3 12, opAt r28_3 13, opAt r28_3 14, opAt r28_3 15, opAt r28_3 16, opAt r28_3 17, opAt r28_3 18] true) (.cond (.tmp 28) (.seq (.region 5 #[opAt r28_4 0] false) .ret) .skip))) (.region 3 #[opAt r28_5 0, opAt r28_5 1, opAt r28_5 2] false)))))) (.seq (.region 6 #[opAt r28_6 0] false) .ret)))
theorem c28_eq : Try.f28.body = some c28 := by kernel_rfl
theorem S28_eq (γ : Calld) (a0 : AV) (H : AHeap) (K : AV → AHeap → Prop) : execC Try.prog γ pol28 Try.f28 c28 [a0] H K = S28 γ a0 H K := by kernel_rfl
theorem C28 {a0 : AV} {H : AHeap} {K : AV → AHeap → Prop} (h : S28 (CallsA Try.prog) a0 H K) : CallsA Try.prog 28 [a0] H K :=
  calls_of Try.func28 (ne_of_beq_false (by kernel_rfl)) c28_eq (by kernel_rfl) (by rw [S28_eq]; exact h)
/-! tithing/tithingref15.Blocks -/
def pol29 : Pol := { lend := fun _ => true, keep := [], frz := fun _ => [], perm := fun r => [], bf := fun r => [], ret := true }
def S29 (γ : Calld) (a0 : AV) (H : AHeap) (K : AV → AHeap → Prop) : Prop :=
  frzLK [a0] H fun l3 H4 => γ 59 l3 H4 fun v1 H2 => optA (unA .not v1) fun v5 => ifA v5 (retF [.d (.sl true []), .d (.int .i64 2)] H2 K) (frzLK [a0] H2 fun l8 H9 => γ 56 l8 H9 fun v6 H7 => retF [v6, .d (.int .i64 0)] H7 K)
noncomputable def r29_0 : List Oper := regOps Try.f29 0
noncomputable def r29_1 : List Oper := regOps Try.f29 1
noncomputable def r29_2 : List Oper := regOps Try.f29 2
noncomputable def r29_3 : List Oper := regOps Try.f29 3
noncomputable def c29 : Code := (.seq (.region 0 #[opAt r29_0 0, opAt r29_0 1] false) (.seq (.seq (.region 1 #[opAt r29_1 0, opAt r29_1 1, opAt r29_1 2] false) (.cond (.tmp 6) (.seq (.region 2 #[opAt r29_2 0, opAt r29_2 1] false) .ret) .skip)) (.seq (.region 3 #[opAt r29_3 0, opAt r29_3 1, opAt r29_3 2, opAt r29_3 3] false) .ret)))
theorem c29_eq : Try.f29.body = some c29 := by kernel_rfl
theorem S29_eq (γ : Calld) (a0 : AV) (H : AHeap) (K : AV → AHeap → Prop) : execC Try.prog γ pol29 Try.f29 c29 [a0] H K = S29 γ a0 H K := by kernel_rfl
theorem C29 {a0 : AV} {H : AHeap} {K : AV → AHeap → Prop} (h : S29 (CallsA Try.prog) a0 H K) : CallsA Try.prog 29 [a0] H K :=
  calls_of Try.func29 (ne_of_beq_false (by kernel_rfl)) c29_eq (by kernel_rfl) (by rw [S29_eq]; exact h)
/-! tithing/extent.Count -/
def pol30 : Pol := { lend := fun _ => true, keep := [], frz := fun _ => [], perm := fun r => [], bf := fun r => [], ret := true }
def S30 (γ : Calld) (a0 : AV) (H : AHeap) (K : AV → AHeap → Prop) : Prop :=
  frzLK [a0] H fun l3 H4 => γ 27 l3 H4 fun v1 H2 => optA (extractA v1 0) fun v5 => optA (extractA v1 1) fun v6 => optA (lenSl v5) fun v7 => retF [v7, v6] H2 K
noncomputable def r30_0 : List Oper := regOps Try.f30 0
noncomputable def r30_1 : List Oper := regOps Try.f30 1
noncomputable def r30_2 : List Oper := regOps Try.f30 2
noncomputable def c30 : Code := (.seq (.region 0 #[opAt r30_0 0, opAt r30_0 1] false) (.seq (.region 1 #[opAt r30_1 0, opAt r30_1 1, opAt r30_1 2, opAt r30_1 3, opAt r30_1 4, opAt r30_1 5, opAt r30_1 6] false) (.seq (.region 2 #[opAt r30_2 0, opAt r30_2 1, opAt r30_2 2, opAt r30_2 3, opAt r30_2 4] false) .ret)))
theorem c30_eq : Try.f30.body = some c30 := by kernel_rfl
theorem S30_eq (γ : Calld) (a0 : AV) (H : AHeap) (K : AV → AHeap → Prop) : execC Try.prog γ pol30 Try.f30 c30 [a0] H K = S30 γ a0 H K := by kernel_rfl
theorem C30 {a0 : AV} {H : AHeap} {K : AV → AHeap → Prop} (h : S30 (CallsA Try.prog) a0 H K) : CallsA Try.prog 30 [a0] H K :=
  calls_of Try.func30 (ne_of_beq_false (by kernel_rfl)) c30_eq (by kernel_rfl) (by rw [S30_eq]; exact h)
/-! tithing/tithingref15.Count -/
def pol31 : Pol := { lend := fun _ => true, keep := [], frz := fun _ => [], perm := fun r => [], bf := fun r => [], ret := true }
def S31 (γ : Calld) (a0 : AV) (H : AHeap) (K : AV → AHeap → Prop) : Prop :=
  frzLK [a0] H fun l3 H4 => γ 59 l3 H4 fun v1 H2 => optA (unA .not v1) fun v5 => ifA v5 (retF [.d (.int .i64 0), .d (.int .i64 2)] H2 K) (frzLK [a0] H2 fun l8 H9 => γ 56 l8 H9 fun v6 H7 => optA (lenSl v6) fun v10 => retF [v10, .d (.int .i64 0)] H7 K)
noncomputable def r31_0 : List Oper := regOps Try.f31 0
noncomputable def r31_1 : List Oper := regOps Try.f31 1
noncomputable def r31_2 : List Oper := regOps Try.f31 2
noncomputable def r31_3 : List Oper := regOps Try.f31 3
noncomputable def c31 : Code := (.seq (.region 0 #[opAt r31_0 0, opAt r31_0 1] false) (.seq (.seq (.region 1 #[opAt r31_1 0, opAt r31_1 1, opAt r31_1 2] false) (.cond (.tmp 6) (.seq (.region 2 #[opAt r31_2 0, opAt r31_2 1] false) .ret) .skip)) (.seq (.region 3 #[opAt r31_3 0, opAt r31_3 1, opAt r31_3 2, opAt r31_3 3, opAt r31_3 4] false) .ret)))
theorem c31_eq : Try.f31.body = some c31 := by kernel_rfl
theorem S31_eq (γ : Calld) (a0 : AV) (H : AHeap) (K : AV → AHeap → Prop) : execC Try.prog γ pol31 Try.f31 c31 [a0] H K = S31 γ a0 H K := by kernel_rfl
theorem C31 {a0 : AV} {H : AHeap} {K : AV → AHeap → Prop} (h : S31 (CallsA Try.prog) a0 H K) : CallsA Try.prog 31 [a0] H K :=
  calls_of Try.func31 (ne_of_beq_false (by kernel_rfl)) c31_eq (by kernel_rfl) (by rw [S31_eq]; exact h)
/-! tithing/extent.At -/
def pol32 : Pol := { lend := fun _ => true, keep := [], frz := fun _ => [], perm := fun r => [], bf := fun r => [], ret := true }
def S32 (γ : Calld) (a0 a1 : AV) (H : AHeap) (K : AV → AHeap → Prop) : Prop :=
  frzLK [a0] H fun l3 H4 => γ 27 l3 H4 fun v1 H2 => optA (extractA v1 0) fun v5 => optA (extractA v1 1) fun v6 => optA (intA .neq v6 (.d (.int .i64 0))) fun v7 => ifA v7 (retF [.d (.int .i64 0), .d (.int .i64 2)] H2 K) (optA (intA .lss a1 (.d (.int .i64 0))) fun v8 => ifA v8 (retF [.d (.int .i64 0), .d (.int .i64 2)] H2 K) (optA (lenSl v5) fun v9 => optA (intA .geq a1 v9) fun v10 => ifA v10 (retF [.d (.int .i64 0), .d (.int .i64 2)] H2 K) (optA (indexAddrA ti33 1 v5 a1) fun v11 => optA (ldV false 1 v11 H2) fun v12 => retF [v12, .d (.int .i64 0)] H2 K)))
noncomputable def r32_0 : List Oper := regOps Try.f32 0
noncomputable def r32_1 : List Oper := regOps Try.f32 1
noncomputable def r32_2 : List Oper := regOps Try.f32 2
noncomputable def r32_3 : List Oper := regOps Try.f32 3
noncomputable def r32_4 : List Oper := regOps Try.f32 4
noncomputable def c32 : Code := (.seq (.region 0 #[opAt r32_0 0, opAt r32_0 1] false) (.seq (.region 1 #[opAt r32_1 0, opAt r32_1 1, opAt r32_1 2, opAt r32_1 3, opAt r32_1 4, opAt r32_1 5, opAt r32_1 6] false) (.seq (.seq (.region 2 #[opAt r32_2 0, opAt r32_2 1, opAt r32_2 2, opAt r32_2 3, opAt r32_2 4, opAt r32_2 5, opAt r32_2 6, opAt r32_2 7, opAt r32_2 8, opAt r32_2 9, opAt r32_2 10, opAt r32_2 11] false) (.cond (.tmp 24) (.seq (.region 3 #[opAt r32_3 0, opAt r32_3 1] false) .ret) .skip)) (.seq (.region 4 #[opAt r32_4 0, opAt r32_4 1, opAt r32_4 2, opAt r32_4 3, opAt r32_4 4, opAt r32_4 5] false) .ret))))
theorem c32_eq : Try.f32.body = some c32 := by kernel_rfl
theorem S32_eq (γ : Calld) (a0 a1 : AV) (H : AHeap) (K : AV → AHeap → Prop) : execC Try.prog γ pol32 Try.f32 c32 [a0, a1] H K = S32 γ a0 a1 H K := by kernel_rfl
theorem C32 {a0 a1 : AV} {H : AHeap} {K : AV → AHeap → Prop} (h : S32 (CallsA Try.prog) a0 a1 H K) : CallsA Try.prog 32 [a0, a1] H K :=
  calls_of Try.func32 (ne_of_beq_false (by kernel_rfl)) c32_eq (by kernel_rfl) (by rw [S32_eq]; exact h)
/-! tithing/tithingref15.At -/
def pol33 : Pol := { lend := fun _ => true, keep := [], frz := fun _ => [], perm := fun r => [], bf := fun r => [], ret := true }
def S33 (γ : Calld) (a0 a1 : AV) (H : AHeap) (K : AV → AHeap → Prop) : Prop :=
  frzLK [a0] H fun l3 H4 => γ 59 l3 H4 fun v1 H2 => optA (unA .not v1) fun v5 => ifA v5 (retF [.d (.int .i64 0), .d (.int .i64 2)] H2 K) (optA (intA .lss a1 (.d (.int .i64 0))) fun v6 => ifA v6 (retF [.d (.int .i64 0), .d (.int .i64 2)] H2 K) (frzLK [a0] H2 fun l9 H10 => γ 56 l9 H10 fun v7 H8 => optA (lenSl v7) fun v11 => optA (intA .geq a1 v11) fun v12 => ifA v12 (retF [.d (.int .i64 0), .d (.int .i64 2)] H8 K) (frzLK [a0] H8 fun l15 H16 => γ 56 l15 H16 fun v13 H14 => optA (indexAddrA ti33 1 v13 a1) fun v17 => optA (ldV false 1 v17 H14) fun v18 => retF [v18, .d (.int .i64 0)] H14 K)))
noncomputable def r33_0 : List Oper := regOps Try.f33 0
noncomputable def r33_1 : List Oper := regOps Try.f33 1
noncomputable def r33_2 : List Oper := regOps Try.f33 2
noncomputable def r33_3 : List Oper := regOps Try.f33 3
noncomputable def c33 : Code := (.seq (.region 0 #[opAt r33_0 0, opAt r33_0 1] false) (.seq (.seq (.region 1 #[opAt r33_1 0, opAt r33_1 1, opAt r33_1 2, opAt r33_1 3, opAt r33_1 4, opAt r33_1 5, opAt r33_1 6, opAt r33_1 7, opAt r33_1 8, opAt r33_1 9, opAt r33_1 10, opAt r33_1 11, opAt r33_1 12, opAt r33_1 13] false) (.cond (.tmp 19) (.seq (.region 2 #[opAt r33_2 0, opAt r33_2 1] false) .ret) .skip)) (.seq (.region 3 #[opAt r33_3 0, opAt r33_3 1, opAt r33_3 2, opAt r33_3 3, opAt r33_3 4, opAt r33_3 5, opAt r33_3 6] false) .ret)))
theorem c33_eq : Try.f33.body = some c33 := by kernel_rfl
theorem S33_eq (γ : Calld) (a0 a1 : AV) (H : AHeap) (K : AV → AHeap → Prop) : execC Try.prog γ pol33 Try.f33 c33 [a0, a1] H K = S33 γ a0 a1 H K := by kernel_rfl
theorem C33 {a0 a1 : AV} {H : AHeap} {K : AV → AHeap → Prop} (h : S33 (CallsA Try.prog) a0 a1 H K) : CallsA Try.prog 33 [a0, a1] H K :=
  calls_of Try.func33 (ne_of_beq_false (by kernel_rfl)) c33_eq (by kernel_rfl) (by rw [S33_eq]; exact h)
/-! tithing/extent.Valid -/
def pol34 : Pol := { lend := fun _ => true, keep := [0, 5, 7, 8, 17, 18, 19], frz := fun _ => [], perm := fun r => [], bf := fun r => [], ret := true }
def S34 (γ : Calld) (a0 a1 : AV) (H : AHeap) (K : AV → AHeap → Prop) : Prop :=
  optA (intA .lss a0 (.d (.int .i64 0))) fun v1 => ifA v1 (retF [.d (.bool false)] H K) (optA (intA .gtr a0 (.d (.int .i64 300))) fun v2 => ifA v2 (retF [.d (.bool false)] H K) (newK H (fun n5 => mkSlA ti4 a0 a0 n5) fun v3 H4 => optA (lenSl a1) fun v6 => loopA (fun X7 l8 H9 => optA (intA .lss (l8.getD 6 .junk) (l8.getD 5 .junk)) fun v10 => ifA v10 (optA (indexAddrA ti23 2 (l8.getD 4 .junk) (l8.getD 6 .junk)) fun v11 => optA (ldV true 2 v11 H9) fun v12 => newK H9 (fun n15 => some (.ptr n15 0 0 0, [(n15, .mem 0 0 2 [[.d (.int .i64 0), .d (.int .i64 0)]])])) fun v13 H14 => stepK (stoA true 2 v13 v12 H14) H14 fun v16 H17 => optA (fieldA ti66 v13 0) fun v18 => optA (ldV false 1 v18 H17) fun v19 => optA (intA .lss v19 (.d (.int .i64 0))) fun v20 => ifA v20 (retF [.d (.bool false)] H17 K) (optA (fieldA ti66 v13 1) fun v21 => optA (ldV false 1 v21 H17) fun v22 => optA (intA .lss v22 (.d (.int .i64 1))) fun v23 => ifA v23 (retF [.d (.bool false)] H17 K) (optA (fieldA ti66 v13 1) fun v24 => optA (ldV false 1 v24 H17) fun v25 => optA (intA .gtr v25 (l8.getD 0 .junk)) fun v26 => ifA v26 (retF [.d (.bool false)] H17 K) (optA (fieldA ti66 v13 0) fun v27 => optA (ldV false 1 v27 H17) fun v28 => optA (fieldA ti66 v13 1) fun v29 => optA (ldV false 1 v29 H17) fun v30 => optA (intA .sub (l8.getD 0 .junk) v30) fun v31 => optA (intA .gtr v28 v31) fun v32 => ifA v32 (retF [.d (.bool false)] H17 K) (optA (fieldA ti66 v13 0) fun v33 => optA (ldV false 1 v33 H17) fun v34 => loopA (fun X35 l36 H37 => optA (fieldA ti66 (l36.getD 2 .junk) 0) fun v38 => optA (ldV false 1 v38 H37) fun v39 => optA (fieldA ti66 (l36.getD 2 .junk) 1) fun v40 => optA (ldV false 1 v40 H37) fun v41 => optA (intA .add v39 v41) fun v42 => optA (intA .lss (l36.getD 3 .junk) v42) fun v43 => ifA v43 (optA (indexAddrA ti22 1 (l36.getD 1 .junk) (l36.getD 3 .junk)) fun v44 => optA (ldV false 1 v44 H37) fun v45 => ifA v45 (retF [.d (.bool false)] H37 K) (optA (indexAddrA ti22 1 (l36.getD 1 .junk) (l36.getD 3 .junk)) fun v46 => stepK (stoA false 1 v46 (.d (.bool true)) H37) H37 fun v47 H48 => optA (intA .add (l36.getD 3 .junk) (.d (.int .i64 1))) fun v49 => X35 [l36.getD 0 .junk, l36.getD 1 .junk, l36.getD 2 .junk, v49, l36.getD 4 .junk, l36.getD 5 .junk, l36.getD 6 .junk] H48)) (optA (intA .add (l36.getD 6 .junk) (.d (.int .i64 1))) fun v50 => X7 [l36.getD 0 .junk, l36.getD 1 .junk, l36.getD 2 .junk, l36.getD 3 .junk, l36.getD 4 .junk, l36.getD 5 .junk, v50] H37)) [l8.getD 0 .junk, l8.getD 1 .junk, v13, v34, l8.getD 4 .junk, l8.getD 5 .junk, l8.getD 6 .junk] H17))))) (retF [.d (.bool true)] H9 K)) [a0, v3, .junk, .junk, a1, v6, .d (.int .i64 0)] H4))
noncomputable def r34_0 : List Oper := regOps Try.f34 0
noncomputable def r34_1 : List Oper := regOps Try.f34 1
noncomputable def r34_2 : List Oper := regOps Try.f34 2
noncomputable def r34_3 : List Oper := regOps Try.f34 3
noncomputable def r34_4 : List Oper := regOps Try.f34 4
noncomputable def r34_5 : List Oper := regOps Try.f34 5
noncomputable def r34_6 : List Oper := regOps Try.f34 6
noncomputable def r34_7 : List Oper := regOps Try.f34 7
noncomputable def r34_8 : List Oper := regOps Try.f34 8
noncomputable def r34_9 : List Oper := regOps Try.f34 9
noncomputable def r34_10 : List Oper := regOps Try.f34 10
noncomputable def r34_11 : List Oper := regOps Try.f34 11
noncomputable def r34_12 : List Oper := regOps Try.f34 12
noncomputable def r34_13 : List Oper := regOps Try.f34 13
noncomputable def r34_14 : List Oper := regOps Try.f34 14
noncomputable def r34_15 : List Oper := regOps Try.f34 15
noncomputable def r34_16 : List Oper := regOps Try.f34 16
noncomputable def c34 : Code := (.seq (.region 0 #[opAt r34_0 0] false) (.seq (.seq (.region 1 #[opAt r34_1 0, opAt r34_1 1, opAt r34_1 2, opAt r34_1 3, opAt r34_1 4, opAt r34_1 5] false) (.cond (.tmp 14) (.seq (.region 2 #[opAt r34_2 0] false) .ret) .skip)) (.seq (.region 3 #[opAt r34_3 0, opAt r34_3 1, opAt r34_3 2] false) (.seq (.seq (.region 4 #[opAt r34_4 0, opAt r34_4 1, opAt r34_4 2] false) (.block 0 (.loop (.seq (.region 5 #[opAt r34_5 0] false) (.seq (.cond (.tmp 20) .skip (.exit 0)) (.seq (.block 1 (.seq (.region 6 #[opAt r34_6 0, opAt r34_6 1, opAt r34_6 2, opAt r34_6 3] false) (.seq (.seq (.region 7 #[opAt r34_7 0, opAt r34_7 1, opAt r34_7 2, opAt r34_7 3, opAt r34_7 4, opAt r34_7 5, opAt r34_7 6, opAt r34_7 7, opAt r34_7 8, opAt r34_7 9, opAt r34_7 10, opAt r34_7 11, opAt r34_7 12, opAt r34_7 13, opAt r34_7 14, opAt r34_7 15, opAt r34_7 16, opAt r34_7 17, opAt r34_7 18, opAt r34_7 19, opAt r34_7 20, opAt r34_7 21, opAt r34_7 22] false) (.cond (.tmp 45) (.seq (.region 8 #[opAt r34_8 0] false) .ret) .skip)) (.seq (.region 9 #[opAt r34_9 0, opAt r34_9 1, opAt r34_9 2] false) (.block 2 (.loop (.seq (.seq (.region 10 #[opAt r34_10 0, opAt r34_10 1, opAt r34_10 2, opAt r34_10 3, opAt r34_10 4, opAt r34_10 5, opAt r34_10 6] false) (.cond (.tmp 54) .skip (.exit 2))) (.seq (.block 3 (.seq (.seq (.region 12 #[opAt r34_11 0, opAt r34_11 1, opAt r34_11 2, opAt r34_11 3] false) (.cond (.tmp 60) (.seq (.region 13 #[opAt r34_12 0] false) .ret) .skip)) (.region 14 #[opAt r34_13 0, opAt r34_13 1, opAt r34_13 2, opAt r34_13 3] false))) (.region 11 #[opAt r34_14 0, opAt r34_14 1, opAt r34_14 2] false))))))))) (.region 15 #[opAt r34_15 0, opAt r34_15 1] false))))))) (.seq (.region 16 #[opAt r34_16 0] false) .ret)))))
theorem c34_eq : Try.f34.body = some c34 := by kernel_rfl
theorem S34_eq (γ : Calld) (a0 a1 : AV) (H : AHeap) (K : AV → AHeap → Prop) : execC Try.prog γ pol34 Try.f34 c34 [a0, a1] H K = S34 γ a0 a1 H K := by kernel_rfl
theorem C34 {a0 a1 : AV} {H : AHeap} {K : AV → AHeap → Prop} (h : S34 (CallsA Try.prog) a0 a1 H K) : CallsA Try.prog 34 [a0, a1] H K :=
  calls_of Try.func34 (ne_of_beq_false (by kernel_rfl)) c34_eq (by kernel_rfl) (by rw [S34_eq]; exact h)
/-! tithing/tithingref15.Valid -/
def pol35 : Pol := { lend := fun _ => true, keep := [0, 1, 5, 6, 7], frz := fun _ => [], perm := fun r => if r = 7 then [0, 1, 2, 3, 4, 5, 6, 7, 8, 9, 10, 11, 12, 13, 14, 15, 16, 17, 18, 19, 20, 21, 22, 23, 24, 25, 26, 27, 28, 29, 30, 31, 32, 33, 34, 35, 36, 37] else if r = 10 then [0, 1, 2, 3, 4, 5, 6, 7, 8, 9, 10, 11, 12] else [], bf := fun r => if r = 7 then [0, 0, 3, 7, 15, 31, 63, 127, 127, 511, 1023, 2047, 4095, 8191, 16383, 32767, 32767, 131071, 262143, 524287, 32767, 2097151, 4194303, 8388607, 16777215, 16777215, 67108863, 134217727, 268435455, 16777215, 16777215, 16777215, 3238002687, 7532969983, 16122904575, 33839644671, 68719476735, 137438953471] else if r = 10 then [0, 0, 0, 6, 14, 30, 0, 0, 192, 448, 960, 2046, 4095] else [], ret := true }
def S35 (γ : Calld) (a0 a1 : AV) (H : AHeap) (K : AV → AHeap → Prop) : Prop :=
  optA (intA .lss a0 (.d (.int .i64 0))) fun v1 => ifA v1 (retF [.d (.bool false)] H K) (optA (intA .gtr a0 (.d (.int .i64 300))) fun v2 => ifA v2 (retF [.d (.bool false)] H K) (newK H (fun n5 => mkSlA ti4 a0 a0 n5) fun v3 H4 => loopA (fun X6 l7 H8 => optA (lenSl (l7.getD 1 .junk)) fun v9 => optA (intA .lss (l7.getD 3 .junk) v9) fun v10 => ifA v10 (drA true (optA (indexAddrA ti23 2 (l7.getD 1 .junk) (l7.getD 3 .junk)) fun v11 => optA (fieldA ti66 v11 0) fun v12 => optA (ldV false 1 v12 H8) fun v13 => optA (intA .lss v13 (.d (.int .i64 0))) fun v14 => ifA v14 (retF [.d (.bool false)] H8 K) (optA (indexAddrA ti23 2 (l7.getD 1 .junk) (l7.getD 3 .junk)) fun v15 => optA (fieldA ti66 v15 1) fun v16 => optA (ldV false 1 v16 H8) fun v17 => optA (intA .lss v17 (.d (.int .i64 1))) fun v18 => ifA v18 (retF [.d (.bool false)] H8 K) (optA (indexAddrA ti23 2 (l7.getD 1 .junk) (l7.getD 3 .junk)) fun v19 => optA (fieldA ti66 v19 0) fun v20 => optA (ldV false 1 v20 H8) fun v21 => optA (intA .gtr v21 (l7.getD 0 .junk)) fun v22 => ifA v22 (retF [.d (.bool false)] H8 K) (optA (indexAddrA ti23 2 (l7.getD 1 .junk) (l7.getD 3 .junk)) fun v23 => optA (fieldA ti66 v23 1) fun v24 => optA (ldV false 1 v24 H8) fun v25 => optA (indexAddrA ti23 2 (l7.getD 1 .junk) (l7.getD 3 .junk)) fun v26 => optA (fieldA ti66 v26 0) fun v27 => optA (ldV false 1 v27 H8) fun v28 => optA (intA .sub (l7.getD 0 .junk) v28) fun v29 => optA (intA .gtr v25 v29) fun v30 => ifA v30 (retF [.d (.bool false)] H8 K) (optA (indexAddrA ti23 2 (l7.getD 1 .junk) (l7.getD 3 .junk)) fun v31 => optA (fieldA ti66 v31 0) fun v32 => optA (ldV false 1 v32 H8) fun v33 => loopA (fun X34 l35 H36 => drA true (optA (indexAddrA ti23 2 (l35.getD 1 .junk) (l35.getD 3 .junk)) fun v37 => optA (fieldA ti66 v37 0) fun v38 => optA (ldV false 1 v38 H36) fun v39 => optA (indexAddrA ti23 2 (l35.getD 1 .junk) (l35.getD 3 .junk)) fun v40 => optA (fieldA ti66 v40 1) fun v41 => optA (ldV false 1 v41 H36) fun v42 => optA (intA .add v39 v42) fun v43 => optA (intA .lss (l35.getD 4 .junk) v43) fun v44 => ifA v44 (optA (indexAddrA ti22 1 (l35.getD 2 .junk) (l35.getD 4 .junk)) fun v45 => optA (ldV false 1 v45 H36) fun v46 => ifA v46 (retF [.d (.bool false)] H36 K) (optA (indexAddrA ti22 1 (l35.getD 2 .junk) (l35.getD 4 .junk)) fun v47 => stepK (stoA false 1 v47 (.d (.bool true)) H36) H36 fun v48 H49 => optA (intA .add (l35.getD 4 .junk) (.d (.int .i64 1))) fun v50 => X34 [l35.getD 0 .junk, l35.getD 1 .junk, l35.getD 2 .junk, l35.getD 3 .junk, v50] H49)) (optA (intA .add (l35.getD 3 .junk) (.d (.int .i64 1))) fun v51 => X6 [l35.getD 0 .junk, l35.getD 1 .junk, l35.getD 2 .junk, v51, l35.getD 4 .junk] H36))) [l7.getD 0 .junk, l7.getD 1 .junk, l7.getD 2 .junk, l7.getD 3 .junk, v33] H8)))))) (retF [.d (.bool true)] H8 K)) [a0, a1, v3, .d (.int .i64 0), .junk] H4))
noncomputable def r35_0 : List Oper := regOps Try.f35 0
noncomputable def r35_1 : List Oper := regOps Try.f35 1
noncomputable def r35_2 : List Oper := regOps Try.f35 2
noncomputable def r35_3 : List Oper := regOps Try.f35 3
noncomputable def r35_4 : List Oper := regOps Try.f35 4
noncomputable def r35_5 : List Oper := regOps Try.f35 5
noncomputable def r35_6 : List Oper := regOps Try.f35 6
noncomputable def r35_7 : List Oper := regOps Try.f35 7
noncomputable def r35_8 : List Oper := regOps Try.f35 8
noncomputable def r35_9 : List Oper := regOps Try.f35 9
noncomputable def r35_10 : List Oper := regOps Try.f35 10
noncomputable def r35_11 : List Oper := regOps Try.f35 11
noncomputable def r35_12 : List Oper := regOps Try.f35 12
noncomputable def r35_13 : List Oper := regOps Try.f35 13
noncomputable def r35_14 : List Oper := regOps Try.f35 14
noncomputable def r35_15 : List Oper := regOps Try.f35 15
noncomputable def c35 : Code := (.seq (.region 0 #[opAt r35_0 0] false) (.seq (.seq (.region 1 #[opAt r35_1 0, opAt r35_1 1, opAt r35_1 2, opAt r35_1 3, opAt r35_1 4, opAt r35_1 5] false) (.cond (.tmp 13) (.seq (.region 2 #[opAt r35_2 0] false) .ret) .skip)) (.seq (.region 3 #[opAt r35_3 0, opAt r35_3 1, opAt r35_3 2] false) (.seq (.seq (.region 4 #[opAt r35_4 0] false) (.block 0 (.loop (.seq (.seq (.region 5 #[opAt r35_5 0, opAt r35_5 1, opAt r35_5 2, opAt r35_5 3] false) (.cond (.tmp 19) .skip (.exit 0))) (.seq (.block 1 (.seq (.seq (.region 7 #[opAt r35_6 0, opAt r35_6 1, opAt r35_6 2, opAt r35_6 3, opAt r35_6 4, opAt r35_6 5, opAt r35_6 6, opAt r35_6 7, opAt r35_6 8, opAt r35_6 9, opAt r35_6 10, opAt r35_6 11, opAt r35_6 12, opAt r35_6 13, opAt r35_6 14, opAt r35_6 15, opAt r35_6 16, opAt r35_6 17, opAt r35_6 18, opAt r35_6 19, opAt r35_6 20, opAt r35_6 21, opAt r35_6 22, opAt r35_6 23, opAt r35_6 24, opAt r35_6 25, opAt r35_6 26, opAt r35_6 27, opAt r35_6 28, opAt r35_6 29, opAt r35_6 30, opAt r35_6 31, opAt r35_6 32, opAt r35_6 33, opAt r35_6 34, opAt r35_6 35, opAt r35_6 36, opAt r35_6 37] true) (.cond (.tmp 59) (.seq (.region 8 #[opAt r35_7 0] false) .ret) .skip)) (.seq (.region 9 #[opAt r35_8 0, opAt r35_8 1, opAt r35_8 2, opAt r35_8 3, opAt r35_8 4, opAt r35_8 5] false) (.block 2 (.loop (.seq (.seq (.region 10 #[opAt r35_9 0, opAt r35_9 1, opAt r35_9 2, opAt r35_9 3, opAt r35_9 4, opAt r35_9 5, opAt r35_9 6, opAt r35_9 7, opAt r35_9 8, opAt r35_9 9, opAt r35_9 10, opAt r35_9 11, opAt r35_9 12] true) (.cond (.tmp 77) .skip (.exit 2))) (.seq (.block 3 (.seq (.seq (.region 12 #[opAt r35_10 0, opAt r35_10 1, opAt r35_10 2, opAt r35_10 3] false) (.cond (.tmp 83) (.seq (.region 13 #[opAt r35_11 0] false) .ret) .skip)) (.region 14 #[opAt r35_12 0, opAt r35_12 1, opAt r35_12 2, opAt r35_12 3] false))) (.region 11 #[opAt r35_13 0, opAt r35_13 1, opAt r35_13 2] false)))))))) (.region 6 #[opAt r35_14 0, opAt r35_14 1, opAt r35_14 2] false)))))) (.seq (.region 15 #[opAt r35_15 0] false) .ret)))))
theorem c35_eq : Try.f35.body = some c35 := by kernel_rfl
theorem S35_eq (γ : Calld) (a0 a1 : AV) (H : AHeap) (K : AV → AHeap → Prop) : execC Try.prog γ pol35 Try.f35 c35 [a0, a1] H K = S35 γ a0 a1 H K := by kernel_rfl
theorem C35 {a0 a1 : AV} {H : AHeap} {K : AV → AHeap → Prop} (h : S35 (CallsA Try.prog) a0 a1 H K) : CallsA Try.prog 35 [a0, a1] H K :=
  calls_of Try.func35 (ne_of_beq_false (by kernel_rfl)) c35_eq (by kernel_rfl) (by rw [S35_eq]; exact h)
/-! tithing/tithingref01.SameInts -/
def pol36 : Pol := { lend := fun _ => true, keep := [0, 1, 5], frz := fun _ => [], perm := fun r => if r = 6 then [0, 1, 2, 3, 4, 5, 6, 7, 8] else [], bf := fun r => if r = 6 then [0, 0, 3, 7, 0, 0, 48, 112, 255] else [], ret := true }
def S36 (γ : Calld) (a0 a1 : AV) (H : AHeap) (K : AV → AHeap → Prop) : Prop :=
  optA (lenSl a0) fun v1 => optA (lenSl a1) fun v2 => optA (intA .neq v1 v2) fun v3 => ifA v3 (retF [.d (.bool false)] H K) (loopA (fun X4 l5 H6 => optA (lenSl (l5.getD 0 .junk)) fun v7 => optA (intA .lss (l5.getD 2 .junk) v7) fun v8 => ifA v8 (drA true (optA (indexAddrA ti33 1 (l5.getD 0 .junk) (l5.getD 2 .junk)) fun v9 => optA (ldV false 1 v9 H6) fun v10 => optA (indexAddrA ti33 1 (l5.getD 1 .junk) (l5.getD 2 .junk)) fun v11 => optA (ldV false 1 v11 H6) fun v12 => optA (intA .neq v10 v12) fun v13 => ifA v13 (retF [.d (.bool false)] H6 K) (optA (intA .add (l5.getD 2 .junk) (.d (.int .i64 1))) fun v14 => X4 [l5.getD 0 .junk, l5.getD 1 .junk, v14] H6))) (retF [.d (.bool true)] H6 K)) [a0, a1, .d (.int .i64 0)] H)
noncomputable def r36_0 : List Oper := regOps Try.f36 0
noncomputable def r36_1 : List Oper := regOps Try.f36 1
noncomputable def r36_2 : List Oper := regOps Try.f36 2
noncomputable def r36_3 : List Oper := regOps Try.f36 3
noncomputable def r36_4 : List Oper := regOps Try.f36 4
noncomputable def r36_5 : List Oper := regOps Try.f36 5
noncomputable def r36_6 : List Oper := regOps Try.f36 6
noncomputable def r36_7 : List Oper := regOps Try.f36 7
noncomputable def r36_8 : List Oper := regOps Try.f36 8
noncomputable def c36 : Code := (.seq (.region 0 #[opAt r36_0 0] false) (.seq (.seq (.region 1 #[opAt r36_1 0, opAt r36_1 1, opAt r36_1 2, opAt r36_1 3, opAt r36_1 4] false) (.cond (.tmp 10) (.seq (.region 2 #[opAt r36_2 0] false) .ret) .skip)) (.seq (.seq (.region 3 #[opAt r36_3 0] false) (.block 0 (.loop (.seq (.seq (.region 4 #[opAt r36_4 0, opAt r36_4 1, opAt r36_4 2, opAt r36_4 3] false) (.cond (.tmp 14) .skip (.exit 0))) (.seq (.block 1 (.seq (.region 6 #[opAt r36_5 0, opAt r36_5 1, opAt r36_5 2, opAt r36_5 3, opAt r36_5 4, opAt r36_5 5, opAt r36_5 6, opAt r36_5 7, opAt r36_5 8] true) (.cond (.tmp 25) (.seq (.region 7 #[opAt r36_6 0] false) .ret) .skip))) (.region 5 #[opAt r36_7 0, opAt r36_7 1, opAt r36_7 2] false)))))) (.seq (.region 8 #[opAt r36_8 0] false) .ret))))
theorem c36_eq : Try.f36.body = some c36 := by kernel_rfl
theorem S36_eq (γ : Calld) (a0 a1 : AV) (H : AHeap) (K : AV → AHeap → Prop) : execC Try.prog γ pol36 Try.f36 c36 [a0, a1] H K = S36 γ a0 a1 H K := by kernel_rfl
theorem C36 {a0 a1 : AV} {H : AHeap} {K : AV → AHeap → Prop} (h : S36 (CallsA Try.prog) a0 a1 H K) : CallsA Try.prog 36 [a0, a1] H K :=
  calls_of Try.func36 (ne_of_beq_false (by kernel_rfl)) c36_eq (by kernel_rfl) (by rw [S36_eq]; exact h)
/-! tithing/extent.Pack -/
def pol37 : Pol := { lend := fun _ => true, keep := [4, 15, 16, 17], frz := fun _ => [], perm := fun r => if r = 8 then [0, 1, 2, 3, 4, 5, 6, 7, 8, 9, 10] else [], bf := fun r => if r = 8 then [0, 0, 2, 7, 15, 0, 32, 96, 255, 511, 1023] else [], ret := true }
def S37 (γ : Calld) (a0 : AV) (H : AHeap) (K : AV → AHeap → Prop) : Prop :=
  frzLK [a0, .d (.sl true [])] H fun l3 H4 => γ 45 l3 H4 fun v1 H2 => optA (unA .not v1) fun v5 => ifA v5 (retF [.d (.sl true []), .d (.int .i64 2)] H2 K) (optA (lenSl a0) fun v6 => optA (intA .add v6 (.d (.int .i64 7))) fun v7 => optA (intA .quo v7 (.d (.int .i64 8))) fun v8 => newK H2 (fun n11 => mkSlA ti5 v8 v8 n11) fun v9 H10 => optA (lenSl a0) fun v12 => loopA (fun X13 l14 H15 => optA (intA .lss (l14.getD 3 .junk) (l14.getD 2 .junk)) fun v16 => ifA v16 (optA (indexAddrA ti22 1 (l14.getD 1 .junk) (l14.getD 3 .junk)) fun v17 => optA (ldV false 1 v17 H15) fun v18 => ifA v18 (drA true (optA (intA .quo (l14.getD 3 .junk) (.d (.int .i64 8))) fun v19 => optA (indexAddrA ti50 1 (l14.getD 0 .junk) v19) fun v20 => optA (ldV false 1 v20 H15) fun v21 => optA (intA .rem (l14.getD 3 .junk) (.d (.int .i64 8))) fun v22 => optA (intA .shr (.d (.int .u8 128)) v22) fun v23 => optA (intA .or v21 v23) fun v24 => optA (indexAddrA ti50 1 (l14.getD 0 .junk) v19) fun v25 => noRsA (aggL v24) (stepK (stoA false 1 v25 v24 H15) H15 fun v26 H27 => optA (intA .add (l14.getD 3 .junk) (.d (.int .i64 1))) fun v28 => X13 [l14.getD 0 .junk, l14.getD 1 .junk, l14.getD 2 .junk, v28] H27))) (optA (intA .add (l14.getD 3 .junk) (.d (.int .i64 1))) fun v29 => X13 [l14.getD 0 .junk, l14.getD 1 .junk, l14.getD 2 .junk, v29] H15)) (retF [l14.getD 0 .junk, .d (.int .i64 0)] H15 K)) [v9, a0, v12, .d (.int .i64 0)] H10)
noncomputable def r37_0 : List Oper := regOps Try.f37 0
noncomputable def r37_1 : List Oper := regOps Try.f37 1
noncomputable def r37_2 : List Oper := regOps Try.f37 2
noncomputable def r37_3 : List Oper := regOps Try.f37 3
noncomputable def r37_4 : List Oper := regOps Try.f37 4
noncomputable def r37_5 : List Oper := regOps Try.f37 5
noncomputable def r37_6 : List Oper := regOps Try.f37 6
noncomputable def r37_7 : List Oper := regOps Try.f37 7
noncomputable def r37_8 : List Oper := regOps Try.f37 8
noncomputable def r37_9 : List Oper := regOps Try.f37 9
noncomputable def r37_10 : List Oper := regOps Try.f37 10
noncomputable def c37 : Code := (.seq (.region 0 #[opAt r37_0 0, opAt r37_0 1] false) (.seq (.seq (.region 1 #[opAt r37_1 0, opAt r37_1 1, opAt r37_1 2] false) (.cond (.tmp 9) (.seq (.region 2 #[opAt r37_2 0, opAt r37_2 1] false) .ret) .skip)) (.seq (.region 3 #[opAt r37_3 0, opAt r37_3 1, opAt r37_3 2, opAt r37_3 3, opAt r37_3 4, opAt r37_3 5] false) (.seq (.seq (.region 4 #[opAt r37_4 0, opAt r37_4 1, opAt r37_4 2] false) (.block 0 (.loop (.seq (.region 5 #[opAt r37_5 0] false) (.seq (.cond (.tmp 18) .skip (.exit 0)) (.seq (.block 1 (.seq (.region 6 #[opAt r37_6 0, opAt r37_6 1, opAt r37_6 2, opAt r37_6 3, opAt r37_6 4] false) (.seq (.region 7 #[opAt r37_7 0] false) (.cond (.tmp 22) (.region 8 #[opAt r37_8 0, opAt r37_8 1, opAt r37_8 2, opAt r37_8 3, opAt r37_8 4, opAt r37_8 5, opAt r37_8 6, opAt r37_8 7, opAt r37_8 8, opAt r37_8 9, opAt r37_8 10] true) .skip)))) (.region 9 #[opAt r37_9 0, opAt r37_9 1] false))))))) (.seq (.region 10 #[opAt r37_10 0, opAt r37_10 1, opAt r37_10 2] false) .ret)))))
theorem c37_eq : Try.f37.body = some c37 := by kernel_rfl
theorem S37_eq (γ : Calld) (a0 : AV) (H : AHeap) (K : AV → AHeap → Prop) : execC Try.prog γ pol37 Try.f37 c37 [a0] H K = S37 γ a0 H K := by kernel_rfl
theorem C37 {a0 : AV} {H : AHeap} {K : AV → AHeap → Prop} (h : S37 (CallsA Try.prog) a0 H K) : CallsA Try.prog 37 [a0] H K :=
  calls_of Try.func37 (ne_of_beq_false (by kernel_rfl)) c37_eq (by kernel_rfl) (by rw [S37_eq]; exact h)
/-! tithing/tithingref15.Pack -/
def pol38 : Pol := { lend := fun _ => true, keep := [0, 4, 5], frz := fun _ => [], perm := fun r => if r = 8 then [0, 1, 2, 3, 4, 5, 6, 7, 8, 9, 10] else [], bf := fun r => if r = 8 then [0, 0, 2, 7, 15, 0, 32, 96, 255, 511, 1023] else [], ret := true }
def S38 (γ : Calld) (a0 : AV) (H : AHeap) (K : AV → AHeap → Prop) : Prop :=
  optA (lenSl a0) fun v1 => optA (intA .gtr v1 (.d (.int .i64 300))) fun v2 => ifA v2 (retF [.d (.sl true []), .d (.int .i64 2)] H K) (optA (lenSl a0) fun v3 => optA (intA .add v3 (.d (.int .i64 7))) fun v4 => optA (intA .quo v4 (.d (.int .i64 8))) fun v5 => newK H (fun n8 => mkSlA ti5 v5 v5 n8) fun v6 H7 => loopA (fun X9 l10 H11 => optA (lenSl (l10.getD 0 .junk)) fun v12 => optA (intA .lss (l10.getD 2 .junk) v12) fun v13 => ifA v13 (optA (indexAddrA ti22 1 (l10.getD 0 .junk) (l10.getD 2 .junk)) fun v14 => optA (ldV false 1 v14 H11) fun v15 => ifA v15 (drA true (optA (intA .quo (l10.getD 2 .junk) (.d (.int .i64 8))) fun v16 => optA (indexAddrA ti50 1 (l10.getD 1 .junk) v16) fun v17 => optA (ldV false 1 v17 H11) fun v18 => optA (intA .rem (l10.getD 2 .junk) (.d (.int .i64 8))) fun v19 => optA (intA .shr (.d (.int .u8 128)) v19) fun v20 => optA (intA .or v18 v20) fun v21 => optA (indexAddrA ti50 1 (l10.getD 1 .junk) v16) fun v22 => noRsA (aggL v21) (stepK (stoA false 1 v22 v21 H11) H11 fun v23 H24 => optA (intA .add (l10.getD 2 .junk) (.d (.int .i64 1))) fun v25 => X9 [l10.getD 0 .junk, l10.getD 1 .junk, v25] H24))) (optA (intA .add (l10.getD 2 .junk) (.d (.int .i64 1))) fun v26 => X9 [l10.getD 0 .junk, l10.getD 1 .junk, v26] H11)) (retF [l10.getD 1 .junk, .d (.int .i64 0)] H11 K)) [a0, v6, .d (.int .i64 0)] H7)
noncomputable def r38_0 : List Oper := regOps Try.f38 0
noncomputable def r38_1 : List Oper := regOps Try.f38 1
noncomputable def r38_2 : List Oper := regOps Try.f38 2
noncomputable def r38_3 : List Oper := regOps Try.f38 3
noncomputable def r38_4 : List Oper := regOps Try.f38 4
noncomputable def r38_5 : List Oper := regOps Try.f38 5
noncomputable def r38_6 : List Oper := regOps Try.f38 6
noncomputable def r38_7 : List Oper := regOps Try.f38 7
noncomputable def r38_8 : List Oper := regOps Try.f38 8
noncomputable def r38_9 : List Oper := regOps Try.f38 9
noncomputable def c38 : Code := (.seq (.region 0 #[opAt r38_0 0, opAt r38_0 1] false) (.seq (.seq (.region 1 #[opAt r38_1 0, opAt r38_1 1, opAt r38_1 2] false) (.cond (.tmp 8) (.seq (.region 2 #[opAt r38_2 0, opAt r38_2 1] false) .ret) .skip)) (.seq (.region 3 #[opAt r38_3 0, opAt r38_3 1, opAt r38_3 2, opAt r38_3 3, opAt r38_3 4, opAt r38_3 5] false) (.seq (.seq (.region 4 #[opAt r38_4 0] false) (.block 0 (.loop (.seq (.seq (.region 5 #[opAt r38_5 0, opAt r38_5 1, opAt r38_5 2, opAt r38_5 3] false) (.cond (.tmp 17) .skip (.exit 0))) (.seq (.block 1 (.seq (.region 7 #[opAt r38_6 0, opAt r38_6 1, opAt r38_6 2, opAt r38_6 3] false) (.cond (.tmp 23) (.region 8 #[opAt r38_7 0, opAt r38_7 1, opAt r38_7 2, opAt r38_7 3, opAt r38_7 4, opAt r38_7 5, opAt r38_7 6, opAt r38_7 7, opAt r38_7 8, opAt r38_7 9, opAt r38_7 10] true) .skip))) (.region 6 #[opAt r38_8 0, opAt r38_8 1, opAt r38_8 2] false)))))) (.seq (.region 9 #[opAt r38_9 0, opAt r38_9 1, opAt r38_9 2] false) .ret)))))
theorem c38_eq : Try.f38.body = some c38 := by kernel_rfl
theorem S38_eq (γ : Calld) (a0 : AV) (H : AHeap) (K : AV → AHeap → Prop) : execC Try.prog γ pol38 Try.f38 c38 [a0] H K = S38 γ a0 H K := by kernel_rfl
theorem C38 {a0 : AV} {H : AHeap} {K : AV → AHeap → Prop} (h : S38 (CallsA Try.prog) a0 H K) : CallsA Try.prog 38 [a0] H K :=
  calls_of Try.func38 (ne_of_beq_false (by kernel_rfl)) c38_eq (by kernel_rfl) (by rw [S38_eq]; exact h)
/-! tithing/extent.Unpack -/
def pol39 : Pol := { lend := fun _ => true, keep := [0, 1, 6, 27, 28], frz := fun _ => [], perm := fun r => if r = 7 then [0, 1, 2, 3, 4, 5, 6, 7, 8, 9, 10] else [], bf := fun r => if r = 7 then [0, 0, 2, 7, 15, 0, 32, 96, 255, 511, 1023] else [], ret := true }
def S39 (γ : Calld) (a0 a1 : AV) (H : AHeap) (K : AV → AHeap → Prop) : Prop :=
  optA (intA .lss a1 (.d (.int .i64 0))) fun v1 => ifA v1 (retF [.d (.sl true []), .d (.int .i64 2)] H K) (optA (intA .gtr a1 (.d (.int .i64 300))) fun v2 => ifA v2 (retF [.d (.sl true []), .d (.int .i64 2)] H K) (optA (lenSl a0) fun v3 => optA (intA .add a1 (.d (.int .i64 7))) fun v4 => optA (intA .quo v4 (.d (.int .i64 8))) fun v5 => optA (intA .neq v3 v5) fun v6 => ifA v6 (retF [.d (.sl true []), .d (.int .i64 2)] H K) (newK H (fun n9 => mkSlA ti4 a1 a1 n9) fun v7 H8 => optA (lenSl a0) fun v10 => optA (intA .mul (.d (.int .i64 8)) v10) fun v11 => loopA (fun X12 l13 H14 => optA (intA .lss (l13.getD 4 .junk) (l13.getD 3 .junk)) fun v15 => ifA v15 (drA true (optA (intA .quo (l13.getD 4 .junk) (.d (.int .i64 8))) fun v16 => optA (indexAddrA ti50 1 (l13.getD 0 .junk) v16) fun v17 => optA (ldV false 1 v17 H14) fun v18 => optA (intA .rem (l13.getD 4 .junk) (.d (.int .i64 8))) fun v19 => optA (intA .shr (.d (.int .u8 128)) v19) fun v20 => optA (intA .and v18 v20) fun v21 => optA (intA .neq v21 (.d (.int .u8 0))) fun v22 => optA (intA .geq (l13.getD 4 .junk) (l13.getD 1 .junk)) fun v23 => ifA v23 (ifA v22 (retF [.d (.sl true []), .d (.int .i64 3)] H14 K) (optA (intA .lss (l13.getD 4 .junk) (l13.getD 1 .junk)) fun v24 => ifA v24 (optA (indexAddrA ti22 1 (l13.getD 2 .junk) (l13.getD 4 .junk)) fun v25 => stepK (stoA false 1 v25 v22 H14) H14 fun v26 H27 => optA (intA .add (l13.getD 4 .junk) (.d (.int .i64 1))) fun v28 => X12 [l13.getD 0 .junk, l13.getD 1 .junk, l13.getD 2 .junk, l13.getD 3 .junk, v28] H27) (optA (intA .add (l13.getD 4 .junk) (.d (.int .i64 1))) fun v29 => X12 [l13.getD 0 .junk, l13.getD 1 .junk, l13.getD 2 .junk, l13.getD 3 .junk, v29] H14))) (optA (intA .lss (l13.getD 4 .junk) (l13.getD 1 .junk)) fun v30 => ifA v30 (optA (indexAddrA ti22 1 (l13.getD 2 .junk) (l13.getD 4 .junk)) fun v31 => stepK (stoA false 1 v31 v22 H14) H14 fun v32 H33 => optA (intA .add (l13.getD 4 .junk) (.d (.int .i64 1))) fun v34 => X12 [l13.getD 0 .junk, l13.getD 1 .junk, l13.getD 2 .junk, l13.getD 3 .junk, v34] H33) (optA (intA .add (l13.getD 4 .junk) (.d (.int .i64 1))) fun v35 => X12 [l13.getD 0 .junk, l13.getD 1 .junk, l13.getD 2 .junk, l13.getD 3 .junk, v35] H14)))) (retF [l13.getD 2 .junk, .d (.int .i64 0)] H14 K)) [a0, a1, v7, v11, .d (.int .i64 0)] H8)))
noncomputable def r39_0 : List Oper := regOps Try.f39 0
noncomputable def r39_1 : List Oper := regOps Try.f39 1
noncomputable def r39_2 : List Oper := regOps Try.f39 2
noncomputable def r39_3 : List Oper := regOps Try.f39 3
noncomputable def r39_4 : List Oper := regOps Try.f39 4
noncomputable def r39_5 : List Oper := regOps Try.f39 5
noncomputable def r39_6 : List Oper := regOps Try.f39 6
noncomputable def r39_7 : List Oper := regOps Try.f39 7
noncomputable def r39_8 : List Oper := regOps Try.f39 8
noncomputable def r39_9 : List Oper := regOps Try.f39 9
noncomputable def r39_10 : List Oper := regOps Try.f39 10
noncomputable def r39_11 : List Oper := regOps Try.f39 11
noncomputable def r39_12 : List Oper := regOps Try.f39 12
noncomputable def r39_13 : List Oper := regOps Try.f39 13
noncomputable def c39 : Code := (.seq (.region 0 #[opAt r39_0 0, opAt r39_0 1] false) (.seq (.seq (.region 1 #[opAt r39_1 0, opAt r39_1 1, opAt r39_1 2, opAt r39_1 3, opAt r39_1 4, opAt r39_1 5, opAt r39_1 6, opAt r39_1 7, opAt r39_1 8, opAt r39_1 9, opAt r39_1 10, opAt r39_1 11, opAt r39_1 12, opAt r39_1 13] false) (.cond (.tmp 22) (.seq (.region 2 #[opAt r39_2 0, opAt r39_2 1] false) .ret) .skip)) (.seq (.region 3 #[opAt r39_3 0, opAt r39_3 1, opAt r39_3 2] false) (.seq (.seq (.region 4 #[opAt r39_4 0, opAt r39_4 1, opAt r39_4 2, opAt r39_4 3] false) (.block 0 (.loop (.seq (.region 5 #[opAt r39_5 0] false) (.seq (.cond (.tmp 29) .skip (.exit 0)) (.seq (.block 1 (.seq (.region 6 #[opAt r39_6 0, opAt r39_6 1] false) (.seq (.region 7 #[opAt r39_7 0, opAt r39_7 1, opAt r39_7 2, opAt r39_7 3, opAt r39_7 4, opAt r39_7 5, opAt r39_7 6, opAt r39_7 7, opAt r39_7 8, opAt r39_7 9, opAt r39_7 10] true) (.seq (.seq (.region 8 #[opAt r39_8 0, opAt r39_8 1, opAt r39_8 2, opAt r39_8 3, opAt r39_8 4, opAt r39_8 5] false) (.cond (.tmp 46) (.seq (.region 9 #[opAt r39_9 0, opAt r39_9 1] false) .ret) .skip)) (.seq (.region 10 #[opAt r39_10 0, opAt r39_10 1, opAt r39_10 2] false) (.cond (.tmp 49) (.region 11 #[opAt r39_11 0, opAt r39_11 1, opAt r39_11 2, opAt r39_11 3, opAt r39_11 4] false) .skip)))))) (.region 12 #[opAt r39_12 0, opAt r39_12 1] false))))))) (.seq (.region 13 #[opAt r39_13 0, opAt r39_13 1, opAt r39_13 2] false) .ret)))))
theorem c39_eq : Try.f39.body = some c39 := by kernel_rfl
theorem S39_eq (γ : Calld) (a0 a1 : AV) (H : AHeap) (K : AV → AHeap → Prop) : execC Try.prog γ pol39 Try.f39 c39 [a0, a1] H K = S39 γ a0 a1 H K := by kernel_rfl
theorem C39 {a0 a1 : AV} {H : AHeap} {K : AV → AHeap → Prop} (h : S39 (CallsA Try.prog) a0 a1 H K) : CallsA Try.prog 39 [a0, a1] H K :=
  calls_of Try.func39 (ne_of_beq_false (by kernel_rfl)) c39_eq (by kernel_rfl) (by rw [S39_eq]; exact h)
/-! tithing/tithingref15.Unpack -/
def pol40 : Pol := { lend := fun _ => true, keep := [0, 1, 6, 7], frz := fun _ => [], perm := fun r => [], bf := fun r => [], ret := true }
def S40 (γ : Calld) (a0 a1 : AV) (H : AHeap) (K : AV → AHeap → Prop) : Prop :=
  optA (intA .lss a1 (.d (.int .i64 0))) fun v1 => ifA v1 (retF [.d (.sl true []), .d (.int .i64 2)] H K) (optA (intA .gtr a1 (.d (.int .i64 300))) fun v2 => ifA v2 (retF [.d (.sl true []), .d (.int .i64 2)] H K) (optA (lenSl a0) fun v3 => optA (intA .add a1 (.d (.int .i64 7))) fun v4 => optA (intA .quo v4 (.d (.int .i64 8))) fun v5 => optA (intA .neq v3 v5) fun v6 => ifA v6 (retF [.d (.sl true []), .d (.int .i64 2)] H K) (loopA (fun X7 l8 H9 => optA (lenSl (l8.getD 0 .junk)) fun v10 => optA (intA .mul (.d (.int .i64 8)) v10) fun v11 => optA (intA .lss (l8.getD 3 .junk) v11) fun v12 => ifA v12 (optA (intA .quo (l8.getD 3 .junk) (.d (.int .i64 8))) fun v13 => optA (indexAddrA ti50 1 (l8.getD 0 .junk) v13) fun v14 => optA (ldV false 1 v14 H9) fun v15 => optA (intA .rem (l8.getD 3 .junk) (.d (.int .i64 8))) fun v16 => optA (intA .sub (.d (.int .i64 7)) v16) fun v17 => optA (intA .shr v15 v17) fun v18 => optA (intA .and v18 (.d (.int .u8 1))) fun v19 => optA (intA .eql v19 (.d (.int .u8 1))) fun v20 => optA (intA .lss (l8.getD 3 .junk) (l8.getD 1 .junk)) fun v21 => ifA v21 (newK H9 (fun n24 => bsA ti4 1 [0] [v20] H9 n24) fun v22 H23 => newK H23 (fun n27 => apA 1 1 (l8.getD 2 .junk) v22 H23 n27) fun v25 H26 => optA (intA .add (l8.getD 3 .junk) (.d (.int .i64 1))) fun v28 => X7 [l8.getD 0 .junk, l8.getD 1 .junk, v25, v28] H26) (ifA v20 (retF [.d (.sl true []), .d (.int .i64 3)] H9 K) (optA (intA .add (l8.getD 3 .junk) (.d (.int .i64 1))) fun v29 => X7 [l8.getD 0 .junk, l8.getD 1 .junk, l8.getD 2 .junk, v29] H9))) (retF [l8.getD 2 .junk, .d (.int .i64 0)] H9 K)) [a0, a1, .d (.sl true []), .d (.int .i64 0)] H)))
noncomputable def r40_0 : List Oper := regOps Try.f40 0
noncomputable def r40_1 : List Oper := regOps Try.f40 1
noncomputable def r40_2 : List Oper := regOps Try.f40 2
noncomputable def r40_3 : List Oper := regOps Try.f40 3
noncomputable def r40_4 : List Oper := regOps Try.f40 4
noncomputable def r40_5 : List Oper := regOps Try.f40 5
noncomputable def r40_6 : List Oper := regOps Try.f40 6
noncomputable def r40_7 : List Oper := regOps Try.f40 7
noncomputable def r40_8 : List Oper := regOps Try.f40 8
noncomputable def r40_9 : List Oper := regOps Try.f40 9
noncomputable def r40_10 : List Oper := regOps Try.f40 10
noncomputable def r40_11 : List Oper := regOps Try.f40 11
noncomputable def r40_12 : List Oper := regOps Try.f40 12
noncomputable def c40 : Code := (.seq (.region 0 #[opAt r40_0 0, opAt r40_0 1] false) (.seq (.seq (.region 1 #[opAt r40_1 0, opAt r40_1 1, opAt r40_1 2, opAt r40_1 3, opAt r40_1 4, opAt r40_1 5, opAt r40_1 6, opAt r40_1 7, opAt r40_1 8, opAt r40_1 9, opAt r40_1 10, opAt r40_1 11, opAt r40_1 12, opAt r40_1 13] false) (.cond (.tmp 22) (.seq (.region 2 #[opAt r40_2 0, opAt r40_2 1] false) .ret) .skip)) (.seq (.region 3 #[opAt r40_3 0] false) (.seq (.seq (.region 4 #[opAt r40_4 0] false) (.block 0 (.loop (.seq (.seq (.region 5 #[opAt r40_5 0, opAt r40_5 1, opAt r40_5 2, opAt r40_5 3, opAt r40_5 4] false) (.cond (.tmp 27) .skip (.exit 0))) (.seq (.block 1 (.seq (.region 7 #[opAt r40_6 0, opAt r40_6 1, opAt r40_6 2, opAt r40_6 3, opAt r40_6 4, opAt r40_6 5, opAt r40_6 6, opAt r40_6 7, opAt r40_6 8, opAt r40_6 9, opAt r40_6 10, opAt r40_6 11] false) (.seq (.region 8 #[opAt r40_7 0, opAt r40_7 1, opAt r40_7 2] false) (.cond (.tmp 43) (.region 9 #[opAt r40_8 0, opAt r40_8 1, opAt r40_8 2, opAt r40_8 3, opAt r40_8 4] false) (.seq (.region 10 #[opAt r40_9 0] false) (.cond (.tmp 48) (.seq (.region 11 #[opAt r40_10 0, opAt r40_10 1] false) .ret) .skip)))))) (.region 6 #[opAt r40_11 0, opAt r40_11 1, opAt r40_11 2] false)))))) (.seq (.region 12 #[opAt r40_12 0, opAt r40_12 1, opAt r40_12 2] false) .ret)))))
theorem c40_eq : Try.f40.body = some c40 := by kernel_rfl
theorem S40_eq (γ : Calld) (a0 a1 : AV) (H : AHeap) (K : AV → AHeap → Prop) : execC Try.prog γ pol40 Try.f40 c40 [a0, a1] H K = S40 γ a0 a1 H K := by kernel_rfl
theorem C40 {a0 a1 : AV} {H : AHeap} {K : AV → AHeap → Prop} (h : S40 (CallsA Try.prog) a0 a1 H K) : CallsA Try.prog 40 [a0, a1] H K :=
  calls_of Try.func40 (ne_of_beq_false (by kernel_rfl)) c40_eq (by kernel_rfl) (by rw [S40_eq]; exact h)
/-! tithing/extent.Cut -/
def pol41 : Pol := { lend := fun _ => true, keep := [1, 4, 5, 29, 30, 31], frz := fun _ => [], perm := fun r => [], bf := fun r => [], ret := true }
def S41 (γ : Calld) (a0 a1 : AV) (H : AHeap) (K : AV → AHeap → Prop) : Prop :=
  frzLK [a0] H fun l3 H4 => γ 30 l3 H4 fun v1 H2 => optA (extractA v1 0) fun v5 => optA (extractA v1 1) fun v6 => optA (intA .neq v6 (.d (.int .i64 0))) fun v7 => ifA v7 (retF [.d (.sl true []), .d (.sl true []), .d (.int .i64 2)] H2 K) (optA (intA .lss a1 (.d (.int .i64 0))) fun v8 => ifA v8 (retF [.d (.sl true []), .d (.sl true []), .d (.int .i64 2)] H2 K) (optA (intA .gtr a1 v5) fun v9 => ifA v9 (retF [.d (.sl true []), .d (.sl true []), .d (.int .i64 2)] H2 K) (optA (lenSl a0) fun v10 => loopA (fun X11 l12 H13 => optA (intA .lss (l12.getD 5 .junk) (l12.getD 4 .junk)) fun v14 => ifA v14 (optA (indexAddrA ti23 2 (l12.getD 3 .junk) (l12.getD 5 .junk)) fun v15 => optA (ldV true 2 v15 H13) fun v16 => newK H13 (fun n19 => some (.ptr n19 0 0 0, [(n19, .mem 0 0 2 [[.d (.int .i64 0), .d (.int .i64 0)]])])) fun v17 H18 => stepK (stoA true 2 v17 v16 H18) H18 fun v20 H21 => optA (fieldA ti66 v17 1) fun v22 => optA (ldV false 1 v22 H21) fun v23 => optA (foldA min2A [l12.getD 0 .junk, v23]) fun v24 => optA (intA .gtr v24 (.d (.int .i64 0))) fun v25 => ifA v25 (optA (fieldA ti66 v17 0) fun v26 => optA (ldV false 1 v26 H21) fun v27 => stepK (bdA Try.prog ti66 [0, 1] [v27, v24] H21) H21 fun v28 H29 => newK H29 (fun n32 => bsA ti66 1 [0] [v28] H29 n32) fun v30 H31 => newK H31 (fun n35 => apA 2 16 (l12.getD 1 .junk) v30 H31 n35) fun v33 H34 => optA (fieldA ti66 v17 1) fun v36 => optA (ldV false 1 v36 H34) fun v37 => optA (fieldA ti66 v17 1) fun v38 => optA (ldV false 1 v38 H34) fun v39 => optA (foldA min2A [l12.getD 0 .junk, v39]) fun v40 => optA (intA .sub v37 v40) fun v41 => optA (intA .gtr v41 (.d (.int .i64 0))) fun v42 => ifA v42 (optA (fieldA ti66 v17 0) fun v43 => optA (ldV false 1 v43 H34) fun v44 => optA (fieldA ti66 v17 1) fun v45 => optA (ldV false 1 v45 H34) fun v46 => optA (intA .add v44 v46) fun v47 => optA (intA .sub v47 v41) fun v48 => stepK (bdA Try.prog ti66 [0, 1] [v48, v41] H34) H34 fun v49 H50 => newK H50 (fun n53 => bsA ti66 1 [0] [v49] H50 n53) fun v51 H52 => newK H52 (fun n56 => apA 2 16 (l12.getD 2 .junk) v51 H52 n56) fun v54 H55 => optA (fieldA ti66 v17 1) fun v57 => optA (ldV false 1 v57 H55) fun v58 => optA (foldA min2A [l12.getD 0 .junk, v58]) fun v59 => optA (intA .sub (l12.getD 0 .junk) v59) fun v60 => optA (intA .add (l12.getD 5 .junk) (.d (.int .i64 1))) fun v61 => X11 [v60, v33, v54, l12.getD 3 .junk, l12.getD 4 .junk, v61] H55) (optA (fieldA ti66 v17 1) fun v62 => optA (ldV false 1 v62 H34) fun v63 => optA (foldA min2A [l12.getD 0 .junk, v63]) fun v64 => optA (intA .sub (l12.getD 0 .junk) v64) fun v65 => optA (intA .add (l12.getD 5 .junk) (.d (.int .i64 1))) fun v66 => X11 [v65, v33, l12.getD 2 .junk, l12.getD 3 .junk, l12.getD 4 .junk, v66] H34)) (optA (fieldA ti66 v17 1) fun v67 => optA (ldV false 1 v67 H21) fun v68 => optA (fieldA ti66 v17 1) fun v69 => optA (ldV false 1 v69 H21) fun v70 => optA (foldA min2A [l12.getD 0 .junk, v70]) fun v71 => optA (intA .sub v68 v71) fun v72 => optA (intA .gtr v72 (.d (.int .i64 0))) fun v73 => ifA v73 (optA (fieldA ti66 v17 0) fun v74 => optA (ldV false 1 v74 H21) fun v75 => optA (fieldA ti66 v17 1) fun v76 => optA (ldV false 1 v76 H21) fun v77 => optA (intA .add v75 v77) fun v78 => optA (intA .sub v78 v72) fun v79 => stepK (bdA Try.prog ti66 [0, 1] [v79, v72] H21) H21 fun v80 H81 => newK H81 (fun n84 => bsA ti66 1 [0] [v80] H81 n84) fun v82 H83 => newK H83 (fun n87 => apA 2 16 (l12.getD 2 .junk) v82 H83 n87) fun v85 H86 => optA (fieldA ti66 v17 1) fun v88 => optA (ldV false 1 v88 H86) fun v89 => optA (foldA min2A [l12.getD 0 .junk, v89]) fun v90 => optA (intA .sub (l12.getD 0 .junk) v90) fun v91 => optA (intA .add (l12.getD 5 .junk) (.d (.int .i64 1))) fun v92 => X11 [v91, l12.getD 1 .junk, v85, l12.getD 3 .junk, l12.getD 4 .junk, v92] H86) (optA (fieldA ti66 v17 1) fun v93 => optA (ldV false 1 v93 H21) fun v94 => optA (foldA min2A [l12.getD 0 .junk, v94]) fun v95 => optA (intA .sub (l12.getD 0 .junk) v95) fun v96 => optA (intA .add (l12.getD 5 .junk) (.d (.int .i64 1))) fun v97 => X11 [v96, l12.getD 1 .junk, l12.getD 2 .junk, l12.getD 3 .junk, l12.getD 4 .junk, v97] H21))) (retF [l12.getD 1 .junk, l12.getD 2 .junk, .d (.int .i64 0)] H13 K)) [a1, .d (.sl true []), .d (.sl true []), a0, v10, .d (.int .i64 0)] H2)))
noncomputable def r41_0 : List Oper := regOps Try.f41 0
noncomputable def r41_1 : List Oper := regOps Try.f41 1
noncomputable def r41_2 : List Oper := regOps Try.f41 2
noncomputable def r41_3 : List Oper := regOps Try.f41 3
noncomputable def r41_4 : List Oper := regOps Try.f41 4
noncomputable def r41_5 : List Oper := regOps Try.f41 5
noncomputable def r41_6 : List Oper := regOps Try.f41 6
noncomputable def r41_7 : List Oper := regOps Try.f41 7
noncomputable def r41_8 : List Oper := regOps Try.f41 8
noncomputable def r41_9 : List Oper := regOps Try.f41 9
noncomputable def r41_10 : List Oper := regOps Try.f41 10
noncomputable def r41_11 : List Oper := regOps Try.f41 11
noncomputable def r41_12 : List Oper := regOps Try.f41 12
noncomputable def r41_13 : List Oper := regOps Try.f41 13
noncomputable def r41_14 : List Oper := regOps Try.f41 14
noncomputable def r41_15 : List Oper := regOps Try.f41 15
noncomputable def c41 : Code := (.seq (.region 0 #[opAt r41_0 0, opAt r41_0 1, opAt r41_0 2] false) (.seq (.region 1 #[opAt r41_1 0, opAt r41_1 1, opAt r41_1 2, opAt r41_1 3, opAt r41_1 4, opAt r41_1 5, opAt r41_1 6] false) (.seq (.seq (.region 2 #[opAt r41_2 0, opAt r41_2 1, opAt r41_2 2, opAt r41_2 3, opAt r41_2 4, opAt r41_2 5, opAt r41_2 6, opAt r41_2 7, opAt r41_2 8, opAt r41_2 9, opAt r41_2 10] false) (.cond (.tmp 28) (.seq (.region 3 #[opAt r41_3 0, opAt r41_3 1, opAt r41_3 2] false) .ret) .skip)) (.seq (.seq (.region 4 #[opAt r41_4 0, opAt r41_4 1, opAt r41_4 2] false) (.block 0 (.loop (.seq (.region 5 #[opAt r41_5 0] false) (.seq (.cond (.tmp 32) .skip (.exit 0)) (.seq (.block 1 (.seq (.region 6 #[opAt r41_6 0, opAt r41_6 1, opAt r41_6 2, opAt r41_6 3] false) (.seq (.seq (.region 7 #[opAt r41_7 0, opAt r41_7 1, opAt r41_7 2, opAt r41_7 3, opAt r41_7 4] false) (.seq (.region 8 #[opAt r41_8 0, opAt r41_8 1] false) (.cond (.tmp 40) (.region 9 #[opAt r41_9 0, opAt r41_9 1, opAt r41_9 2, opAt r41_9 3, opAt r41_9 4, opAt r41_9 5, opAt r41_9 6, opAt r41_9 7] false) .skip))) (.seq (.seq (.region 10 #[opAt r41_10 0, opAt r41_10 1, opAt r41_10 2, opAt r41_10 3, opAt r41_10 4, opAt r41_10 5, opAt r41_10 6, opAt r41_10 7] false) (.seq (.region 11 #[opAt r41_11 0, opAt r41_11 1] false) (.cond (.tmp 56) (.region 12 #[opAt r41_12 0, opAt r41_12 1, opAt r41_12 2, opAt r41_12 3, opAt r41_12 4, opAt r41_12 5, opAt r41_12 6, opAt r41_12 7, opAt r41_12 8, opAt r41_12 9, opAt r41_12 10, opAt r41_12 11, opAt r41_12 12] false) .skip))) (.region 13 #[opAt r41_13 0, opAt r41_13 1, opAt r41_13 2, opAt r41_13 3, opAt r41_13 4, opAt r41_13 5, opAt r41_13 6] false))))) (.region 14 #[opAt r41_14 0, opAt r41_14 1] false))))))) (.seq (.region 15 #[opAt r41_15 0, opAt r41_15 1, opAt r41_15 2, opAt r41_15 3, opAt r41_15 4] false) .ret)))))
theorem c41_eq : Try.f41.body = some c41 := by kernel_rfl
theorem S41_eq (γ : Calld) (a0 a1 : AV) (H : AHeap) (K : AV → AHeap → Prop) : execC Try.prog γ pol41 Try.f41 c41 [a0, a1] H K = S41 γ a0 a1 H K := by kernel_rfl
theorem C41 {a0 a1 : AV} {H : AHeap} {K : AV → AHeap → Prop} (h : S41 (CallsA Try.prog) a0 a1 H K) : CallsA Try.prog 41 [a0, a1] H K :=
  calls_of Try.func41 (ne_of_beq_false (by kernel_rfl)) c41_eq (by kernel_rfl) (by rw [S41_eq]; exact h)
/-! tithing/tithingref15.Cut -/
def pol42 : Pol := { lend := fun _ => true, keep := [0, 1, 7, 8, 9], frz := fun _ => [], perm := fun r => if r = 13 then [0, 1, 2, 3, 4, 5, 6, 7, 8, 9, 10, 11, 12, 13, 14, 15, 16, 17, 18] else [], bf := fun r => if r = 13 then [0, 0, 0, 6, 14, 30, 0, 126, 0, 0, 768, 1792, 3840, 0, 16128, 32766, 65534, 131071, 262143] else [], ret := true }
def S42 (γ : Calld) (a0 a1 : AV) (H : AHeap) (K : AV → AHeap → Prop) : Prop :=
  frzLK [a0] H fun l3 H4 => γ 59 l3 H4 fun v1 H2 => optA (unA .not v1) fun v5 => ifA v5 (retF [.d (.sl true []), .d (.sl true []), .d (.int .i64 2)] H2 K) (optA (intA .lss a1 (.d (.int .i64 0))) fun v6 => ifA v6 (retF [.d (.sl true []), .d (.sl true []), .d (.int .i64 2)] H2 K) (frzLK [a0] H2 fun l9 H10 => γ 56 l9 H10 fun v7 H8 => optA (lenSl v7) fun v11 => optA (intA .gtr a1 v11) fun v12 => ifA v12 (retF [.d (.sl true []), .d (.sl true []), .d (.int .i64 2)] H8 K) (loopA (fun X13 l14 H15 => optA (lenSl (l14.getD 0 .junk)) fun v16 => optA (intA .lss (l14.getD 4 .junk) v16) fun v17 => ifA v17 (optA (indexAddrA ti23 2 (l14.getD 0 .junk) (l14.getD 4 .junk)) fun v18 => optA (fieldA ti66 v18 1) fun v19 => optA (ldV false 1 v19 H15) fun v20 => optA (intA .gtr v20 (l14.getD 1 .junk)) fun v21 => ifA v21 (optA (intA .gtr (l14.getD 1 .junk) (.d (.int .i64 0))) fun v22 => ifA v22 (optA (indexAddrA ti23 2 (l14.getD 0 .junk) (l14.getD 4 .junk)) fun v23 => optA (fieldA ti66 v23 0) fun v24 => optA (ldV false 1 v24 H15) fun v25 => stepK (bdA Try.prog ti66 [0, 1] [v25, l14.getD 1 .junk] H15) H15 fun v26 H27 => newK H27 (fun n30 => bsA ti66 1 [0] [v26] H27 n30) fun v28 H29 => newK H29 (fun n33 => apA 2 16 (l14.getD 2 .junk) v28 H29 n33) fun v31 H32 => optA (indexAddrA ti23 2 (l14.getD 0 .junk) (l14.getD 4 .junk)) fun v34 => optA (fieldA ti66 v34 1) fun v35 => optA (ldV false 1 v35 H32) fun v36 => optA (intA .lss (l14.getD 1 .junk) v36) fun v37 => ifA v37 (drA true (optA (indexAddrA ti23 2 (l14.getD 0 .junk) (l14.getD 4 .junk)) fun v38 => optA (fieldA ti66 v38 0) fun v39 => optA (ldV false 1 v39 H32) fun v40 => optA (intA .add v40 (l14.getD 1 .junk)) fun v41 => optA (indexAddrA ti23 2 (l14.getD 0 .junk) (l14.getD 4 .junk)) fun v42 => optA (fieldA ti66 v42 1) fun v43 => optA (ldV false 1 v43 H32) fun v44 => optA (intA .sub v44 (l14.getD 1 .junk)) fun v45 => noRsA (aggL v41) (noRsA (aggL v45) (stepK (bdA Try.prog ti66 [0, 1] [v41, v45] H32) H32 fun v46 H47 => noRsA (aggL v46) (newK H47 (fun n50 => bsA ti66 1 [0] [v46] H47 n50) fun v48 H49 => newK H49 (fun n53 => apA 2 16 (l14.getD 3 .junk) v48 H49 n53) fun v51 H52 => optA (intA .sub (l14.getD 1 .junk) (l14.getD 1 .junk)) fun v54 => optA (intA .add (l14.getD 4 .junk) (.d (.int .i64 1))) fun v55 => X13 [l14.getD 0 .junk, v54, v31, v51, v55] H52))))) (optA (intA .sub (l14.getD 1 .junk) (l14.getD 1 .junk)) fun v56 => optA (intA .add (l14.getD 4 .junk) (.d (.int .i64 1))) fun v57 => X13 [l14.getD 0 .junk, v56, v31, l14.getD 3 .junk, v57] H32)) (optA (indexAddrA ti23 2 (l14.getD 0 .junk) (l14.getD 4 .junk)) fun v58 => optA (fieldA ti66 v58 1) fun v59 => optA (ldV false 1 v59 H15) fun v60 => optA (intA .lss (l14.getD 1 .junk) v60) fun v61 => ifA v61 (drA true (optA (indexAddrA ti23 2 (l14.getD 0 .junk) (l14.getD 4 .junk)) fun v62 => optA (fieldA ti66 v62 0) fun v63 => optA (ldV false 1 v63 H15) fun v64 => optA (intA .add v64 (l14.getD 1 .junk)) fun v65 => optA (indexAddrA ti23 2 (l14.getD 0 .junk) (l14.getD 4 .junk)) fun v66 => optA (fieldA ti66 v66 1) fun v67 => optA (ldV false 1 v67 H15) fun v68 => optA (intA .sub v68 (l14.getD 1 .junk)) fun v69 => noRsA (aggL v65) (noRsA (aggL v69) (stepK (bdA Try.prog ti66 [0, 1] [v65, v69] H15) H15 fun v70 H71 => noRsA (aggL v70) (newK H71 (fun n74 => bsA ti66 1 [0] [v70] H71 n74) fun v72 H73 => newK H73 (fun n77 => apA 2 16 (l14.getD 3 .junk) v72 H73 n77) fun v75 H76 => optA (intA .sub (l14.getD 1 .junk) (l14.getD 1 .junk)) fun v78 => optA (intA .add (l14.getD 4 .junk) (.d (.int .i64 1))) fun v79 => X13 [l14.getD 0 .junk, v78, l14.getD 2 .junk, v75, v79] H76))))) (optA (intA .sub (l14.getD 1 .junk) (l14.getD 1 .junk)) fun v80 => optA (intA .add (l14.getD 4 .junk) (.d (.int .i64 1))) fun v81 => X13 [l14.getD 0 .junk, v80, l14.getD 2 .junk, l14.getD 3 .junk, v81] H15))) (optA (intA .gtr v20 (.d (.int .i64 0))) fun v82 => ifA v82 (optA (indexAddrA ti23 2 (l14.getD 0 .junk) (l14.getD 4 .junk)) fun v83 => optA (fieldA ti66 v83 0) fun v84 => optA (ldV false 1 v84 H15) fun v85 => stepK (bdA Try.prog ti66 [0, 1] [v85, v20] H15) H15 fun v86 H87 => newK H87 (fun n90 => bsA ti66 1 [0] [v86] H87 n90) fun v88 H89 => newK H89 (fun n93 => apA 2 16 (l14.getD 2 .junk) v88 H89 n93) fun v91 H92 => optA (indexAddrA ti23 2 (l14.getD 0 .junk) (l14.getD 4 .junk)) fun v94 => optA (fieldA ti66 v94 1) fun v95 => optA (ldV false 1 v95 H92) fun v96 => optA (intA .lss v20 v96) fun v97 => ifA v97 (drA true (optA (indexAddrA ti23 2 (l14.getD 0 .junk) (l14.getD 4 .junk)) fun v98 => optA (fieldA ti66 v98 0) fun v99 => optA (ldV false 1 v99 H92) fun v100 => optA (intA .add v100 v20) fun v101 => optA (indexAddrA ti23 2 (l14.getD 0 .junk) (l14.getD 4 .junk)) fun v102 => optA (fieldA ti66 v102 1) fun v103 => optA (ldV false 1 v103 H92) fun v104 => optA (intA .sub v104 v20) fun v105 => noRsA (aggL v101) (noRsA (aggL v105) (stepK (bdA Try.prog ti66 [0, 1] [v101, v105] H92) H92 fun v106 H107 => noRsA (aggL v106) (newK H107 (fun n110 => bsA ti66 1 [0] [v106] H107 n110) fun v108 H109 => newK H109 (fun n113 => apA 2 16 (l14.getD 3 .junk) v108 H109 n113) fun v111 H112 => optA (intA .sub (l14.getD 1 .junk) v20) fun v114 => optA (intA .add (l14.getD 4 .junk) (.d (.int .i64 1))) fun v115 => X13 [l14.getD 0 .junk, v114, v91, v111, v115] H112))))) (optA (intA .sub (l14.getD 1 .junk) v20) fun v116 => optA (intA .add (l14.getD 4 .junk) (.d (.int .i64 1))) fun v117 => X13 [l14.getD 0 .junk, v116, v91, l14.getD 3 .junk, v117] H92)) (optA (indexAddrA ti23 2 (l14.getD 0 .junk) (l14.getD 4 .junk)) fun v118 => optA (fieldA ti66 v118 1) fun v119 => optA (ldV false 1 v119 H15) fun v120 => optA (intA .lss v20 v120) fun v121 => ifA v121 (drA true (optA (indexAddrA ti23 2 (l14.getD 0 .junk) (l14.getD 4 .junk)) fun v122 => optA (fieldA ti66 v122 0) fun v123 => optA (ldV false 1 v123 H15) fun v124 => optA (intA .add v124 v20) fun v125 => optA (indexAddrA ti23 2 (l14.getD 0 .junk) (l14.getD 4 .junk)) fun v126 => optA (fieldA ti66 v126 1) fun v127 => optA (ldV false 1 v127 H15) fun v128 => optA (intA .sub v128 v20) fun v129 => noRsA (aggL v125) (noRsA (aggL v129) (stepK (bdA Try.prog ti66 [0, 1] [v125, v129] H15) H15 fun v130 H131 => noRsA (aggL v130) (newK H131 (fun n134 => bsA ti66 1 [0] [v130] H131 n134) fun v132 H133 => newK H133 (fun n137 => apA 2 16 (l14.getD 3 .junk) v132 H133 n137) fun v135 H136 => optA (intA .sub (l14.getD 1 .junk) v20) fun v138 => optA (intA .add (l14.getD 4 .junk) (.d (.int .i64 1))) fun v139 => X13 [l14.getD 0 .junk, v138, l14.getD 2 .junk, v135, v139] H136))))) (optA (intA .sub (l14.getD 1 .junk) v20) fun v140 => optA (intA .add (l14.getD 4 .junk) (.d (.int .i64 1))) fun v141 => X13 [l14.getD 0 .junk, v140, l14.getD 2 .junk, l14.getD 3 .junk, v141] H15)))) (retF [l14.getD 2 .junk, l14.getD 3 .junk, .d (.int .i64 0)] H15 K)) [a0, a1, .d (.sl true []), .d (.sl true []), .d (.int .i64 0)] H8)))
noncomputable def r42_0 : List Oper := regOps Try.f42 0
noncomputable def r42_1 : List Oper := regOps Try.f42 1
noncomputable def r42_2 : List Oper := regOps Try.f42 2
noncomputable def r42_3 : List Oper := regOps Try.f42 3
noncomputable def r42_4 : List Oper := regOps Try.f42 4
noncomputable def r42_5 : List Oper := regOps Try.f42 5
noncomputable def r42_6 : List Oper := regOps Try.f42 6
noncomputable def r42_7 : List Oper := regOps Try.f42 7
noncomputable def r42_8 : List Oper := regOps Try.f42 8
noncomputable def r42_9 : List Oper := regOps Try.f42 9
noncomputable def r42_10 : List Oper := regOps Try.f42 10
noncomputable def r42_11 : List Oper := regOps Try.f42 11
noncomputable def r42_12 : List Oper := regOps Try.f42 12
noncomputable def r42_13 : List Oper := regOps Try.f42 13
noncomputable def r42_14 : List Oper := regOps Try.f42 14
noncomputable def r42_15 : List Oper := regOps Try.f42 15
noncomputable def c42 : Code := (.seq (.region 0 #[opAt r42_0 0, opAt r42_0 1, opAt r42_0 2] false) (.seq (.seq (.region 1 #[opAt r42_1 0, opAt r42_1 1, opAt r42_1 2, opAt r42_1 3, opAt r42_1 4, opAt r42_1 5, opAt r42_1 6, opAt r42_1 7, opAt r42_1 8, opAt r42_1 9, opAt r42_1 10, opAt r42_1 11, opAt r42_1 12, opAt r42_1 13] false) (.cond (.tmp 24) (.seq (.region 2 #[opAt r42_2 0, opAt r42_2 1, opAt r42_2 2] false) .ret) .skip)) (.seq (.region 3 #[opAt r42_3 0, opAt r42_3 1] false) (.seq (.seq (.region 4 #[opAt r42_4 0] false) (.block 0 (.loop (.seq (.seq (.region 5 #[opAt r42_5 0, opAt r42_5 1, opAt r42_5 2, opAt r42_5 3] false) (.cond (.tmp 28) .skip (.exit 0))) (.seq (.block 1 (.seq (.region 7 #[opAt r42_6 0, opAt r42_6 1, opAt r42_6 2, opAt r42_6 3, opAt r42_6 4, opAt r42_6 5] false) (.seq (.seq (.region 8 #[opAt r42_7 0, opAt r42_7 1, opAt r42_7 2] false) (.cond (.tmp 38) (.region 9 #[opAt r42_8 0, opAt r42_8 1] false) .skip)) (.seq (.seq (.region 10 #[opAt r42_9 0, opAt r42_9 1] false) (.cond (.tmp 41) (.region 11 #[opAt r42_10 0, opAt r42_10 1, opAt r42_10 2, opAt r42_10 3, opAt r42_10 4, opAt r42_10 5, opAt r42_10 6, opAt r42_10 7, opAt r42_10 8, opAt r42_10 9, opAt r42_10 10] false) .skip)) (.seq (.seq (.region 12 #[opAt r42_11 0, opAt r42_11 1, opAt r42_11 2, opAt r42_11 3, opAt r42_11 4, opAt r42_11 5, opAt r42_11 6] false) (.cond (.tmp 58) (.region 13 #[opAt r42_12 0, opAt r42_12 1, opAt r42_12 2, opAt r42_12 3, opAt r42_12 4, opAt r42_12 5, opAt r42_12 6, opAt r42_12 7, opAt r42_12 8, opAt r42_12 9, opAt r42_12 10, opAt r42_12 11, opAt r42_12 12, opAt r42_12 13, opAt r42_12 14, opAt r42_12 15, opAt r42_12 16, opAt r42_12 17, opAt r42_12 18] true) .skip)) (.region 14 #[opAt r42_13 0, opAt r42_13 1, opAt r42_13 2, opAt r42_13 3] false)))))) (.region 6 #[opAt r42_14 0, opAt r42_14 1, opAt r42_14 2] false)))))) (.seq (.region 15 #[opAt r42_15 0, opAt r42_15 1, opAt r42_15 2, opAt r42_15 3, opAt r42_15 4] false) .ret)))))
theorem c42_eq : Try.f42.body = some c42 := by kernel_rfl
theorem S42_eq (γ : Calld) (a0 a1 : AV) (H : AHeap) (K : AV → AHeap → Prop) : execC Try.prog γ pol42 Try.f42 c42 [a0, a1] H K = S42 γ a0 a1 H K := by kernel_rfl
theorem C42 {a0 a1 : AV} {H : AHeap} {K : AV → AHeap → Prop} (h : S42 (CallsA Try.prog) a0 a1 H K) : CallsA Try.prog 42 [a0, a1] H K :=
  calls_of Try.func42 (ne_of_beq_false (by kernel_rfl)) c42_eq (by kernel_rfl) (by rw [S42_eq]; exact h)
/-! tithing/extent.Join -/
def pol43 : Pol := { lend := fun _ => true, keep := [], frz := fun _ => [], perm := fun r => [], bf := fun r => [], ret := true }
def S43 (γ : Calld) (a0 a1 : AV) (H : AHeap) (K : AV → AHeap → Prop) : Prop :=
  newK H (fun n3 => bsA ti23 2 [0, 1] [a0, a1] H n3) fun v1 H2 => frzLK [v1] H2 fun l6 H7 => γ 60 l6 H7 fun v4 H5 => frzLK [.d (.int .i64 300), v4] H5 fun l10 H11 => γ 34 l10 H11 fun v8 H9 => optA (unA .not v8) fun v12 => ifA v12 (retF [.d (.sl true []), .d (.int .i64 2)] H9 K) (frzLK [a0, a1] H9 fun l15 H16 => γ 57 l15 H16 fun v13 H14 => retF [v13, .d (.int .i64 0)] H14 K)
noncomputable def r43_0 : List Oper := regOps Try.f43 0
noncomputable def r43_1 : List Oper := regOps Try.f43 1
noncomputable def r43_2 : List Oper := regOps Try.f43 2
noncomputable def r43_3 : List Oper := regOps Try.f43 3
noncomputable def c43 : Code := (.seq (.region 0 #[opAt r43_0 0, opAt r43_0 1] false) (.seq (.seq (.region 1 #[opAt r43_1 0, opAt r43_1 1, opAt r43_1 2, opAt r43_1 3, opAt r43_1 4, opAt r43_1 5] false) (.cond (.tmp 11) (.seq (.region 2 #[opAt r43_2 0, opAt r43_2 1] false) .ret) .skip)) (.seq (.region 3 #[opAt r43_3 0, opAt r43_3 1, opAt r43_3 2, opAt r43_3 3, opAt r43_3 4] false) .ret)))
theorem c43_eq : Try.f43.body = some c43 := by kernel_rfl
theorem S43_eq (γ : Calld) (a0 a1 : AV) (H : AHeap) (K : AV → AHeap → Prop) : execC Try.prog γ pol43 Try.f43 c43 [a0, a1] H K = S43 γ a0 a1 H K := by kernel_rfl
theorem C43 {a0 a1 : AV} {H : AHeap} {K : AV → AHeap → Prop} (h : S43 (CallsA Try.prog) a0 a1 H K) : CallsA Try.prog 43 [a0, a1] H K :=
  calls_of Try.func43 (ne_of_beq_false (by kernel_rfl)) c43_eq (by kernel_rfl) (by rw [S43_eq]; exact h)
/-! tithing/tithingref15.Join -/
def pol44 : Pol := { lend := fun _ => true, keep := [1, 6, 7], frz := fun _ => [], perm := fun r => if r = 8 then [0, 1, 2, 3, 4, 5, 6, 7, 8, 9, 10, 11, 12, 13, 14, 15, 16, 17, 18, 19, 20, 21, 22, 23] else if r = 9 then [0, 1, 2, 3, 4, 5, 6, 7, 8, 9, 10, 11, 12] else [], bf := fun r => if r = 8 then [0, 1, 3, 7, 15, 31, 63, 127, 127, 511, 1023, 2047, 127, 127, 12415, 28799, 61567, 131071, 127, 262271, 786559, 1835135, 4194303, 8388607] else if r = 9 then [0, 0, 3, 7, 15, 0, 32, 96, 224, 511, 1023, 2047, 4095] else [], ret := true }
def S44 (γ : Calld) (a0 a1 : AV) (H : AHeap) (K : AV → AHeap → Prop) : Prop :=
  frzLK [a0] H fun l3 H4 => γ 59 l3 H4 fun v1 H2 => optA (unA .not v1) fun v5 => ifA v5 (retF [.d (.sl true []), .d (.int .i64 2)] H2 K) (frzLK [a1] H2 fun l8 H9 => γ 59 l8 H9 fun v6 H7 => optA (unA .not v6) fun v10 => ifA v10 (retF [.d (.sl true []), .d (.int .i64 2)] H7 K) (newK H7 (fun n13 => bsA ti66 0 [] [] H7 n13) fun v11 H12 => newK H12 (fun n16 => apA 2 16 v11 a0 H12 n16) fun v14 H15 => newK H15 (fun n19 => apA 2 16 v14 a1 H15 n19) fun v17 H18 => frzLK [v17] H18 fun l22 H23 => γ 59 l22 H23 fun v20 H21 => optA (unA .not v20) fun v24 => ifA v24 (retF [.d (.sl true []), .d (.int .i64 2)] H21 K) (newK H21 (fun n27 => bsA ti66 0 [] [] H21 n27) fun v25 H26 => newK H26 (fun n30 => apA 2 16 v25 a0 H26 n30) fun v28 H29 => loopA (fun X31 l32 H33 => optA (lenSl (l32.getD 0 .junk)) fun v34 => optA (intA .lss (l32.getD 2 .junk) v34) fun v35 => ifA v35 (optA (lenSl (l32.getD 1 .junk)) fun v36 => optA (intA .sub v36 (.d (.int .i64 1))) fun v37 => drA true (optA (intA .eql (l32.getD 2 .junk) (.d (.int .i64 0))) fun v38 => ifA v38 (optA (intA .geq v37 (.d (.int .i64 0))) fun v39 => ifA v39 (optA (indexAddrA ti23 2 (l32.getD 1 .junk) v37) fun v40 => optA (fieldA ti66 v40 0) fun v41 => optA (ldV false 1 v41 H33) fun v42 => optA (indexAddrA ti23 2 (l32.getD 1 .junk) v37) fun v43 => optA (fieldA ti66 v43 1) fun v44 => optA (ldV false 1 v44 H33) fun v45 => optA (intA .add v42 v45) fun v46 => optA (indexAddrA ti23 2 (l32.getD 0 .junk) (.d (.int .i64 0))) fun v47 => optA (fieldA ti66 v47 0) fun v48 => optA (ldV false 1 v48 H33) fun v49 => optA (intA .eql v46 v49) fun v50 => ifA v50 (drA true (optA (indexAddrA ti23 2 (l32.getD 1 .junk) v37) fun v51 => optA (fieldA ti66 v51 1) fun v52 => optA (ldV false 1 v52 H33) fun v53 => optA (indexAddrA ti23 2 (l32.getD 0 .junk) (.d (.int .i64 0))) fun v54 => optA (fieldA ti66 v54 1) fun v55 => optA (ldV false 1 v55 H33) fun v56 => optA (intA .add v53 v56) fun v57 => optA (indexAddrA ti23 2 (l32.getD 1 .junk) v37) fun v58 => optA (fieldA ti66 v58 1) fun v59 => noRsA (aggL v57) (stepK (stoA false 1 v59 v57 H33) H33 fun v60 H61 => optA (intA .add (l32.getD 2 .junk) (.d (.int .i64 1))) fun v62 => X31 [l32.getD 0 .junk, l32.getD 1 .junk, v62] H61))) (optA (indexAddrA ti23 2 (l32.getD 0 .junk) (l32.getD 2 .junk)) fun v63 => optA (ldV true 2 v63 H33) fun v64 => newK H33 (fun n67 => bsA ti66 1 [0] [v64] H33 n67) fun v65 H66 => newK H66 (fun n70 => apA 2 16 (l32.getD 1 .junk) v65 H66 n70) fun v68 H69 => optA (intA .add (l32.getD 2 .junk) (.d (.int .i64 1))) fun v71 => X31 [l32.getD 0 .junk, v68, v71] H69)) (optA (indexAddrA ti23 2 (l32.getD 0 .junk) (l32.getD 2 .junk)) fun v72 => optA (ldV true 2 v72 H33) fun v73 => newK H33 (fun n76 => bsA ti66 1 [0] [v73] H33 n76) fun v74 H75 => newK H75 (fun n79 => apA 2 16 (l32.getD 1 .junk) v74 H75 n79) fun v77 H78 => optA (intA .add (l32.getD 2 .junk) (.d (.int .i64 1))) fun v80 => X31 [l32.getD 0 .junk, v77, v80] H78)) (optA (indexAddrA ti23 2 (l32.getD 0 .junk) (l32.getD 2 .junk)) fun v81 => optA (ldV true 2 v81 H33) fun v82 => newK H33 (fun n85 => bsA ti66 1 [0] [v82] H33 n85) fun v83 H84 => newK H84 (fun n88 => apA 2 16 (l32.getD 1 .junk) v83 H84 n88) fun v86 H87 => optA (intA .add (l32.getD 2 .junk) (.d (.int .i64 1))) fun v89 => X31 [l32.getD 0 .junk, v86, v89] H87))) (retF [l32.getD 1 .junk, .d (.int .i64 0)] H33 K)) [a1, v28, .d (.int .i64 0)] H29)))
noncomputable def r44_0 : List Oper := regOps Try.f44 0
noncomputable def r44_1 : List Oper := regOps Try.f44 1
noncomputable def r44_2 : List Oper := regOps Try.f44 2
noncomputable def r44_3 : List Oper := regOps Try.f44 3
noncomputable def r44_4 : List Oper := regOps Try.f44 4
noncomputable def r44_5 : List Oper := regOps Try.f44 5
noncomputable def r44_6 : List Oper := regOps Try.f44 6
noncomputable def r44_7 : List Oper := regOps Try.f44 7
noncomputable def r44_8 : List Oper := regOps Try.f44 8
noncomputable def r44_9 : List Oper := regOps Try.f44 9
noncomputable def r44_10 : List Oper := regOps Try.f44 10
noncomputable def r44_11 : List Oper := regOps Try.f44 11
noncomputable def c44 : Code := (.seq (.region 0 #[opAt r44_0 0, opAt r44_0 1] false) (.seq (.seq (.region 1 #[opAt r44_1 0, opAt r44_1 1, opAt r44_1 2, opAt r44_1 3, opAt r44_1 4, opAt r44_1 5, opAt r44_1 6, opAt r44_1 7, opAt r44_1 8, opAt r44_1 9, opAt r44_1 10, opAt r44_1 11, opAt r44_1 12, opAt r44_1 13, opAt r44_1 14, opAt r44_1 15, opAt r44_1 16] false) (.cond (.tmp 25) (.seq (.region 2 #[opAt r44_2 0, opAt r44_2 1] false) .ret) .skip)) (.seq (.region 3 #[opAt r44_3 0, opAt r44_3 1, opAt r44_3 2, opAt r44_3 3] false) (.seq (.seq (.region 4 #[opAt r44_4 0] false) (.block 0 (.loop (.seq (.seq (.region 5 #[opAt r44_5 0, opAt r44_5 1, opAt r44_5 2, opAt r44_5 3] false) (.cond (.tmp 32) .skip (.exit 0))) (.seq (.block 1 (.seq (.region 7 #[opAt r44_6 0, opAt r44_6 1, opAt r44_6 2, opAt r44_6 3] false) (.seq (.region 8 #[opAt r44_7 0, opAt r44_7 1, opAt r44_7 2, opAt r44_7 3, opAt r44_7 4, opAt r44_7 5, opAt r44_7 6, opAt r44_7 7, opAt r44_7 8, opAt r44_7 9, opAt r44_7 10, opAt r44_7 11, opAt r44_7 12, opAt r44_7 13, opAt r44_7 14, opAt r44_7 15, opAt r44_7 16, opAt r44_7 17, opAt r44_7 18, opAt r44_7 19, opAt r44_7 20, opAt r44_7 21, opAt r44_7 22, opAt r44_7 23] true) (.cond (.tmp 61) (.region 9 #[opAt r44_8 0, opAt r44_8 1, opAt r44_8 2, opAt r44_8 3, opAt r44_8 4, opAt r44_8 5, opAt r44_8 6, opAt r44_8 7, opAt r44_8 8, opAt r44_8 9, opAt r44_8 10, opAt r44_8 11, opAt r44_8 12] true) (.region 10 #[opAt r44_9 0, opAt r44_9 1, opAt r44_9 2, opAt r44_9 3, opAt r44_9 4, opAt r44_9 5, opAt r44_9 6, opAt r44_9 7] false))))) (.region 6 #[opAt r44_10 0, opAt r44_10 1, opAt r44_10 2] false)))))) (.seq (.region 11 #[opAt r44_11 0, opAt r44_11 1, opAt r44_11 2] false) .ret)))))
theorem c44_eq : Try.f44.body = some c44 := by kernel_rfl
theorem S44_eq (γ : Calld) (a0 a1 : AV) (H : AHeap) (K : AV → AHeap → Prop) : execC Try.prog γ pol44 Try.f44 c44 [a0, a1] H K = S44 γ a0 a1 H K := by kernel_rfl
theorem C44 {a0 a1 : AV} {H : AHeap} {K : AV → AHeap → Prop} (h : S44 (CallsA Try.prog) a0 a1 H K) : CallsA Try.prog 44 [a0, a1] H K :=
  calls_of Try.func44 (ne_of_beq_false (by kernel_rfl)) c44_eq (by kernel_rfl) (by rw [S44_eq]; exact h)
/-! tithing/extent.isMap -/
def pol45 : Pol := { lend := fun _ => true, keep := [], frz := fun _ => [], perm := fun r => [], bf := fun r => [], ret := true }
def S45 (γ : Calld) (a0 a1 : AV) (H : AHeap) (K : AV → AHeap → Prop) : Prop :=
  optA (lenSl a0) fun v1 => optA (intA .leq v1 (.d (.int .i64 300))) fun v2 => ifA v2 (optA (lenSl a0) fun v3 => frzLK [v3, a1] H fun l6 H7 => γ 34 l6 H7 fun v4 H5 => retF [v4] H5 K) (retF [.d (.bool false)] H K)
noncomputable def r45_0 : List Oper := regOps Try.f45 0
noncomputable def r45_1 : List Oper := regOps Try.f45 1
noncomputable def c45 : Code := (.seq (.region 0 #[opAt r45_0 0] false) (.seq (.region 1 #[opAt r45_1 0, opAt r45_1 1, opAt r45_1 2, opAt r45_1 3, opAt r45_1 4, opAt r45_1 5, opAt r45_1 6, opAt r45_1 7, opAt r45_1 8, opAt r45_1 9] false) .ret))
theorem c45_eq : Try.f45.body = some c45 := by kernel_rfl
theorem S45_eq (γ : Calld) (a0 a1 : AV) (H : AHeap) (K : AV → AHeap → Prop) : execC Try.prog γ pol45 Try.f45 c45 [a0, a1] H K = S45 γ a0 a1 H K := by kernel_rfl
theorem C45 {a0 a1 : AV} {H : AHeap} {K : AV → AHeap → Prop} (h : S45 (CallsA Try.prog) a0 a1 H K) : CallsA Try.prog 45 [a0, a1] H K :=
  calls_of Try.func45 (ne_of_beq_false (by kernel_rfl)) c45_eq (by kernel_rfl) (by rw [S45_eq]; exact h)
/-! tithing/extent.count -/
def pol46 : Pol := { lend := fun _ => true, keep := [3, 6, 7, 8], frz := fun _ => [], perm := fun r => [], bf := fun r => [], ret := true }
def S46 (γ : Calld) (a0 : AV) (H : AHeap) (K : AV → AHeap → Prop) : Prop :=
  optA (lenSl a0) fun v1 => loopA (fun X2 l3 H4 => optA (intA .lss (l3.getD 3 .junk) (l3.getD 2 .junk)) fun v5 => ifA v5 (optA (indexAddrA ti22 1 (l3.getD 1 .junk) (l3.getD 3 .junk)) fun v6 => optA (ldV false 1 v6 H4) fun v7 => optA (unA .not v7) fun v8 => ifA v8 (optA (intA .add (l3.getD 0 .junk) (.d (.int .i64 1))) fun v9 => optA (intA .add (l3.getD 3 .junk) (.d (.int .i64 1))) fun v10 => X2 [v9, l3.getD 1 .junk, l3.getD 2 .junk, v10] H4) (optA (intA .add (l3.getD 3 .junk) (.d (.int .i64 1))) fun v11 => X2 [l3.getD 0 .junk, l3.getD 1 .junk, l3.getD 2 .junk, v11] H4)) (retF [l3.getD 0 .junk] H4 K)) [.d (.int .i64 0), a0, v1, .d (.int .i64 0)] H
noncomputable def r46_0 : List Oper := regOps Try.f46 0
noncomputable def r46_1 : List Oper := regOps Try.f46 1
noncomputable def r46_2 : List Oper := regOps Try.f46 2
noncomputable def r46_3 : List Oper := regOps Try.f46 3
noncomputable def r46_4 : List Oper := regOps Try.f46 4
noncomputable def r46_5 : List Oper := regOps Try.f46 5
noncomputable def r46_6 : List Oper := regOps Try.f46 6
noncomputable def r46_7 : List Oper := regOps Try.f46 7
noncomputable def r46_8 : List Oper := regOps Try.f46 8
noncomputable def c46 : Code := (.seq (.region 0 #[opAt r46_0 0] false) (.seq (.region 1 #[opAt r46_1 0] false) (.seq (.seq (.region 2 #[opAt r46_2 0, opAt r46_2 1, opAt r46_2 2] false) (.block 0 (.loop (.seq (.region 3 #[opAt r46_3 0] false) (.seq (.cond (.tmp 9) .skip (.exit 0)) (.seq (.block 1 (.seq (.region 4 #[opAt r46_4 0, opAt r46_4 1, opAt r46_4 2] false) (.seq (.region 5 #[opAt r46_5 0, opAt r46_5 1] false) (.cond (.tmp 13) (.region 6 #[opAt r46_6 0, opAt r46_6 1, opAt r46_6 2] false) .skip)))) (.region 7 #[opAt r46_7 0, opAt r46_7 1] false))))))) (.seq (.region 8 #[opAt r46_8 0, opAt r46_8 1] false) .ret))))
theorem c46_eq : Try.f46.body = some c46 := by kernel_rfl
theorem S46_eq (γ : Calld) (a0 : AV) (H : AHeap) (K : AV → AHeap → Prop) : execC Try.prog γ pol46 Try.f46 c46 [a0] H K = S46 γ a0 H K := by kernel_rfl
theorem C46 {a0 : AV} {H : AHeap} {K : AV → AHeap → Prop} (h : S46 (CallsA Try.prog) a0 H K) : CallsA Try.prog 46 [a0] H K :=
  calls_of Try.func46 (ne_of_beq_false (by kernel_rfl)) c46_eq (by kernel_rfl) (by rw [S46_eq]; exact h)
/-! tithing/extent.allot -/
def pol47 : Pol := { lend := fun _ => true, keep := [3, 5, 9, 25, 26, 27, 37, 38], frz := fun _ => [], perm := fun r => [], bf := fun r => [], ret := true }
def S47 (γ : Calld) (a0 a1 : AV) (H : AHeap) (K : AV → AHeap → Prop) : Prop :=
  newK H (fun n3 => boxA a1 n3) fun v1 H2 => optA (ldV false 1 v1 H2) fun v4 => optA (intA .eql v4 (.d (.int .i64 0))) fun v5 => ifA v5 (retF [.d (.sl true [])] H2 K) (frzLK [a0] H2 fun l8 H9 => γ 61 l8 H9 fun v6 H7 => frzLK [v6, .func 63 [] [v1]] H7 fun l12 H13 => γ 62 l12 H13 fun v10 H11 => optA (intA .geq v10 (.d (.int .i64 0))) fun v14 => ifA v14 (optA (intA .add v10 (.d (.int .i64 1))) fun v15 => optA (sliceA 2 v6 (some v10) (some v15) none H11) fun v16 => optA (lenSl v16) fun v17 => loopA (fun X18 l19 H20 => optA (intA .lss (l19.getD 5 .junk) (l19.getD 4 .junk)) fun v21 => ifA v21 (optA (indexAddrA ti23 2 (l19.getD 3 .junk) (l19.getD 5 .junk)) fun v22 => optA (ldV true 2 v22 H20) fun v23 => newK H20 (fun n26 => some (.ptr n26 0 0 0, [(n26, .mem 0 0 2 [[.d (.int .i64 0), .d (.int .i64 0)]])])) fun v24 H25 => stepK (stoA true 2 v24 v23 H25) H25 fun v27 H28 => optA (fieldA ti66 v24 1) fun v29 => optA (ldV false 1 v29 H28) fun v30 => optA (ldV false 1 (l19.getD 0 .junk) H28) fun v31 => optA (lenSl (l19.getD 1 .junk)) fun v32 => optA (intA .sub v31 v32) fun v33 => optA (foldA min2A [v30, v33]) fun v34 => loopA (fun X35 l36 H37 => optA (intA .lss (l36.getD 7 .junk) (l36.getD 6 .junk)) fun v38 => ifA v38 (optA (fieldA ti66 (l36.getD 2 .junk) 0) fun v39 => optA (ldV false 1 v39 H37) fun v40 => optA (intA .add v40 (l36.getD 7 .junk)) fun v41 => newK H37 (fun n44 => bsA ti3 1 [0] [v41] H37 n44) fun v42 H43 => newK H43 (fun n47 => apA 1 8 (l36.getD 1 .junk) v42 H43 n47) fun v45 H46 => optA (intA .add (l36.getD 7 .junk) (.d (.int .i64 1))) fun v48 => X35 [l36.getD 0 .junk, v45, l36.getD 2 .junk, l36.getD 3 .junk, l36.getD 4 .junk, l36.getD 5 .junk, l36.getD 6 .junk, v48] H46) (optA (intA .add (l36.getD 5 .junk) (.d (.int .i64 1))) fun v49 => X18 [l36.getD 0 .junk, l36.getD 1 .junk, l36.getD 2 .junk, l36.getD 3 .junk, l36.getD 4 .junk, v49, l36.getD 6 .junk, l36.getD 7 .junk] H37)) [l19.getD 0 .junk, l19.getD 1 .junk, v24, l19.getD 3 .junk, l19.getD 4 .junk, l19.getD 5 .junk, v34, .d (.int .i64 0)] H28) (retF [l19.getD 1 .junk] H20 K)) [v1, .d (.sl true []), .junk, v16, v17, .d (.int .i64 0), .junk, .junk] H11) (optA (lenSl v6) fun v50 => loopA (fun X51 l52 H53 => optA (intA .lss (l52.getD 5 .junk) (l52.getD 4 .junk)) fun v54 => ifA v54 (optA (indexAddrA ti23 2 (l52.getD 3 .junk) (l52.getD 5 .junk)) fun v55 => optA (ldV true 2 v55 H53) fun v56 => newK H53 (fun n59 => some (.ptr n59 0 0 0, [(n59, .mem 0 0 2 [[.d (.int .i64 0), .d (.int .i64 0)]])])) fun v57 H58 => stepK (stoA true 2 v57 v56 H58) H58 fun v60 H61 => optA (fieldA ti66 v57 1) fun v62 => optA (ldV false 1 v62 H61) fun v63 => optA (ldV false 1 (l52.getD 0 .junk) H61) fun v64 => optA (lenSl (l52.getD 1 .junk)) fun v65 => optA (intA .sub v64 v65) fun v66 => optA (foldA min2A [v63, v66]) fun v67 => loopA (fun X68 l69 H70 => optA (intA .lss (l69.getD 7 .junk) (l69.getD 6 .junk)) fun v71 => ifA v71 (optA (fieldA ti66 (l69.getD 2 .junk) 0) fun v72 => optA (ldV false 1 v72 H70) fun v73 => optA (intA .add v73 (l69.getD 7 .junk)) fun v74 => newK H70 (fun n77 => bsA ti3 1 [0] [v74] H70 n77) fun v75 H76 => newK H76 (fun n80 => apA 1 8 (l69.getD 1 .junk) v75 H76 n80) fun v78 H79 => optA (intA .add (l69.getD 7 .junk) (.d (.int .i64 1))) fun v81 => X68 [l69.getD 0 .junk, v78, l69.getD 2 .junk, l69.getD 3 .junk, l69.getD 4 .junk, l69.getD 5 .junk, l69.getD 6 .junk, v81] H79) (optA (intA .add (l69.getD 5 .junk) (.d (.int .i64 1))) fun v82 => X51 [l69.getD 0 .junk, l69.getD 1 .junk, l69.getD 2 .junk, l69.getD 3 .junk, l69.getD 4 .junk, v82, l69.getD 6 .junk, l69.getD 7 .junk] H70)) [l52.getD 0 .junk, l52.getD 1 .junk, v57, l52.getD 3 .junk, l52.getD 4 .junk, l52.getD 5 .junk, v67, .d (.int .i64 0)] H61) (retF [l52.getD 1 .junk] H53 K)) [v1, .d (.sl true []), .junk, v6, v50, .d (.int .i64 0), .junk, .junk] H11))
noncomputable def r47_0 : List Oper := regOps Try.f47 0
noncomputable def r47_1 : List Oper := regOps Try.f47 1
noncomputable def r47_2 : List Oper := regOps Try.f47 2
noncomputable def r47_3 : List Oper := regOps Try.f47 3
noncomputable def r47_4 : List Oper := regOps Try.f47 4
noncomputable def r47_5 : List Oper := regOps Try.f47 5
noncomputable def r47_6 : List Oper := regOps Try.f47 6
noncomputable def r47_7 : List Oper := regOps Try.f47 7
noncomputable def r47_8 : List Oper := regOps Try.f47 8
noncomputable def r47_9 : List Oper := regOps Try.f47 9
noncomputable def r47_10 : List Oper := regOps Try.f47 10
noncomputable def r47_11 : List Oper := regOps Try.f47 11
noncomputable def r47_12 : List Oper := regOps Try.f47 12
noncomputable def r47_13 : List Oper := regOps Try.f47 13
noncomputable def r47_14 : List Oper := regOps Try.f47 14
noncomputable def r47_15 : List Oper := regOps Try.f47 15
noncomputable def r47_16 : List Oper := regOps Try.f47 16
noncomputable def r47_17 : List Oper := regOps Try.f47 17
noncomputable def c47 : Code := (.seq (.region 0 #[opAt r47_0 0, opAt r47_0 1] false) (.seq (.region 1 #[opAt r47_1 0] false) (.seq (.seq (.region 2 #[opAt r47_2 0, opAt r47_2 1] false) (.cond (.tmp 12) (.seq (.region 3 #[opAt r47_3 0] false) .ret) .skip)) (.seq (.region 4 #[opAt r47_4 0, opAt r47_4 1, opAt r47_4 2] false) (.seq (.seq (.region 5 #[opAt r47_5 0, opAt r47_5 1, opAt r47_5 2, opAt r47_5 3] false) (.seq (.region 6 #[opAt r47_6 0, opAt r47_6 1] false) (.cond (.tmp 19) (.region 7 #[opAt r47_7 0, opAt r47_7 1, opAt r47_7 2, opAt r47_7 3, opAt r47_7 4, opAt r47_7 5] false) .skip))) (.seq (.seq (.region 8 #[opAt r47_8 0, opAt r47_8 1, opAt r47_8 2] false) (.block 0 (.loop (.seq (.region 9 #[opAt r47_9 0] false) (.seq (.cond (.tmp 28) .skip (.exit 0)) (.seq (.block 1 (.seq (.region 10 #[opAt r47_10 0, opAt r47_10 1, opAt r47_10 2, opAt r47_10 3] false) (.seq (.region 11 #[opAt r47_11 0, opAt r47_11 1, opAt r47_11 2, opAt r47_11 3, opAt r47_11 4, opAt r47_11 5, opAt r47_11 6, opAt r47_11 7] false) (.block 2 (.loop (.seq (.region 12 #[opAt r47_12 0] false) (.seq (.cond (.tmp 39) .skip (.exit 2)) (.seq (.block 3 (.seq (.region 13 #[opAt r47_13 0, opAt r47_13 1] false) (.region 14 #[opAt r47_14 0, opAt r47_14 1, opAt r47_14 2, opAt r47_14 3, opAt r47_14 4, opAt r47_14 5, opAt r47_14 6, opAt r47_14 7] false))) (.region 15 #[opAt r47_15 0, opAt r47_15 1] false))))))))) (.region 16 #[opAt r47_16 0, opAt r47_16 1] false))))))) (.seq (.region 17 #[opAt r47_17 0, opAt r47_17 1] false) .ret)))))))
theorem c47_eq : Try.f47.body = some c47 := by kernel_rfl
theorem S47_eq (γ : Calld) (a0 a1 : AV) (H : AHeap) (K : AV → AHeap → Prop) : execC Try.prog γ pol47 Try.f47 c47 [a0, a1] H K = S47 γ a0 a1 H K := by kernel_rfl
theorem C47 {a0 a1 : AV} {H : AHeap} {K : AV → AHeap → Prop} (h : S47 (CallsA Try.prog) a0 a1 H K) : CallsA Try.prog 47 [a0, a1] H K :=
  calls_of Try.func47 (ne_of_beq_false (by kernel_rfl)) c47_eq (by kernel_rfl) (by rw [S47_eq]; exact h)
/-! tithing/extent.of -/
def pol48 : Pol := { lend := fun _ => true, keep := [3, 7, 8, 9], frz := fun _ => [], perm := fun r => if r = 6 then [0, 1, 2, 3, 4, 5, 6, 7, 8, 9, 10, 11, 12, 13, 14, 15, 16, 17, 18] else [], bf := fun r => if r = 6 then [0, 1, 3, 7, 7, 23, 63, 127, 255, 7, 7, 1031, 3591, 7687, 15879, 32767, 7, 131071, 262143] else [], ret := true }
def S48 (γ : Calld) (a0 : AV) (H : AHeap) (K : AV → AHeap → Prop) : Prop :=
  optA (lenSl a0) fun v1 => loopA (fun X2 l3 H4 => optA (intA .lss (l3.getD 3 .junk) (l3.getD 2 .junk)) fun v5 => ifA v5 (optA (indexAddrA ti33 1 (l3.getD 1 .junk) (l3.getD 3 .junk)) fun v6 => optA (ldV false 1 v6 H4) fun v7 => optA (lenSl (l3.getD 0 .junk)) fun v8 => drA true (optA (intA .gtr v8 (.d (.int .i64 0))) fun v9 => ifA v9 (optA (intA .sub v8 (.d (.int .i64 1))) fun v10 => optA (indexAddrA ti23 2 (l3.getD 0 .junk) v10) fun v11 => optA (fieldA ti66 v11 0) fun v12 => optA (ldV false 1 v12 H4) fun v13 => optA (intA .sub v8 (.d (.int .i64 1))) fun v14 => optA (indexAddrA ti23 2 (l3.getD 0 .junk) v14) fun v15 => optA (fieldA ti66 v15 1) fun v16 => optA (ldV false 1 v16 H4) fun v17 => optA (intA .add v13 v17) fun v18 => optA (intA .eql v18 v7) fun v19 => ifA v19 (optA (intA .sub v8 (.d (.int .i64 1))) fun v20 => optA (indexAddrA ti23 2 (l3.getD 0 .junk) v20) fun v21 => optA (fieldA ti66 v21 1) fun v22 => optA (ldV false 1 v22 H4) fun v23 => optA (intA .add v23 (.d (.int .i64 1))) fun v24 => optA (indexAddrA ti23 2 (l3.getD 0 .junk) v20) fun v25 => optA (fieldA ti66 v25 1) fun v26 => stepK (stoA false 1 v26 v24 H4) H4 fun v27 H28 => optA (intA .add (l3.getD 3 .junk) (.d (.int .i64 1))) fun v29 => X2 [l3.getD 0 .junk, l3.getD 1 .junk, l3.getD 2 .junk, v29] H28) (stepK (bdA Try.prog ti66 [0, 1] [v7, .d (.int .i64 1)] H4) H4 fun v30 H31 => newK H31 (fun n34 => bsA ti66 1 [0] [v30] H31 n34) fun v32 H33 => newK H33 (fun n37 => apA 2 16 (l3.getD 0 .junk) v32 H33 n37) fun v35 H36 => optA (intA .add (l3.getD 3 .junk) (.d (.int .i64 1))) fun v38 => X2 [v35, l3.getD 1 .junk, l3.getD 2 .junk, v38] H36)) (stepK (bdA Try.prog ti66 [0, 1] [v7, .d (.int .i64 1)] H4) H4 fun v39 H40 => newK H40 (fun n43 => bsA ti66 1 [0] [v39] H40 n43) fun v41 H42 => newK H42 (fun n46 => apA 2 16 (l3.getD 0 .junk) v41 H42 n46) fun v44 H45 => optA (intA .add (l3.getD 3 .junk) (.d (.int .i64 1))) fun v47 => X2 [v44, l3.getD 1 .junk, l3.getD 2 .junk, v47] H45))) (retF [l3.getD 0 .junk] H4 K)) [.d (.sl true []), a0, v1, .d (.int .i64 0)] H
noncomputable def r48_0 : List Oper := regOps Try.f48 0
noncomputable def r48_1 : List Oper := regOps Try.f48 1
noncomputable def r48_2 : List Oper := regOps Try.f48 2
noncomputable def r48_3 : List Oper := regOps Try.f48 3
noncomputable def r48_4 : List Oper := regOps Try.f48 4
noncomputable def r48_5 : List Oper := regOps Try.f48 5
noncomputable def r48_6 : List Oper := regOps Try.f48 6
noncomputable def r48_7 : List Oper := regOps Try.f48 7
noncomputable def r48_8 : List Oper := regOps Try.f48 8
noncomputable def r48_9 : List Oper := regOps Try.f48 9
noncomputable def r48_10 : List Oper := regOps Try.f48 10
noncomputable def c48 : Code := (.seq (.region 0 #[opAt r48_0 0] false) (.seq (.region 1 #[opAt r48_1 0] false) (.seq (.seq (.region 2 #[opAt r48_2 0, opAt r48_2 1, opAt r48_2 2] false) (.block 0 (.loop (.seq (.region 3 #[opAt r48_3 0] false) (.seq (.cond (.tmp 10) .skip (.exit 0)) (.seq (.block 1 (.seq (.region 4 #[opAt r48_4 0, opAt r48_4 1, opAt r48_4 2] false) (.seq (.region 5 #[opAt r48_5 0, opAt r48_5 1, opAt r48_5 2] false) (.seq (.region 6 #[opAt r48_6 0, opAt r48_6 1, opAt r48_6 2, opAt r48_6 3, opAt r48_6 4, opAt r48_6 5, opAt r48_6 6, opAt r48_6 7, opAt r48_6 8, opAt r48_6 9, opAt r48_6 10, opAt r48_6 11, opAt r48_6 12, opAt r48_6 13, opAt r48_6 14, opAt r48_6 15, opAt r48_6 16, opAt r48_6 17, opAt r48_6 18] true) (.cond (.tmp 33) (.region 7 #[opAt r48_7 0, opAt r48_7 1, opAt r48_7 2, opAt r48_7 3, opAt r48_7 4, opAt r48_7 5, opAt r48_7 6, opAt r48_7 7, opAt r48_7 8, opAt r48_7 9] false) (.region 8 #[opAt r48_8 0, opAt r48_8 1, opAt r48_8 2, opAt r48_8 3, opAt r48_8 4, opAt r48_8 5] false)))))) (.region 9 #[opAt r48_9 0, opAt r48_9 1] false))))))) (.seq (.region 10 #[opAt r48_10 0, opAt r48_10 1] false) .ret))))
theorem c48_eq : Try.f48.body = some c48 := by kernel_rfl
theorem S48_eq (γ : Calld) (a0 : AV) (H : AHeap) (K : AV → AHeap → Prop) : execC Try.prog γ pol48 Try.f48 c48 [a0] H K = S48 γ a0 H K := by kernel_rfl
theorem C48 {a0 : AV} {H : AHeap} {K : AV → AHeap → Prop} (h : S48 (CallsA Try.prog) a0 H K) : CallsA Try.prog 48 [a0] H K :=
  calls_of Try.func48 (ne_of_beq_false (by kernel_rfl)) c48_eq (by kernel_rfl) (by rw [S48_eq]; exact h)
/-! tithing/extent.marked -/
def pol49 : Pol := { lend := fun _ => true, keep := [2, 7, 12, 13, 14], frz := fun _ => [], perm := fun r => [], bf := fun r => [], ret := true }
def S49 (γ : Calld) (a0 a1 a2 : AV) (H : AHeap) (K : AV → AHeap → Prop) : Prop :=
  frzLK [a0] H fun l3 H4 => γ 64 l3 H4 fun v1 H2 => optA (lenSl a1) fun v5 => loopA (fun X6 l7 H8 => optA (intA .lss (l7.getD 4 .junk) (l7.getD 3 .junk)) fun v9 => ifA v9 (optA (indexAddrA ti33 1 (l7.getD 2 .junk) (l7.getD 4 .junk)) fun v10 => optA (ldV false 1 v10 H8) fun v11 => optA (indexAddrA ti22 1 (l7.getD 1 .junk) v11) fun v12 => stepK (stoA false 1 v12 (l7.getD 0 .junk) H8) H8 fun v13 H14 => optA (intA .add (l7.getD 4 .junk) (.d (.int .i64 1))) fun v15 => X6 [l7.getD 0 .junk, l7.getD 1 .junk, l7.getD 2 .junk, l7.getD 3 .junk, v15] H14) (retF [l7.getD 1 .junk] H8 K)) [a2, v1, a1, v5, .d (.int .i64 0)] H2
noncomputable def r49_0 : List Oper := regOps Try.f49 0
noncomputable def r49_1 : List Oper := regOps Try.f49 1
noncomputable def r49_2 : List Oper := regOps Try.f49 2
noncomputable def r49_3 : List Oper := regOps Try.f49 3
noncomputable def r49_4 : List Oper := regOps Try.f49 4
noncomputable def r49_5 : List Oper := regOps Try.f49 5
noncomputable def r49_6 : List Oper := regOps Try.f49 6
noncomputable def r49_7 : List Oper := regOps Try.f49 7
noncomputable def c49 : Code := (.seq (.region 0 #[opAt r49_0 0] false) (.seq (.region 1 #[opAt r49_1 0, opAt r49_1 1, opAt r49_1 2] false) (.seq (.seq (.region 2 #[opAt r49_2 0, opAt r49_2 1, opAt r49_2 2] false) (.block 0 (.loop (.seq (.region 3 #[opAt r49_3 0] false) (.seq (.cond (.tmp 15) .skip (.exit 0)) (.seq (.block 1 (.seq (.region 4 #[opAt r49_4 0, opAt r49_4 1, opAt r49_4 2] false) (.region 5 #[opAt r49_5 0, opAt r49_5 1, opAt r49_5 2, opAt r49_5 3, opAt r49_5 4] false))) (.region 6 #[opAt r49_6 0, opAt r49_6 1] false))))))) (.seq (.region 7 #[opAt r49_7 0, opAt r49_7 1] false) .ret))))
theorem c49_eq : Try.f49.body = some c49 := by kernel_rfl
theorem S49_eq (γ : Calld) (a0 a1 a2 : AV) (H : AHeap) (K : AV → AHeap → Prop) : execC Try.prog γ pol49 Try.f49 c49 [a0, a1, a2] H K = S49 γ a0 a1 a2 H K := by kernel_rfl
theorem C49 {a0 a1 a2 : AV} {H : AHeap} {K : AV → AHeap → Prop} (h : S49 (CallsA Try.prog) a0 a1 a2 H K) : CallsA Try.prog 49 [a0, a1, a2] H K :=
  calls_of Try.func49 (ne_of_beq_false (by kernel_rfl)) c49_eq (by kernel_rfl) (by rw [S49_eq]; exact h)
/-! tithing/tithingref15.free -/
def pol50 : Pol := { lend := fun _ => true, keep := [0, 3, 4], frz := fun _ => [], perm := fun r => [], bf := fun r => [], ret := true }
def S50 (γ : Calld) (a0 : AV) (H : AHeap) (K : AV → AHeap → Prop) : Prop :=
  loopA (fun X1 l2 H3 => optA (lenSl (l2.getD 0 .junk)) fun v4 => optA (intA .lss (l2.getD 2 .junk) v4) fun v5 => ifA v5 (optA (indexAddrA ti22 1 (l2.getD 0 .junk) (l2.getD 2 .junk)) fun v6 => optA (ldV false 1 v6 H3) fun v7 => optA (unA .not v7) fun v8 => ifA v8 (newK H3 (fun n11 => bsA ti3 1 [0] [l2.getD 2 .junk] H3 n11) fun v9 H10 => newK H10 (fun n14 => apA 1 8 (l2.getD 1 .junk) v9 H10 n14) fun v12 H13 => optA (intA .add (l2.getD 2 .junk) (.d (.int .i64 1))) fun v15 => X1 [l2.getD 0 .junk, v12, v15] H13) (optA (intA .add (l2.getD 2 .junk) (.d (.int .i64 1))) fun v16 => X1 [l2.getD 0 .junk, l2.getD 1 .junk, v16] H3)) (retF [l2.getD 1 .junk] H3 K)) [a0, .d (.sl true []), .d (.int .i64 0)] H
noncomputable def r50_0 : List Oper := regOps Try.f50 0
noncomputable def r50_1 : List Oper := regOps Try.f50 1
noncomputable def r50_2 : List Oper := regOps Try.f50 2
noncomputable def r50_3 : List Oper := regOps Try.f50 3
noncomputable def r50_4 : List Oper := regOps Try.f50 4
noncomputable def r50_5 : List Oper := regOps Try.f50 5
noncomputable def r50_6 : List Oper := regOps Try.f50 6
noncomputable def r50_7 : List Oper := regOps Try.f50 7
noncomputable def c50 : Code := (.seq (.region 0 #[opAt r50_0 0] false) (.seq (.region 1 #[opAt r50_1 0] false) (.seq (.seq (.region 2 #[opAt r50_2 0] false) (.block 0 (.loop (.seq (.seq (.region 3 #[opAt r50_3 0, opAt r50_3 1, opAt r50_3 2, opAt r50_3 3] false) (.cond (.tmp 8) .skip (.exit 0))) (.seq (.block 1 (.seq (.region 5 #[opAt r50_4 0, opAt r50_4 1, opAt r50_4 2, opAt r50_4 3, opAt r50_4 4] false) (.cond (.tmp 15) (.region 6 #[opAt r50_5 0, opAt r50_5 1, opAt r50_5 2, opAt r50_5 3, opAt r50_5 4] false) .skip))) (.region 4 #[opAt r50_6 0, opAt r50_6 1, opAt r50_6 2] false)))))) (.seq (.region 7 #[opAt r50_7 0, opAt r50_7 1] false) .ret))))
theorem c50_eq : Try.f50.body = some c50 := by kernel_rfl
theorem S50_eq (γ : Calld) (a0 : AV) (H : AHeap) (K : AV → AHeap → Prop) : execC Try.prog γ pol50 Try.f50 c50 [a0] H K = S50 γ a0 H K := by kernel_rfl
theorem C50 {a0 : AV} {H : AHeap} {K : AV → AHeap → Prop} (h : S50 (CallsA Try.prog) a0 H K) : CallsA Try.prog 50 [a0] H K :=
  calls_of Try.func50 (ne_of_beq_false (by kernel_rfl)) c50_eq (by kernel_rfl) (by rw [S50_eq]; exact h)
/-! tithing/tithingref15.picks -/
def pol51 : Pol := { lend := fun _ => true, keep := [0, 1, 5, 6, 7], frz := fun _ => [], perm := fun r => [], bf := fun r => [], ret := true }
def S51 (γ : Calld) (a0 a1 : AV) (H : AHeap) (K : AV → AHeap → Prop) : Prop :=
  optA (intA .eql a1 (.d (.int .i64 0))) fun v1 => ifA v1 (retF [.d (.sl true [])] H K) (loopA (fun X2 l3 H4 => optA (lenSl (l3.getD 0 .junk)) fun v5 => optA (intA .lss (l3.getD 2 .junk) v5) fun v6 => ifA v6 (frzLK [l3.getD 0 .junk, l3.getD 2 .junk] H4 fun l9 H10 => γ 65 l9 H10 fun v7 H8 => optA (intA .geq v7 (l3.getD 1 .junk)) fun v11 => ifA v11 (optA (intA .eql (l3.getD 2 .junk) (.d (.int .i64 0))) fun v12 => ifA v12 (loopA (fun X13 l14 H15 => optA (intA .lss (l14.getD 4 .junk) (l14.getD 1 .junk)) fun v16 => ifA v16 (optA (intA .add (l14.getD 2 .junk) (l14.getD 4 .junk)) fun v17 => newK H15 (fun n20 => bsA ti3 1 [0] [v17] H15 n20) fun v18 H19 => newK H19 (fun n23 => apA 1 8 (l14.getD 3 .junk) v18 H19 n23) fun v21 H22 => optA (intA .add (l14.getD 4 .junk) (.d (.int .i64 1))) fun v24 => X13 [l14.getD 0 .junk, l14.getD 1 .junk, l14.getD 2 .junk, v21, v24] H22) (retF [l14.getD 3 .junk] H15 K)) [l3.getD 0 .junk, l3.getD 1 .junk, l3.getD 2 .junk, .d (.sl true []), .d (.int .i64 0)] H8) (optA (intA .sub (l3.getD 2 .junk) (.d (.int .i64 1))) fun v25 => optA (indexAddrA ti22 1 (l3.getD 0 .junk) v25) fun v26 => optA (ldV false 1 v26 H8) fun v27 => ifA v27 (loopA (fun X28 l29 H30 => optA (intA .lss (l29.getD 4 .junk) (l29.getD 1 .junk)) fun v31 => ifA v31 (optA (intA .add (l29.getD 2 .junk) (l29.getD 4 .junk)) fun v32 => newK H30 (fun n35 => bsA ti3 1 [0] [v32] H30 n35) fun v33 H34 => newK H34 (fun n38 => apA 1 8 (l29.getD 3 .junk) v33 H34 n38) fun v36 H37 => optA (intA .add (l29.getD 4 .junk) (.d (.int .i64 1))) fun v39 => X28 [l29.getD 0 .junk, l29.getD 1 .junk, l29.getD 2 .junk, v36, v39] H37) (retF [l29.getD 3 .junk] H30 K)) [l3.getD 0 .junk, l3.getD 1 .junk, l3.getD 2 .junk, .d (.sl true []), .d (.int .i64 0)] H8) (optA (intA .add (l3.getD 2 .junk) (.d (.int .i64 1))) fun v40 => X2 [l3.getD 0 .junk, l3.getD 1 .junk, v40, l3.getD 3 .junk, l3.getD 4 .junk] H8))) (optA (intA .add (l3.getD 2 .junk) (.d (.int .i64 1))) fun v41 => X2 [l3.getD 0 .junk, l3.getD 1 .junk, v41, l3.getD 3 .junk, l3.getD 4 .junk] H8)) (frzLK [l3.getD 0 .junk] H4 fun l44 H45 => γ 50 l44 H45 fun v42 H43 => optA (sliceA 1 v42 none (some (l3.getD 1 .junk)) none H43) fun v46 => retF [v46] H43 K)) [a0, a1, .d (.int .i64 0), .junk, .junk] H)
noncomputable def r51_0 : List Oper := regOps Try.f51 0
noncomputable def r51_1 : List Oper := regOps Try.f51 1
noncomputable def r51_2 : List Oper := regOps Try.f51 2
noncomputable def r51_3 : List Oper := regOps Try.f51 3
noncomputable def r51_4 : List Oper := regOps Try.f51 4
noncomputable def r51_5 : List Oper := regOps Try.f51 5
noncomputable def r51_6 : List Oper := regOps Try.f51 6
noncomputable def r51_7 : List Oper := regOps Try.f51 7
noncomputable def r51_8 : List Oper := regOps Try.f51 8
noncomputable def r51_9 : List Oper := regOps Try.f51 9
noncomputable def r51_10 : List Oper := regOps Try.f51 10
noncomputable def r51_11 : List Oper := regOps Try.f51 11
noncomputable def r51_12 : List Oper := regOps Try.f51 12
noncomputable def r51_13 : List Oper := regOps Try.f51 13
noncomputable def c51 : Code := (.seq (.region 0 #[opAt r51_0 0] false) (.seq (.seq (.region 1 #[opAt r51_1 0, opAt r51_1 1] false) (.cond (.tmp 9) (.seq (.region 2 #[opAt r51_2 0] false) .ret) .skip)) (.seq (.seq (.region 3 #[opAt r51_3 0] false) (.block 0 (.loop (.seq (.seq (.region 4 #[opAt r51_4 0, opAt r51_4 1, opAt r51_4 2, opAt r51_4 3] false) (.cond (.tmp 13) .skip (.exit 0))) (.seq (.block 1 (.seq (.region 6 #[opAt r51_5 0, opAt r51_5 1, opAt r51_5 2, opAt r51_5 3, opAt r51_5 4, opAt r51_5 5, opAt r51_5 6, opAt r51_5 7, opAt r51_5 8, opAt r51_5 9, opAt r51_5 10, opAt r51_5 11, opAt r51_5 12, opAt r51_5 13, opAt r51_5 14, opAt r51_5 15] false) (.cond (.tmp 31) (.seq (.region 7 #[opAt r51_6 0] false) (.seq (.seq (.region 8 #[opAt r51_7 0] false) (.block 2 (.loop (.seq (.seq (.region 9 #[opAt r51_8 0, opAt r51_8 1, opAt r51_8 2] false) (.cond (.tmp 34) .skip (.exit 2))) (.seq (.block 3 (.region 11 #[opAt r51_9 0, opAt r51_9 1, opAt r51_9 2, opAt r51_9 3, opAt r51_9 4, opAt r51_9 5, opAt r51_9 6] false)) (.region 10 #[opAt r51_10 0, opAt r51_10 1, opAt r51_10 2] false)))))) (.seq (.region 12 #[opAt r51_11 0, opAt r51_11 1] false) .ret))) .skip))) (.region 5 #[opAt r51_12 0, opAt r51_12 1, opAt r51_12 2] false)))))) (.seq (.region 13 #[opAt r51_13 0, opAt r51_13 1, opAt r51_13 2, opAt r51_13 3, opAt r51_13 4] false) .ret))))
theorem c51_eq : Try.f51.body = some c51 := by kernel_rfl
theorem S51_eq (γ : Calld) (a0 a1 : AV) (H : AHeap) (K : AV → AHeap → Prop) : execC Try.prog γ pol51 Try.f51 c51 [a0, a1] H K = S51 γ a0 a1 H K := by kernel_rfl
theorem C51 {a0 a1 : AV} {H : AHeap} {K : AV → AHeap → Prop} (h : S51 (CallsA Try.prog) a0 a1 H K) : CallsA Try.prog 51 [a0, a1] H K :=
  calls_of Try.func51 (ne_of_beq_false (by kernel_rfl)) c51_eq (by kernel_rfl) (by rw [S51_eq]; exact h)
/-! tithing/tithingref15.short -/
def pol52 : Pol := { lend := fun _ => true, keep := [1, 5, 6], frz := fun _ => [], perm := fun r => if r = 6 then [0, 1, 2, 3, 4, 5, 6, 7, 8, 9, 10, 11, 12, 13, 14, 15, 16, 17, 18, 19] else [], bf := fun r => if r = 6 then [0, 1, 3, 7, 7, 31, 63, 127, 7, 7, 775, 1799, 3847, 8191, 7, 7, 49159, 114695, 262143, 524287] else [], ret := true }
def S52 (γ : Calld) (a0 a1 : AV) (H : AHeap) (K : AV → AHeap → Prop) : Prop :=
  newK H (fun n3 => bsA ti66 0 [] [] H n3) fun v1 H2 => newK H2 (fun n6 => apA 2 16 v1 a0 H2 n6) fun v4 H5 => loopA (fun X7 l8 H9 => optA (lenSl (l8.getD 0 .junk)) fun v10 => optA (intA .lss (l8.getD 2 .junk) v10) fun v11 => ifA v11 (optA (lenSl (l8.getD 1 .junk)) fun v12 => optA (intA .sub v12 (.d (.int .i64 1))) fun v13 => drA true (optA (intA .geq v13 (.d (.int .i64 0))) fun v14 => ifA v14 (optA (indexAddrA ti23 2 (l8.getD 1 .junk) v13) fun v15 => optA (fieldA ti66 v15 0) fun v16 => optA (ldV false 1 v16 H9) fun v17 => optA (indexAddrA ti23 2 (l8.getD 1 .junk) v13) fun v18 => optA (fieldA ti66 v18 1) fun v19 => optA (ldV false 1 v19 H9) fun v20 => optA (intA .add v17 v20) fun v21 => optA (indexAddrA ti33 1 (l8.getD 0 .junk) (l8.getD 2 .junk)) fun v22 => optA (ldV false 1 v22 H9) fun v23 => optA (intA .eql v21 v23) fun v24 => ifA v24 (optA (indexAddrA ti23 2 (l8.getD 1 .junk) v13) fun v25 => optA (fieldA ti66 v25 1) fun v26 => optA (ldV false 1 v26 H9) fun v27 => optA (intA .add v27 (.d (.int .i64 1))) fun v28 => optA (indexAddrA ti23 2 (l8.getD 1 .junk) v13) fun v29 => optA (fieldA ti66 v29 1) fun v30 => stepK (stoA false 1 v30 v28 H9) H9 fun v31 H32 => optA (intA .add (l8.getD 2 .junk) (.d (.int .i64 1))) fun v33 => X7 [l8.getD 0 .junk, l8.getD 1 .junk, v33] H32) (optA (indexAddrA ti33 1 (l8.getD 0 .junk) (l8.getD 2 .junk)) fun v34 => optA (ldV false 1 v34 H9) fun v35 => stepK (bdA Try.prog ti66 [0, 1] [v35, .d (.int .i64 1)] H9) H9 fun v36 H37 => newK H37 (fun n40 => bsA ti66 1 [0] [v36] H37 n40) fun v38 H39 => newK H39 (fun n43 => apA 2 16 (l8.getD 1 .junk) v38 H39 n43) fun v41 H42 => optA (intA .add (l8.getD 2 .junk) (.d (.int .i64 1))) fun v44 => X7 [l8.getD 0 .junk, v41, v44] H42)) (optA (indexAddrA ti33 1 (l8.getD 0 .junk) (l8.getD 2 .junk)) fun v45 => optA (ldV false 1 v45 H9) fun v46 => stepK (bdA Try.prog ti66 [0, 1] [v46, .d (.int .i64 1)] H9) H9 fun v47 H48 => newK H48 (fun n51 => bsA ti66 1 [0] [v47] H48 n51) fun v49 H50 => newK H50 (fun n54 => apA 2 16 (l8.getD 1 .junk) v49 H50 n54) fun v52 H53 => optA (intA .add (l8.getD 2 .junk) (.d (.int .i64 1))) fun v55 => X7 [l8.getD 0 .junk, v52, v55] H53))) (retF [l8.getD 1 .junk] H9 K)) [a1, v4, .d (.int .i64 0)] H5
noncomputable def r52_0 : List Oper := regOps Try.f52 0
noncomputable def r52_1 : List Oper := regOps Try.f52 1
noncomputable def r52_2 : List Oper := regOps Try.f52 2
noncomputable def r52_3 : List Oper := regOps Try.f52 3
noncomputable def r52_4 : List Oper := regOps Try.f52 4
noncomputable def r52_5 : List Oper := regOps Try.f52 5
noncomputable def r52_6 : List Oper := regOps Try.f52 6
noncomputable def r52_7 : List Oper := regOps Try.f52 7
noncomputable def r52_8 : List Oper := regOps Try.f52 8
noncomputable def r52_9 : List Oper := regOps Try.f52 9
noncomputable def c52 : Code := (.seq (.region 0 #[opAt r52_0 0] false) (.seq (.region 1 #[opAt r52_1 0, opAt r52_1 1, opAt r52_1 2, opAt r52_1 3] false) (.seq (.seq (.region 2 #[opAt r52_2 0] false) (.block 0 (.loop (.seq (.seq (.region 3 #[opAt r52_3 0, opAt r52_3 1, opAt r52_3 2, opAt r52_3 3] false) (.cond (.tmp 14) .skip (.exit 0))) (.seq (.block 1 (.seq (.region 5 #[opAt r52_4 0, opAt r52_4 1, opAt r52_4 2, opAt r52_4 3] false) (.seq (.region 6 #[opAt r52_5 0, opAt r52_5 1, opAt r52_5 2, opAt r52_5 3, opAt r52_5 4, opAt r52_5 5, opAt r52_5 6, opAt r52_5 7, opAt r52_5 8, opAt r52_5 9, opAt r52_5 10, opAt r52_5 11, opAt r52_5 12, opAt r52_5 13, opAt r52_5 14, opAt r52_5 15, opAt r52_5 16, opAt r52_5 17, opAt r52_5 18, opAt r52_5 19] true) (.cond (.tmp 39) (.region 7 #[opAt r52_6 0, opAt r52_6 1, opAt r52_6 2, opAt r52_6 3, opAt r52_6 4, opAt r52_6 5, opAt r52_6 6, opAt r52_6 7, opAt r52_6 8] false) (.region 8 #[opAt r52_7 0, opAt r52_7 1, opAt r52_7 2, opAt r52_7 3, opAt r52_7 4, opAt r52_7 5, opAt r52_7 6, opAt r52_7 7, opAt r52_7 8] false))))) (.region 4 #[opAt r52_8 0, opAt r52_8 1, opAt r52_8 2] false)))))) (.seq (.region 9 #[opAt r52_9 0, opAt r52_9 1] false) .ret))))
theorem c52_eq : Try.f52.body = some c52 := by kernel_rfl
theorem S52_eq (γ : Calld) (a0 a1 : AV) (H : AHeap) (K : AV → AHeap → Prop) : execC Try.prog γ pol52 Try.f52 c52 [a0, a1] H K = S52 γ a0 a1 H K := by kernel_rfl
theorem C52 {a0 a1 : AV} {H : AHeap} {K : AV → AHeap → Prop} (h : S52 (CallsA Try.prog) a0 a1 H K) : CallsA Try.prog 52 [a0, a1] H K :=
  calls_of Try.func52 (ne_of_beq_false (by kernel_rfl)) c52_eq (by kernel_rfl) (by rw [S52_eq]; exact h)
/-! tithing/tithingref15.marked -/
def pol53 : Pol := { lend := fun _ => true, keep := [1, 2, 7, 8], frz := fun _ => [], perm := fun r => [], bf := fun r => [], ret := true }
def S53 (γ : Calld) (a0 a1 a2 : AV) (H : AHeap) (K : AV → AHeap → Prop) : Prop :=
  newK H (fun n3 => bsA ti4 0 [] [] H n3) fun v1 H2 => newK H2 (fun n6 => apA 1 1 v1 a0 H2 n6) fun v4 H5 => loopA (fun X7 l8 H9 => optA (lenSl (l8.getD 0 .junk)) fun v10 => optA (intA .lss (l8.getD 3 .junk) v10) fun v11 => ifA v11 (optA (indexAddrA ti33 1 (l8.getD 0 .junk) (l8.getD 3 .junk)) fun v12 => optA (ldV false 1 v12 H9) fun v13 => optA (indexAddrA ti22 1 (l8.getD 2 .junk) v13) fun v14 => stepK (stoA false 1 v14 (l8.getD 1 .junk) H9) H9 fun v15 H16 => optA (intA .add (l8.getD 3 .junk) (.d (.int .i64 1))) fun v17 => X7 [l8.getD 0 .junk, l8.getD 1 .junk, l8.getD 2 .junk, v17] H16) (retF [l8.getD 2 .junk] H9 K)) [a1, a2, v4, .d (.int .i64 0)] H5
noncomputable def r53_0 : List Oper := regOps Try.f53 0
noncomputable def r53_1 : List Oper := regOps Try.f53 1
noncomputable def r53_2 : List Oper := regOps Try.f53 2
noncomputable def r53_3 : List Oper := regOps Try.f53 3
noncomputable def r53_4 : List Oper := regOps Try.f53 4
noncomputable def r53_5 : List Oper := regOps Try.f53 5
noncomputable def r53_6 : List Oper := regOps Try.f53 6
noncomputable def c53 : Code := (.seq (.region 0 #[opAt r53_0 0] false) (.seq (.region 1 #[opAt r53_1 0, opAt r53_1 1, opAt r53_1 2, opAt r53_1 3] false) (.seq (.seq (.region 2 #[opAt r53_2 0] false) (.block 0 (.loop (.seq (.seq (.region 3 #[opAt r53_3 0, opAt r53_3 1, opAt r53_3 2, opAt r53_3 3] false) (.cond (.tmp 15) .skip (.exit 0))) (.seq (.block 1 (.region 5 #[opAt r53_4 0, opAt r53_4 1, opAt r53_4 2, opAt r53_4 3, opAt r53_4 4, opAt r53_4 5, opAt r53_4 6, opAt r53_4 7] false)) (.region 4 #[opAt r53_5 0, opAt r53_5 1, opAt r53_5 2] false)))))) (.seq (.region 6 #[opAt r53_6 0, opAt r53_6 1] false) .ret))))
theorem c53_eq : Try.f53.body = some c53 := by kernel_rfl
theorem S53_eq (γ : Calld) (a0 a1 a2 : AV) (H : AHeap) (K : AV → AHeap → Prop) : execC Try.prog γ pol53 Try.f53 c53 [a0, a1, a2] H K = S53 γ a0 a1 a2 H K := by kernel_rfl
theorem C53 {a0 a1 a2 : AV} {H : AHeap} {K : AV → AHeap → Prop} (h : S53 (CallsA Try.prog) a0 a1 a2 H K) : CallsA Try.prog 53 [a0, a1, a2] H K :=
  calls_of Try.func53 (ne_of_beq_false (by kernel_rfl)) c53_eq (by kernel_rfl) (by rw [S53_eq]; exact h)
/-! tithing/extent.mark -/
def pol54 : Pol := { lend := fun _ => true, keep := [], frz := fun _ => [], perm := fun r => if r = 3 then [0, 1, 2, 3, 4, 5, 6] else [], bf := fun r => if r = 3 then [0, 0, 2, 0, 15, 31, 63] else [], ret := true }
def S54 (γ : Calld) (a0 a1 a2 : AV) (H : AHeap) (K : AV → AHeap → Prop) : Prop :=
  newK H (fun n3 => boxA a0 n3) fun v1 H2 => newK H2 (fun n6 => boxA a2 n6) fun v4 H5 => optA (ldV false 1 v1 H5) fun v7 => frzLK [v7, a1] H5 fun l10 H11 => γ 45 l10 H11 fun v8 H9 => optA (unA .not v8) fun v12 => ifA v12 (retF [.d (.sl true []), .d (.int .i64 2)] H9 K) (frzLK [a1] H9 fun l15 H16 => γ 58 l15 H16 fun v13 H14 => frzLK [v13, .func 67 [] [v1, v4]] H14 fun l19 H20 => γ 66 l19 H20 fun v17 H18 => ifA v17 (retF [.d (.sl true []), .d (.int .i64 2)] H18 K) (drA true (optA (ldV false 1 v1 H18) fun v21 => apart (rsOf a1) v1 ∧ (noRsA (aggL a1) (frzLK [a1] H18 fun l23 H25 => ∃ r24, γ 58 l23 H25 (fun v H2 => v = r24 ∧ AHeap.le H25 H2) ∧ (apart (rsOf a1) v4 ∧ (optA (ldV false 1 v4 H25) fun v26 => noRsA (aggL v21) (noRsA (aggL r24) (noRsA (aggL v26) (frzLK [v21, r24, v26] H25 fun l28 H30 => ∃ r29, γ 49 l28 H30 (fun v H2 => v = r29 ∧ AHeap.le H30 H2) ∧ (retF [r29, .d (.int .i64 0)] H30 K)))))))))))
noncomputable def r54_0 : List Oper := regOps Try.f54 0
noncomputable def r54_1 : List Oper := regOps Try.f54 1
noncomputable def r54_2 : List Oper := regOps Try.f54 2
noncomputable def r54_3 : List Oper := regOps Try.f54 3
noncomputable def c54 : Code := (.seq (.region 0 #[opAt r54_0 0, opAt r54_0 1, opAt r54_0 2, opAt r54_0 3] false) (.seq (.seq (.region 1 #[opAt r54_1 0, opAt r54_1 1, opAt r54_1 2, opAt r54_1 3, opAt r54_1 4, opAt r54_1 5, opAt r54_1 6, opAt r54_1 7, opAt r54_1 8, opAt r54_1 9] false) (.cond (.tmp 17) (.seq (.region 2 #[opAt r54_2 0, opAt r54_2 1] false) .ret) .skip)) (.seq (.region 3 #[opAt r54_3 0, opAt r54_3 1, opAt r54_3 2, opAt r54_3 3, opAt r54_3 4, opAt r54_3 5, opAt r54_3 6] true) .ret)))
theorem c54_eq : Try.f54.body = some c54 := by kernel_rfl
theorem S54_eq (γ : Calld) (a0 a1 a2 : AV) (H : AHeap) (K : AV → AHeap → Prop) : execC Try.prog γ pol54 Try.f54 c54 [a0, a1, a2] H K = S54 γ a0 a1 a2 H K := by kernel_rfl
theorem C54 {a0 a1 a2 : AV} {H : AHeap} {K : AV → AHeap → Prop} (h : S54 (CallsA Try.prog) a0 a1 a2 H K) : CallsA Try.prog 54 [a0, a1, a2] H K :=
  calls_of Try.func54 (ne_of_beq_false (by kernel_rfl)) c54_eq (by kernel_rfl) (by rw [S54_eq]; exact h)
/-! tithing/tithingref15.all -/
def pol55 : Pol := { lend := fun _ => true, keep := [0, 1, 2, 7], frz := fun _ => [], perm := fun r => [], bf := fun r => [], ret := true }
def S55 (γ : Calld) (a0 a1 a2 : AV) (H : AHeap) (K : AV → AHeap → Prop) : Prop :=
  loopA (fun X1 l2 H3 => optA (lenSl (l2.getD 1 .junk)) fun v4 => optA (intA .lss (l2.getD 3 .junk) v4) fun v5 => ifA v5 (optA (indexAddrA ti33 1 (l2.getD 1 .junk) (l2.getD 3 .junk)) fun v6 => optA (ldV false 1 v6 H3) fun v7 => optA (indexAddrA ti22 1 (l2.getD 0 .junk) v7) fun v8 => optA (ldV false 1 v8 H3) fun v9 => optA (boolA .neq v9 (l2.getD 2 .junk)) fun v10 => ifA v10 (retF [.d (.bool false)] H3 K) (optA (intA .add (l2.getD 3 .junk) (.d (.int .i64 1))) fun v11 => X1 [l2.getD 0 .junk, l2.getD 1 .junk, l2.getD 2 .junk, v11] H3)) (retF [.d (.bool true)] H3 K)) [a0, a1, a2, .d (.int .i64 0)] H
noncomputable def r55_0 : List Oper := regOps Try.f55 0
noncomputable def r55_1 : List Oper := regOps Try.f55 1
noncomputable def r55_2 : List Oper := regOps Try.f55 2
noncomputable def r55_3 : List Oper := regOps Try.f55 3
noncomputable def r55_4 : List Oper := regOps Try.f55 4
noncomputable def r55_5 : List Oper := regOps Try.f55 5
noncomputable def r55_6 : List Oper := regOps Try.f55 6
noncomputable def c55 : Code := (.seq (.region 0 #[opAt r55_0 0] false) (.seq (.seq (.region 1 #[opAt r55_1 0] false) (.block 0 (.loop (.seq (.seq (.region 2 #[opAt r55_2 0, opAt r55_2 1, opAt r55_2 2, opAt r55_2 3] false) (.cond (.tmp 11) .skip (.exit 0))) (.seq (.block 1 (.seq (.region 4 #[opAt r55_3 0, opAt r55_3 1, opAt r55_3 2, opAt r55_3 3, opAt r55_3 4, opAt r55_3 5, opAt r55_3 6, opAt r55_3 7, opAt r55_3 8] false) (.cond (.tmp 22) (.seq (.region 5 #[opAt r55_4 0] false) .ret) .skip))) (.region 3 #[opAt r55_5 0, opAt r55_5 1, opAt r55_5 2] false)))))) (.seq (.region 6 #[opAt r55_6 0] false) .ret)))
theorem c55_eq : Try.f55.body = some c55 := by kernel_rfl
theorem S55_eq (γ : Calld) (a0 a1 a2 : AV) (H : AHeap) (K : AV → AHeap → Prop) : execC Try.prog γ pol55 Try.f55 c55 [a0, a1, a2] H K = S55 γ a0 a1 a2 H K := by kernel_rfl
theorem C55 {a0 a1 a2 : AV} {H : AHeap} {K : AV → AHeap → Prop} (h : S55 (CallsA Try.prog) a0 a1 a2 H K) : CallsA Try.prog 55 [a0, a1, a2] H K :=
  calls_of Try.func55 (ne_of_beq_false (by kernel_rfl)) c55_eq (by kernel_rfl) (by rw [S55_eq]; exact h)
/-! tithing/tithingref15.blocks -/
def pol56 : Pol := { lend := fun _ => true, keep := [0, 3, 4, 5], frz := fun _ => [], perm := fun r => [], bf := fun r => [], ret := true }
def S56 (γ : Calld) (a0 : AV) (H : AHeap) (K : AV → AHeap → Prop) : Prop :=
  loopA (fun X1 l2 H3 => optA (lenSl (l2.getD 0 .junk)) fun v4 => optA (intA .lss (l2.getD 2 .junk) v4) fun v5 => ifA v5 (loopA (fun X6 l7 H8 => optA (indexAddrA ti23 2 (l7.getD 0 .junk) (l7.getD 2 .junk)) fun v9 => optA (fieldA ti66 v9 1) fun v10 => optA (ldV false 1 v10 H8) fun v11 => optA (intA .lss (l7.getD 3 .junk) v11) fun v12 => ifA v12 (optA (indexAddrA ti23 2 (l7.getD 0 .junk) (l7.getD 2 .junk)) fun v13 => optA (fieldA ti66 v13 0) fun v14 => optA (ldV false 1 v14 H8) fun v15 => optA (intA .add v15 (l7.getD 3 .junk)) fun v16 => newK H8 (fun n19 => bsA ti3 1 [0] [v16] H8 n19) fun v17 H18 => newK H18 (fun n22 => apA 1 8 (l7.getD 1 .junk) v17 H18 n22) fun v20 H21 => optA (intA .add (l7.getD 3 .junk) (.d (.int .i64 1))) fun v23 => X6 [l7.getD 0 .junk, v20, l7.getD 2 .junk, v23] H21) (optA (intA .add (l7.getD 2 .junk) (.d (.int .i64 1))) fun v24 => X1 [l7.getD 0 .junk, l7.getD 1 .junk, v24, l7.getD 3 .junk] H8)) [l2.getD 0 .junk, l2.getD 1 .junk, l2.getD 2 .junk, .d (.int .i64 0)] H3) (retF [l2.getD 1 .junk] H3 K)) [a0, .d (.sl true []), .d (.int .i64 0), .junk] H
noncomputable def r56_0 : List Oper := regOps Try.f56 0
noncomputable def r56_1 : List Oper := regOps Try.f56 1
noncomputable def r56_2 : List Oper := regOps Try.f56 2
noncomputable def r56_3 : List Oper := regOps Try.f56 3
noncomputable def r56_4 : List Oper := regOps Try.f56 4
noncomputable def r56_5 : List Oper := regOps Try.f56 5
noncomputable def r56_6 : List Oper := regOps Try.f56 6
noncomputable def r56_7 : List Oper := regOps Try.f56 7
noncomputable def r56_8 : List Oper := regOps Try.f56 8
noncomputable def r56_9 : List Oper := regOps Try.f56 9
noncomputable def c56 : Code := (.seq (.region 0 #[opAt r56_0 0] false) (.seq (.region 1 #[opAt r56_1 0] false) (.seq (.seq (.region 2 #[opAt r56_2 0] false) (.block 0 (.loop (.seq (.seq (.region 3 #[opAt r56_3 0, opAt r56_3 1, opAt r56_3 2, opAt r56_3 3] false) (.cond (.tmp 9) .skip (.exit 0))) (.seq (.block 1 (.seq (.region 5 #[opAt r56_4 0] false) (.block 2 (.loop (.seq (.seq (.region 6 #[opAt r56_5 0, opAt r56_5 1, opAt r56_5 2, opAt r56_5 3, opAt r56_5 4, opAt r56_5 5, opAt r56_5 6] false) (.cond (.tmp 18) .skip (.exit 2))) (.seq (.block 3 (.region 8 #[opAt r56_6 0, opAt r56_6 1, opAt r56_6 2, opAt r56_6 3, opAt r56_6 4, opAt r56_6 5, opAt r56_6 6, opAt r56_6 7, opAt r56_6 8, opAt r56_6 9, opAt r56_6 10] false)) (.region 7 #[opAt r56_7 0, opAt r56_7 1, opAt r56_7 2] false))))))) (.region 4 #[opAt r56_8 0, opAt r56_8 1, opAt r56_8 2] false)))))) (.seq (.region 9 #[opAt r56_9 0, opAt r56_9 1] false) .ret))))
theorem c56_eq : Try.f56.body = some c56 := by kernel_rfl
theorem S56_eq (γ : Calld) (a0 : AV) (H : AHeap) (K : AV → AHeap → Prop) : execC Try.prog γ pol56 Try.f56 c56 [a0] H K = S56 γ a0 H K := by kernel_rfl
theorem C56 {a0 : AV} {H : AHeap} {K : AV → AHeap → Prop} (h : S56 (CallsA Try.prog) a0 H K) : CallsA Try.prog 56 [a0] H K :=
  calls_of Try.func56 (ne_of_beq_false (by kernel_rfl)) c56_eq (by kernel_rfl) (by rw [S56_eq]; exact h)
/-! tithing/extent.join -/
def pol57 : Pol := { lend := fun _ => true, keep := [], frz := fun _ => [], perm := fun r => if r = 3 then [0, 1, 2, 3, 4, 5, 6, 7, 8, 9, 10, 11, 12, 13, 14, 15, 16, 17, 18, 19, 20, 21, 22, 23, 24, 25, 26] else if r = 4 then [0, 1, 2, 3, 4, 5, 6, 7, 8, 9, 10, 11, 12, 13] else [], bf := fun r => if r = 3 then [0, 1, 3, 7, 15, 31, 63, 127, 255, 255, 767, 2047, 4095, 8191, 255, 255, 33023, 114943, 246015, 508159, 1048575, 255, 2097407, 6291711, 14680319, 33554431, 67108863] else if r = 4 then [0, 0, 2, 7, 15, 31, 0, 64, 192, 448, 1023, 2047, 4095, 8191] else [], ret := true }
def S57 (γ : Calld) (a0 a1 : AV) (H : AHeap) (K : AV → AHeap → Prop) : Prop :=
  frzLK [a0] H fun l3 H4 => γ 68 l3 H4 fun v1 H2 => optA (lenSl v1) fun v5 => drA true (optA (intA .gtr v5 (.d (.int .i64 0))) fun v6 => ifA v6 (optA (lenSl a1) fun v7 => optA (intA .gtr v7 (.d (.int .i64 0))) fun v8 => ifA v8 (optA (intA .sub v5 (.d (.int .i64 1))) fun v9 => optA (indexAddrA ti23 2 v1 v9) fun v10 => optA (fieldA ti66 v10 0) fun v11 => optA (ldV false 1 v11 H2) fun v12 => optA (intA .sub v5 (.d (.int .i64 1))) fun v13 => optA (indexAddrA ti23 2 v1 v13) fun v14 => optA (fieldA ti66 v14 1) fun v15 => optA (ldV false 1 v15 H2) fun v16 => optA (intA .add v12 v16) fun v17 => optA (indexAddrA ti23 2 a1 (.d (.int .i64 0))) fun v18 => optA (fieldA ti66 v18 0) fun v19 => optA (ldV false 1 v19 H2) fun v20 => optA (intA .eql v17 v20) fun v21 => ifA v21 (drA true (optA (intA .sub v5 (.d (.int .i64 1))) fun v22 => optA (indexAddrA ti23 2 v1 v22) fun v23 => optA (fieldA ti66 v23 1) fun v24 => optA (ldV false 1 v24 H2) fun v25 => optA (indexAddrA ti23 2 a1 (.d (.int .i64 0))) fun v26 => optA (fieldA ti66 v26 1) fun v27 => optA (ldV false 1 v27 H2) fun v28 => optA (intA .add v25 v28) fun v29 => optA (indexAddrA ti23 2 v1 v22) fun v30 => optA (fieldA ti66 v30 1) fun v31 => noRsA (aggL v29) (stepK (stoA false 1 v31 v29 H2) H2 fun v32 H33 => optA (sliceA 2 a1 (some (.d (.int .i64 1))) none none H33) fun v34 => newK H33 (fun n37 => apA 2 16 v1 v34 H33 n37) fun v35 H36 => retF [v35] H36 K))) (newK H2 (fun n40 => apA 2 16 v1 a1 H2 n40) fun v38 H39 => retF [v38] H39 K)) (newK H2 (fun n43 => apA 2 16 v1 a1 H2 n43) fun v41 H42 => retF [v41] H42 K)) (newK H2 (fun n46 => apA 2 16 v1 a1 H2 n46) fun v44 H45 => retF [v44] H45 K))
noncomputable def r57_0 : List Oper := regOps Try.f57 0
noncomputable def r57_1 : List Oper := regOps Try.f57 1
noncomputable def r57_2 : List Oper := regOps Try.f57 2
noncomputable def r57_3 : List Oper := regOps Try.f57 3
noncomputable def r57_4 : List Oper := regOps Try.f57 4
noncomputable def r57_5 : List Oper := regOps Try.f57 5
noncomputable def r57_6 : List Oper := regOps Try.f57 6
noncomputable def c57 : Code := (.seq (.region 0 #[opAt r57_0 0] false) (.seq (.region 1 #[opAt r57_1 0, opAt r57_1 1, opAt r57_1 2] false) (.seq (.seq (.region 2 #[opAt r57_2 0, opAt r57_2 1, opAt r57_2 2] false) (.seq (.region 3 #[opAt r57_3 0, opAt r57_3 1, opAt r57_3 2, opAt r57_3 3, opAt r57_3 4, opAt r57_3 5, opAt r57_3 6, opAt r57_3 7, opAt r57_3 8, opAt r57_3 9, opAt r57_3 10, opAt r57_3 11, opAt r57_3 12, opAt r57_3 13, opAt r57_3 14, opAt r57_3 15, opAt r57_3 16, opAt r57_3 17, opAt r57_3 18, opAt r57_3 19, opAt r57_3 20, opAt r57_3 21, opAt r57_3 22, opAt r57_3 23, opAt r57_3 24, opAt r57_3 25, opAt r57_3 26] true) (.cond (.tmp 37) (.seq (.region 4 #[opAt r57_4 0, opAt r57_4 1, opAt r57_4 2, opAt r57_4 3, opAt r57_4 4, opAt r57_4 5, opAt r57_4 6, opAt r57_4 7, opAt r57_4 8, opAt r57_4 9, opAt r57_4 10, opAt r57_4 11, opAt r57_4 12, opAt r57_4 13] true) (.region 5 #[opAt r57_5 0, opAt r57_5 1, opAt r57_5 2] false)) .skip))) (.seq (.region 6 #[opAt r57_6 0, opAt r57_6 1, opAt r57_6 2, opAt r57_6 3] false) .ret))))
theorem c57_eq : Try.f57.body = some c57 := by kernel_rfl
theorem S57_eq (γ : Calld) (a0 a1 : AV) (H : AHeap) (K : AV → AHeap → Prop) : execC Try.prog γ pol57 Try.f57 c57 [a0, a1] H K = S57 γ a0 a1 H K := by kernel_rfl
theorem C57 {a0 a1 : AV} {H : AHeap} {K : AV → AHeap → Prop} (h : S57 (CallsA Try.prog) a0 a1 H K) : CallsA Try.prog 57 [a0, a1] H K :=
  calls_of Try.func57 (ne_of_beq_false (by kernel_rfl)) c57_eq (by kernel_rfl) (by rw [S57_eq]; exact h)
/-! tithing/extent.blocks -/
def pol58 : Pol := { lend := fun _ => true, keep := [3, 5, 7, 8, 9, 14, 15], frz := fun _ => [], perm := fun r => [], bf := fun r => [], ret := true }
def S58 (γ : Calld) (a0 : AV) (H : AHeap) (K : AV → AHeap → Prop) : Prop :=
  optA (lenSl a0) fun v1 => loopA (fun X2 l3 H4 => optA (intA .lss (l3.getD 4 .junk) (l3.getD 3 .junk)) fun v5 => ifA v5 (optA (indexAddrA ti23 2 (l3.getD 2 .junk) (l3.getD 4 .junk)) fun v6 => optA (ldV true 2 v6 H4) fun v7 => newK H4 (fun n10 => some (.ptr n10 0 0 0, [(n10, .mem 0 0 2 [[.d (.int .i64 0), .d (.int .i64 0)]])])) fun v8 H9 => stepK (stoA true 2 v8 v7 H9) H9 fun v11 H12 => optA (fieldA ti66 v8 1) fun v13 => optA (ldV false 1 v13 H12) fun v14 => loopA (fun X15 l16 H17 => optA (intA .lss (l16.getD 6 .junk) (l16.getD 5 .junk)) fun v18 => ifA v18 (optA (fieldA ti66 (l16.getD 1 .junk) 0) fun v19 => optA (ldV false 1 v19 H17) fun v20 => optA (intA .add v20 (l16.getD 6 .junk)) fun v21 => newK H17 (fun n24 => bsA ti3 1 [0] [v21] H17 n24) fun v22 H23 => newK H23 (fun n27 => apA 1 8 (l16.getD 0 .junk) v22 H23 n27) fun v25 H26 => optA (intA .add (l16.getD 6 .junk) (.d (.int .i64 1))) fun v28 => X15 [v25, l16.getD 1 .junk, l16.getD 2 .junk, l16.getD 3 .junk, l16.getD 4 .junk, l16.getD 5 .junk, v28] H26) (optA (intA .add (l16.getD 4 .junk) (.d (.int .i64 1))) fun v29 => X2 [l16.getD 0 .junk, l16.getD 1 .junk, l16.getD 2 .junk, l16.getD 3 .junk, v29, l16.getD 5 .junk, l16.getD 6 .junk] H17)) [l3.getD 0 .junk, v8, l3.getD 2 .junk, l3.getD 3 .junk, l3.getD 4 .junk, v14, .d (.int .i64 0)] H12) (retF [l3.getD 0 .junk] H4 K)) [.d (.sl true []), .junk, a0, v1, .d (.int .i64 0), .junk, .junk] H
noncomputable def r58_0 : List Oper := regOps Try.f58 0
noncomputable def r58_1 : List Oper := regOps Try.f58 1
noncomputable def r58_2 : List Oper := regOps Try.f58 2
noncomputable def r58_3 : List Oper := regOps Try.f58 3
noncomputable def r58_4 : List Oper := regOps Try.f58 4
noncomputable def r58_5 : List Oper := regOps Try.f58 5
noncomputable def r58_6 : List Oper := regOps Try.f58 6
noncomputable def r58_7 : List Oper := regOps Try.f58 7
noncomputable def r58_8 : List Oper := regOps Try.f58 8
noncomputable def r58_9 : List Oper := regOps Try.f58 9
noncomputable def r58_10 : List Oper := regOps Try.f58 10
noncomputable def r58_11 : List Oper := regOps Try.f58 11
noncomputable def c58 : Code := (.seq (.region 0 #[opAt r58_0 0] false) (.seq (.region 1 #[opAt r58_1 0] false) (.seq (.seq (.region 2 #[opAt r58_2 0, opAt r58_2 1, opAt r58_2 2] false) (.block 0 (.loop (.seq (.region 3 #[opAt r58_3 0] false) (.seq (.cond (.tmp 10) .skip (.exit 0)) (.seq (.block 1 (.seq (.region 4 #[opAt r58_4 0, opAt r58_4 1, opAt r58_4 2, opAt r58_4 3] false) (.seq (.region 5 #[opAt r58_5 0, opAt r58_5 1, opAt r58_5 2] false) (.block 2 (.loop (.seq (.region 6 #[opAt r58_6 0] false) (.seq (.cond (.tmp 16) .skip (.exit 2)) (.seq (.block 3 (.seq (.region 7 #[opAt r58_7 0, opAt r58_7 1] false) (.region 8 #[opAt r58_8 0, opAt r58_8 1, opAt r58_8 2, opAt r58_8 3, opAt r58_8 4, opAt r58_8 5, opAt r58_8 6, opAt r58_8 7] false))) (.region 9 #[opAt r58_9 0, opAt r58_9 1] false))))))))) (.region 10 #[opAt r58_10 0, opAt r58_10 1] false))))))) (.seq (.region 11 #[opAt r58_11 0, opAt r58_11 1] false) .ret))))
theorem c58_eq : Try.f58.body = some c58 := by kernel_rfl
theorem S58_eq (γ : Calld) (a0 : AV) (H : AHeap) (K : AV → AHeap → Prop) : execC Try.prog γ pol58 Try.f58 c58 [a0] H K = S58 γ a0 H K := by kernel_rfl
theorem C58 {a0 : AV} {H : AHeap} {K : AV → AHeap → Prop} (h : S58 (CallsA Try.prog) a0 H K) : CallsA Try.prog 58 [a0] H K :=
  calls_of Try.func58 (ne_of_beq_false (by kernel_rfl)) c58_eq (by kernel_rfl) (by rw [S58_eq]; exact h)
/-! tithing/tithingref15.right -/
def pol59 : Pol := { lend := fun _ => true, keep := [], frz := fun _ => [], perm := fun r => [], bf := fun r => [], ret := true }
def S59 (γ : Calld) (a0 : AV) (H : AHeap) (K : AV → AHeap → Prop) : Prop :=
  frzLK [.d (.int .i64 300), a0] H fun l3 H4 => γ 35 l3 H4 fun v1 H2 => retF [v1] H2 K
noncomputable def r59_0 : List Oper := regOps Try.f59 0
noncomputable def r59_1 : List Oper := regOps Try.f59 1
noncomputable def c59 : Code := (.seq (.region 0 #[opAt r59_0 0] false) (.seq (.region 1 #[opAt r59_1 0, opAt r59_1 1, opAt r59_1 2] false) .ret))
theorem c59_eq : Try.f59.body = some c59 := by kernel_rfl
theorem S59_eq (γ : Calld) (a0 : AV) (H : AHeap) (K : AV → AHeap → Prop) : execC Try.prog γ pol59 Try.f59 c59 [a0] H K = S59 γ a0 H K := by kernel_rfl
theorem C59 {a0 : AV} {H : AHeap} {K : AV → AHeap → Prop} (h : S59 (CallsA Try.prog) a0 H K) : CallsA Try.prog 59 [a0] H K :=
  calls_of Try.func59 (ne_of_beq_false (by kernel_rfl)) c59_eq (by kernel_rfl) (by rw [S59_eq]; exact h)
/-! slices.Concat[[]tithing/api.Extent,tithing/api.Extent] -/
def pol60 : Pol := { lend := fun _ => true, keep := [0, 3, 6, 9, 10, 11, 25, 26, 27], frz := fun _ => [], perm := fun r => [], bf := fun r => [], ret := true }
def S60 (γ : Calld) (a0 : AV) (H : AHeap) (K : AV → AHeap → Prop) : Prop :=
  optA (lenSl a0) fun v1 => loopA (fun X2 l3 H4 => optA (intA .lss (l3.getD 5 .junk) (l3.getD 4 .junk)) fun v5 => ifA v5 (optA (indexAddrA ti81 1 (l3.getD 3 .junk) (l3.getD 5 .junk)) fun v6 => optA (ldV false 1 v6 H4) fun v7 => optA (lenSl v7) fun v8 => optA (intA .add (l3.getD 1 .junk) v8) fun v9 => optA (intA .lss v9 (.d (.int .i64 0))) fun v10 => ifA v10 (False) (optA (intA .add (l3.getD 5 .junk) (.d (.int .i64 1))) fun v13 => X2 [l3.getD 0 .junk, v9, l3.getD 2 .junk, l3.getD 3 .junk, l3.getD 4 .junk, v13, l3.getD 6 .junk, l3.getD 7 .junk, l3.getD 8 .junk] H4)) (frzLK [.d (.sl true []), l3.getD 1 .junk] H4 fun l16 H17 => γ 69 l16 H17 fun v14 H15 => optA (lenSl (l3.getD 0 .junk)) fun v18 => loopA (fun X19 l20 H21 => optA (intA .lss (l20.getD 8 .junk) (l20.getD 7 .junk)) fun v22 => ifA v22 (optA (indexAddrA ti81 1 (l20.getD 6 .junk) (l20.getD 8 .junk)) fun v23 => optA (ldV false 1 v23 H21) fun v24 => newK H21 (fun n27 => apA 2 16 (l20.getD 2 .junk) v24 H21 n27) fun v25 H26 => optA (intA .add (l20.getD 8 .junk) (.d (.int .i64 1))) fun v28 => X19 [l20.getD 0 .junk, l20.getD 1 .junk, v25, l20.getD 3 .junk, l20.getD 4 .junk, l20.getD 5 .junk, l20.getD 6 .junk, l20.getD 7 .junk, v28] H26) (retF [l20.getD 2 .junk] H21 K)) [l3.getD 0 .junk, l3.getD 1 .junk, v14, l3.getD 3 .junk, l3.getD 4 .junk, l3.getD 5 .junk, l3.getD 0 .junk, v18, .d (.int .i64 0)] H15)) [a0, .d (.int .i64 0), .junk, a0, v1, .d (.int .i64 0), .junk, .junk, .junk] H
noncomputable def r60_0 : List Oper := regOps Try.f60 0
noncomputable def r60_1 : List Oper := regOps Try.f60 1
noncomputable def r60_2 : List Oper := regOps Try.f60 2
noncomputable def r60_3 : List Oper := regOps Try.f60 3
noncomputable def r60_4 : List Oper := regOps Try.f60 4
noncomputable def r60_5 : List Oper := regOps Try.f60 5
noncomputable def r60_6 : List Oper := regOps Try.f60 6
noncomputable def r60_7 : List Oper := regOps Try.f60 7
noncomputable def r60_8 : List Oper := regOps Try.f60 8
noncomputable def r60_9 : List Oper := regOps Try.f60 9
noncomputable def r60_10 : List Oper := regOps Try.f60 10
noncomputable def r60_11 : List Oper := regOps Try.f60 11
noncomputable def r60_12 : List Oper := regOps Try.f60 12
noncomputable def r60_13 : List Oper := regOps Try.f60 13
noncomputable def r60_14 : List Oper := regOps Try.f60 14
noncomputable def r60_15 : List Oper := regOps Try.f60 15
noncomputable def c60 : Code := (.seq (.region 0 #[opAt r60_0 0] false) (.seq (.region 1 #[opAt r60_1 0] false) (.seq (.seq (.region 2 #[opAt r60_2 0, opAt r60_2 1, opAt r60_2 2] false) (.block 0 (.loop (.seq (.region 3 #[opAt r60_3 0] false) (.seq (.cond (.tmp 12) .skip (.exit 0)) (.seq (.block 1 (.seq (.region 4 #[opAt r60_4 0, opAt r60_4 1, opAt r60_4 2] false) (.seq (.region 5 #[opAt r60_5 0, opAt r60_5 1, opAt r60_5 2, opAt r60_5 3, opAt r60_5 4] false) (.seq (.region 6 #[opAt r60_6 0, opAt r60_6 1] false) (.cond (.tmp 20) (.region 7 #[opAt r60_7 0, opAt r60_7 1] false) .skip))))) (.region 8 #[opAt r60_8 0, opAt r60_8 1] false))))))) (.seq (.region 9 #[opAt r60_9 0, opAt r60_9 1, opAt r60_9 2] false) (.seq (.seq (.region 10 #[opAt r60_10 0, opAt r60_10 1, opAt r60_10 2] false) (.block 2 (.loop (.seq (.region 11 #[opAt r60_11 0] false) (.seq (.cond (.tmp 28) .skip (.exit 2)) (.seq (.block 3 (.seq (.region 12 #[opAt r60_12 0, opAt r60_12 1, opAt r60_12 2] false) (.region 13 #[opAt r60_13 0, opAt r60_13 1, opAt r60_13 2, opAt r60_13 3] false))) (.region 14 #[opAt r60_14 0, opAt r60_14 1] false))))))) (.seq (.region 15 #[opAt r60_15 0, opAt r60_15 1] false) .ret))))))
theorem c60_eq : Try.f60.body = some c60 := by kernel_rfl
theorem S60_eq (γ : Calld) (a0 : AV) (H : AHeap) (K : AV → AHeap → Prop) : execC Try.prog γ pol60 Try.f60 c60 [a0] H K = S60 γ a0 H K := by kernel_rfl
theorem C60 {a0 : AV} {H : AHeap} {K : AV → AHeap → Prop} (h : S60 (CallsA Try.prog) a0 H K) : CallsA Try.prog 60 [a0] H K :=
  calls_of Try.func60 (ne_of_beq_false (by kernel_rfl)) c60_eq (by kernel_rfl) (by rw [S60_eq]; exact h)
/-! tithing/extent.free -/
def pol61 : Pol := { lend := fun _ => true, keep := [3, 6, 7, 8], frz := fun _ => [], perm := fun r => [], bf := fun r => [], ret := true }
def S61 (γ : Calld) (a0 : AV) (H : AHeap) (K : AV → AHeap → Prop) : Prop :=
  optA (lenSl a0) fun v1 => loopA (fun X2 l3 H4 => optA (intA .lss (l3.getD 3 .junk) (l3.getD 2 .junk)) fun v5 => ifA v5 (optA (indexAddrA ti22 1 (l3.getD 1 .junk) (l3.getD 3 .junk)) fun v6 => optA (ldV false 1 v6 H4) fun v7 => optA (unA .not v7) fun v8 => ifA v8 (newK H4 (fun n11 => bsA ti3 1 [0] [l3.getD 3 .junk] H4 n11) fun v9 H10 => newK H10 (fun n14 => apA 1 8 (l3.getD 0 .junk) v9 H10 n14) fun v12 H13 => optA (intA .add (l3.getD 3 .junk) (.d (.int .i64 1))) fun v15 => X2 [v12, l3.getD 1 .junk, l3.getD 2 .junk, v15] H13) (optA (intA .add (l3.getD 3 .junk) (.d (.int .i64 1))) fun v16 => X2 [l3.getD 0 .junk, l3.getD 1 .junk, l3.getD 2 .junk, v16] H4)) (frzLK [l3.getD 0 .junk] H4 fun l19 H20 => γ 48 l19 H20 fun v17 H18 => retF [v17] H18 K)) [.d (.sl true []), a0, v1, .d (.int .i64 0)] H
noncomputable def r61_0 : List Oper := regOps Try.f61 0
noncomputable def r61_1 : List Oper := regOps Try.f61 1
noncomputable def r61_2 : List Oper := regOps Try.f61 2
noncomputable def r61_3 : List Oper := regOps Try.f61 3
noncomputable def r61_4 : List Oper := regOps Try.f61 4
noncomputable def r61_5 : List Oper := regOps Try.f61 5
noncomputable def r61_6 : List Oper := regOps Try.f61 6
noncomputable def r61_7 : List Oper := regOps Try.f61 7
noncomputable def r61_8 : List Oper := regOps Try.f61 8
noncomputable def c61 : Code := (.seq (.region 0 #[opAt r61_0 0] false) (.seq (.region 1 #[opAt r61_1 0] false) (.seq (.seq (.region 2 #[opAt r61_2 0, opAt r61_2 1, opAt r61_2 2] false) (.block 0 (.loop (.seq (.region 3 #[opAt r61_3 0] false) (.seq (.cond (.tmp 9) .skip (.exit 0)) (.seq (.block 1 (.seq (.region 4 #[opAt r61_4 0, opAt r61_4 1, opAt r61_4 2, opAt r61_4 3, opAt r61_4 4] false) (.seq (.region 5 #[opAt r61_5 0, opAt r61_5 1] false) (.cond (.tmp 14) (.region 6 #[opAt r61_6 0, opAt r61_6 1, opAt r61_6 2, opAt r61_6 3, opAt r61_6 4] false) .skip)))) (.region 7 #[opAt r61_7 0, opAt r61_7 1] false))))))) (.seq (.region 8 #[opAt r61_8 0, opAt r61_8 1, opAt r61_8 2] false) .ret))))
theorem c61_eq : Try.f61.body = some c61 := by kernel_rfl
theorem S61_eq (γ : Calld) (a0 : AV) (H : AHeap) (K : AV → AHeap → Prop) : execC Try.prog γ pol61 Try.f61 c61 [a0] H K = S61 γ a0 H K := by kernel_rfl
theorem C61 {a0 : AV} {H : AHeap} {K : AV → AHeap → Prop} (h : S61 (CallsA Try.prog) a0 H K) : CallsA Try.prog 61 [a0] H K :=
  calls_of Try.func61 (ne_of_beq_false (by kernel_rfl)) c61_eq (by kernel_rfl) (by rw [S61_eq]; exact h)
/-! slices.IndexFunc[[]tithing/api.Extent,tithing/api.Extent] -/
def pol62 : Pol := { lend := fun _ => true, keep := [0, 1, 7, 8], frz := fun _ => [], perm := fun r => [], bf := fun r => [], ret := true }
def S62 (γ : Calld) (a0 a1 : AV) (H : AHeap) (K : AV → AHeap → Prop) : Prop :=
  optA (lenSl a0) fun v1 => loopA (fun X2 l3 H4 => optA (intA .lss (l3.getD 3 .junk) (l3.getD 2 .junk)) fun v5 => ifA v5 (optA (indexAddrA ti23 2 (l3.getD 0 .junk) (l3.getD 3 .junk)) fun v6 => optA (ldV true 2 v6 H4) fun v7 => callA γ pol62 (l3.getD 1 .junk) [v7] H4 fun v8 H9 => ifA v8 (retF [l3.getD 3 .junk] H9 K) (optA (intA .add (l3.getD 3 .junk) (.d (.int .i64 1))) fun v10 => X2 [l3.getD 0 .junk, l3.getD 1 .junk, l3.getD 2 .junk, v10] H9)) (retF [.d (.int .i64 (-1))] H4 K)) [a0, a1, v1, .d (.int .i64 0)] H
noncomputable def r62_0 : List Oper := regOps Try.f62 0
noncomputable def r62_1 : List Oper := regOps Try.f62 1
noncomputable def r62_2 : List Oper := regOps Try.f62 2
noncomputable def r62_3 : List Oper := regOps Try.f62 3
noncomputable def r62_4 : List Oper := regOps Try.f62 4
noncomputable def r62_5 : List Oper := regOps Try.f62 5
noncomputable def r62_6 : List Oper := regOps Try.f62 6
noncomputable def r62_7 : List Oper := regOps Try.f62 7
noncomputable def c62 : Code := (.seq (.region 0 #[opAt r62_0 0] false) (.seq (.seq (.region 1 #[opAt r62_1 0, opAt r62_1 1, opAt r62_1 2] false) (.block 0 (.loop (.seq (.region 2 #[opAt r62_2 0] false) (.seq (.cond (.tmp 9) .skip (.exit 0)) (.seq (.block 1 (.seq (.region 3 #[opAt r62_3 0, opAt r62_3 1] false) (.seq (.region 4 #[opAt r62_4 0, opAt r62_4 1, opAt r62_4 2, opAt r62_4 3, opAt r62_4 4, opAt r62_4 5] false) (.cond (.tmp 16) (.seq (.region 5 #[opAt r62_5 0, opAt r62_5 1] false) .ret) .skip)))) (.region 6 #[opAt r62_6 0, opAt r62_6 1] false))))))) (.seq (.region 7 #[opAt r62_7 0] false) .ret)))
theorem c62_eq : Try.f62.body = some c62 := by kernel_rfl
theorem S62_eq (γ : Calld) (a0 a1 : AV) (H : AHeap) (K : AV → AHeap → Prop) : execC Try.prog γ pol62 Try.f62 c62 [a0, a1] H K = S62 γ a0 a1 H K := by kernel_rfl
theorem C62 {a0 a1 : AV} {H : AHeap} {K : AV → AHeap → Prop} (h : S62 (CallsA Try.prog) a0 a1 H K) : CallsA Try.prog 62 [a0, a1] H K :=
  calls_of Try.func62 (ne_of_beq_false (by kernel_rfl)) c62_eq (by kernel_rfl) (by rw [S62_eq]; exact h)
/-! tithing/extent.allot$1 -/
def pol63 : Pol := { lend := fun _ => true, keep := [], frz := fun _ => [], perm := fun r => [], bf := fun r => [], ret := true }
def S63 (γ : Calld) (a0 a1 : AV) (H : AHeap) (K : AV → AHeap → Prop) : Prop :=
  newK H (fun n3 => boxA a0 n3) fun v1 H2 => optA (fieldA ti66 v1 1) fun v4 => optA (ldV false 1 v4 H2) fun v5 => optA (ldV false 1 a1 H2) fun v6 => optA (intA .geq v5 v6) fun v7 => retF [v7] H2 K
noncomputable def r63_0 : List Oper := regOps Try.f63 0
noncomputable def r63_1 : List Oper := regOps Try.f63 1
noncomputable def c63 : Code := (.seq (.region 0 #[opAt r63_0 0, opAt r63_0 1] false) (.seq (.region 1 #[opAt r63_1 0, opAt r63_1 1, opAt r63_1 2, opAt r63_1 3, opAt r63_1 4] false) .ret))
theorem c63_eq : Try.f63.body = some c63 := by kernel_rfl
theorem S63_eq (γ : Calld) (a0 a1 : AV) (H : AHeap) (K : AV → AHeap → Prop) : execC Try.prog γ pol63 Try.f63 c63 [a0, a1] H K = S63 γ a0 a1 H K := by kernel_rfl
theorem C63 {a0 a1 : AV} {H : AHeap} {K : AV → AHeap → Prop} (h : S63 (CallsA Try.prog) a0 a1 H K) : CallsA Try.prog 63 [a0, a1] H K :=
  calls_of Try.func63 (ne_of_beq_false (by kernel_rfl)) c63_eq (by kernel_rfl) (by rw [S63_eq]; exact h)
/-! slices.Clone[[]bool,bool] -/
def pol64 : Pol := { lend := fun _ => true, keep := [], frz := fun _ => [], perm := fun r => [], bf := fun r => [], ret := true }
def S64 (γ : Calld) (a0 : AV) (H : AHeap) (K : AV → AHeap → Prop) : Prop :=
  optA (nilA 0 .eql a0 (.d (.sl true []))) fun v1 => ifA v1 (retF [.d (.sl true [])] H K) (newK H (fun n4 => bsA ti4 0 [] [] H n4) fun v2 H3 => newK H3 (fun n7 => apA 1 1 v2 a0 H3 n7) fun v5 H6 => retF [v5] H6 K)
noncomputable def r64_0 : List Oper := regOps Try.f64 0
noncomputable def r64_1 : List Oper := regOps Try.f64 1
noncomputable def r64_2 : List Oper := regOps Try.f64 2
noncomputable def r64_3 : List Oper := regOps Try.f64 3
noncomputable def c64 : Code := (.seq (.region 0 #[opAt r64_0 0] false) (.seq (.seq (.region 1 #[opAt r64_1 0, opAt r64_1 1] false) (.cond (.tmp 4) (.seq (.region 2 #[opAt r64_2 0] false) .ret) .skip)) (.seq (.region 3 #[opAt r64_3 0, opAt r64_3 1, opAt r64_3 2, opAt r64_3 3] false) .ret)))
theorem c64_eq : Try.f64.body = some c64 := by kernel_rfl
theorem S64_eq (γ : Calld) (a0 : AV) (H : AHeap) (K : AV → AHeap → Prop) : execC Try.prog γ pol64 Try.f64 c64 [a0] H K = S64 γ a0 H K := by kernel_rfl
theorem C64 {a0 : AV} {H : AHeap} {K : AV → AHeap → Prop} (h : S64 (CallsA Try.prog) a0 H K) : CallsA Try.prog 64 [a0] H K :=
  calls_of Try.func64 (ne_of_beq_false (by kernel_rfl)) c64_eq (by kernel_rfl) (by rw [S64_eq]; exact h)
/-! tithing/tithingref15.run -/
def pol65 : Pol := { lend := fun _ => true, keep := [0, 1, 5], frz := fun _ => [], perm := fun r => [], bf := fun r => [], ret := true }
def S65 (γ : Calld) (a0 a1 : AV) (H : AHeap) (K : AV → AHeap → Prop) : Prop :=
  loopA (fun X1 l2 H3 => optA (intA .add (l2.getD 1 .junk) (l2.getD 2 .junk)) fun v4 => optA (lenSl (l2.getD 0 .junk)) fun v5 => optA (intA .lss v4 v5) fun v6 => ifA v6 (optA (intA .add (l2.getD 1 .junk) (l2.getD 2 .junk)) fun v7 => optA (indexAddrA ti22 1 (l2.getD 0 .junk) v7) fun v8 => optA (ldV false 1 v8 H3) fun v9 => optA (unA .not v9) fun v10 => ifA v10 (optA (intA .add (l2.getD 2 .junk) (.d (.int .i64 1))) fun v11 => X1 [l2.getD 0 .junk, l2.getD 1 .junk, v11] H3) (retF [l2.getD 2 .junk] H3 K)) (retF [l2.getD 2 .junk] H3 K)) [a0, a1, .d (.int .i64 0)] H
noncomputable def r65_0 : List Oper := regOps Try.f65 0
noncomputable def r65_1 : List Oper := regOps Try.f65 1
noncomputable def r65_2 : List Oper := regOps Try.f65 2
noncomputable def r65_3 : List Oper := regOps Try.f65 3
noncomputable def r65_4 : List Oper := regOps Try.f65 4
noncomputable def c65 : Code := (.seq (.region 0 #[opAt r65_0 0] false) (.seq (.region 1 #[opAt r65_1 0] false) (.seq (.block 0 (.loop (.seq (.seq (.region 2 #[opAt r65_2 0, opAt r65_2 1, opAt r65_2 2, opAt r65_2 3, opAt r65_2 4, opAt r65_2 5, opAt r65_2 6, opAt r65_2 7, opAt r65_2 8, opAt r65_2 9, opAt r65_2 10, opAt r65_2 11, opAt r65_2 12, opAt r65_2 13, opAt r65_2 14] false) (.cond (.tmp 20) .skip (.exit 0))) (.block 1 (.region 3 #[opAt r65_3 0, opAt r65_3 1, opAt r65_3 2] false))))) (.seq (.region 4 #[opAt r65_4 0, opAt r65_4 1] false) .ret))))
theorem c65_eq : Try.f65.body = some c65 := by kernel_rfl
theorem S65_eq (γ : Calld) (a0 a1 : AV) (H : AHeap) (K : AV → AHeap → Prop) : execC Try.prog γ pol65 Try.f65 c65 [a0, a1] H K = S65 γ a0 a1 H K := by kernel_rfl
theorem C65 {a0 a1 : AV} {H : AHeap} {K : AV → AHeap → Prop} (h : S65 (CallsA Try.prog) a0 a1 H K) : CallsA Try.prog 65 [a0, a1] H K :=
  calls_of Try.func65 (ne_of_beq_false (by kernel_rfl)) c65_eq (by kernel_rfl) (by rw [S65_eq]; exact h)
/-! slices.ContainsFunc[[]int,int] -/
def pol66 : Pol := { lend := fun _ => true, keep := [], frz := fun _ => [], perm := fun r => [], bf := fun r => [], ret := true }
def S66 (γ : Calld) (a0 a1 : AV) (H : AHeap) (K : AV → AHeap → Prop) : Prop :=
  frzLK [a0, a1] H fun l3 H4 => γ 70 l3 H4 fun v1 H2 => optA (intA .geq v1 (.d (.int .i64 0))) fun v5 => retF [v5] H2 K
noncomputable def r66_0 : List Oper := regOps Try.f66 0
noncomputable def r66_1 : List Oper := regOps Try.f66 1
noncomputable def c66 : Code := (.seq (.region 0 #[opAt r66_0 0] false) (.seq (.region 1 #[opAt r66_1 0, opAt r66_1 1, opAt r66_1 2, opAt r66_1 3, opAt r66_1 4] false) .ret))
theorem c66_eq : Try.f66.body = some c66 := by kernel_rfl
theorem S66_eq (γ : Calld) (a0 a1 : AV) (H : AHeap) (K : AV → AHeap → Prop) : execC Try.prog γ pol66 Try.f66 c66 [a0, a1] H K = S66 γ a0 a1 H K := by kernel_rfl
theorem C66 {a0 a1 : AV} {H : AHeap} {K : AV → AHeap → Prop} (h : S66 (CallsA Try.prog) a0 a1 H K) : CallsA Try.prog 66 [a0, a1] H K :=
  calls_of Try.func66 (ne_of_beq_false (by kernel_rfl)) c66_eq (by kernel_rfl) (by rw [S66_eq]; exact h)
/-! tithing/extent.mark$1 -/
def pol67 : Pol := { lend := fun _ => true, keep := [], frz := fun _ => [], perm := fun r => if r = 1 then [0, 1, 2, 3, 4, 5, 6] else [], bf := fun r => if r = 1 then [0, 0, 3, 7, 0, 31, 63] else [], ret := true }
def S67 (γ : Calld) (a0 a1 a2 : AV) (H : AHeap) (K : AV → AHeap → Prop) : Prop :=
  drA true (optA (ldV false 1 a1 H) fun v1 => optA (indexAddrA ti22 1 v1 a0) fun v2 => optA (ldV false 1 v2 H) fun v3 => optA (ldV false 1 a2 H) fun v4 => optA (boolA .eql v3 v4) fun v5 => retF [v5] H K)
noncomputable def r67_0 : List Oper := regOps Try.f67 0
noncomputable def r67_1 : List Oper := regOps Try.f67 1
noncomputable def c67 : Code := (.seq (.region 0 #[opAt r67_0 0] false) (.seq (.region 1 #[opAt r67_1 0, opAt r67_1 1, opAt r67_1 2, opAt r67_1 3, opAt r67_1 4, opAt r67_1 5, opAt r67_1 6] true) .ret))
theorem c67_eq : Try.f67.body = some c67 := by kernel_rfl
theorem S67_eq (γ : Calld) (a0 a1 a2 : AV) (H : AHeap) (K : AV → AHeap → Prop) : execC Try.prog γ pol67 Try.f67 c67 [a0, a1, a2] H K = S67 γ a0 a1 a2 H K := by kernel_rfl
theorem C67 {a0 a1 a2 : AV} {H : AHeap} {K : AV → AHeap → Prop} (h : S67 (CallsA Try.prog) a0 a1 a2 H K) : CallsA Try.prog 67 [a0, a1, a2] H K :=
  calls_of Try.func67 (ne_of_beq_false (by kernel_rfl)) c67_eq (by kernel_rfl) (by rw [S67_eq]; exact h)
/-! slices.Clone[[]tithing/api.Extent,tithing/api.Extent] -/
def pol68 : Pol := { lend := fun _ => true, keep := [], frz := fun _ => [], perm := fun r => [], bf := fun r => [], ret := true }
def S68 (γ : Calld) (a0 : AV) (H : AHeap) (K : AV → AHeap → Prop) : Prop :=
  optA (nilA 0 .eql a0 (.d (.sl true []))) fun v1 => ifA v1 (retF [.d (.sl true [])] H K) (newK H (fun n4 => bsA ti66 0 [] [] H n4) fun v2 H3 => newK H3 (fun n7 => apA 2 16 v2 a0 H3 n7) fun v5 H6 => retF [v5] H6 K)
noncomputable def r68_0 : List Oper := regOps Try.f68 0
noncomputable def r68_1 : List Oper := regOps Try.f68 1
noncomputable def r68_2 : List Oper := regOps Try.f68 2
noncomputable def r68_3 : List Oper := regOps Try.f68 3
noncomputable def c68 : Code := (.seq (.region 0 #[opAt r68_0 0] false) (.seq (.seq (.region 1 #[opAt r68_1 0, opAt r68_1 1] false) (.cond (.tmp 4) (.seq (.region 2 #[opAt r68_2 0] false) .ret) .skip)) (.seq (.region 3 #[opAt r68_3 0, opAt r68_3 1, opAt r68_3 2, opAt r68_3 3] false) .ret)))
theorem c68_eq : Try.f68.body = some c68 := by kernel_rfl
theorem S68_eq (γ : Calld) (a0 : AV) (H : AHeap) (K : AV → AHeap → Prop) : execC Try.prog γ pol68 Try.f68 c68 [a0] H K = S68 γ a0 H K := by kernel_rfl
theorem C68 {a0 : AV} {H : AHeap} {K : AV → AHeap → Prop} (h : S68 (CallsA Try.prog) a0 H K) : CallsA Try.prog 68 [a0] H K :=
  calls_of Try.func68 (ne_of_beq_false (by kernel_rfl)) c68_eq (by kernel_rfl) (by rw [S68_eq]; exact h)
/-! slices.Grow[[]tithing/api.Extent,tithing/api.Extent] -/
def pol69 : Pol := { lend := fun _ => true, keep := [], frz := fun _ => [], perm := fun r => [], bf := fun r => [], ret := false }
def S69 (γ : Calld) (a0 a1 : AV) (H : AHeap) (K : AV → AHeap → Prop) : Prop :=
  optA (intA .lss a1 (.d (.int .i64 0))) fun v1 => ifA v1 (False) (optA (capA a0) fun v4 => optA (lenSl a0) fun v5 => optA (intA .sub v4 v5) fun v6 => optA (intA .sub a1 v6) fun v7 => optA (intA .gtr v7 (.d (.int .i64 0))) fun v8 => ifA v8 (optA (capA a0) fun v9 => optA (sliceA 2 a0 none (some v9) none H) fun v10 => newK H (fun n13 => apzA ti66 v10 v7 H n13) fun v11 H12 => optA (lenSl a0) fun v14 => optA (sliceA 2 v11 none (some v14) none H12) fun v15 => finA v15 H12 K) (finA a0 H K))
noncomputable def r69_0 : List Oper := regOps Try.f69 0
noncomputable def r69_1 : List Oper := regOps Try.f69 1
noncomputable def r69_2 : List Oper := regOps Try.f69 2
noncomputable def r69_3 : List Oper := regOps Try.f69 3
noncomputable def r69_4 : List Oper := regOps Try.f69 4
noncomputable def r69_5 : List Oper := regOps Try.f69 5
noncomputable def r69_6 : List Oper := regOps Try.f69 6
noncomputable def c69 : Code := (.seq (.region 0 #[opAt r69_0 0] false) (.seq (.seq (.region 1 #[opAt r69_1 0, opAt r69_1 1] false) (.cond (.tmp 6) (.region 2 #[opAt r69_2 0, opAt r69_2 1] false) .skip)) (.seq (.seq (.region 3 #[opAt r69_3 0, opAt r69_3 1, opAt r69_3 2, opAt r69_3 3, opAt r69_3 4, opAt r69_3 5, opAt r69_3 6, opAt r69_3 7] false) (.seq (.region 4 #[opAt r69_4 0, opAt r69_4 1] false) (.cond (.tmp 16) (.region 5 #[opAt r69_5 0, opAt r69_5 1, opAt r69_5 2, opAt r69_5 3, opAt r69_5 4, opAt r69_5 5, opAt r69_5 6, opAt r69_5 7, opAt r69_5 8, opAt r69_5 9] false) .skip))) (.seq (.region 6 #[opAt r69_6 0, opAt r69_6 1] false) .ret))))
theorem c69_eq : Try.f69.body = some c69 := by kernel_rfl
theorem S69_eq (γ : Calld) (a0 a1 : AV) (H : AHeap) (K : AV → AHeap → Prop) : execC Try.prog γ pol69 Try.f69 c69 [a0, a1] H K = S69 γ a0 a1 H K := by kernel_rfl
theorem C69 {a0 a1 : AV} {H : AHeap} {K : AV → AHeap → Prop} (h : S69 (CallsA Try.prog) a0 a1 H K) : CallsA Try.prog 69 [a0, a1] H K :=
  calls_of Try.func69 (ne_of_beq_false (by kernel_rfl)) c69_eq (by kernel_rfl) (by rw [S69_eq]; exact h)
/-! slices.IndexFunc[[]int,int] -/
def pol70 : Pol := { lend := fun _ => true, keep := [0, 1, 7, 8], frz := fun _ => [], perm := fun r => [], bf := fun r => [], ret := true }
def S70 (γ : Calld) (a0 a1 : AV) (H : AHeap) (K : AV → AHeap → Prop) : Prop :=
  optA (lenSl a0) fun v1 => loopA (fun X2 l3 H4 => optA (intA .lss (l3.getD 3 .junk) (l3.getD 2 .junk)) fun v5 => ifA v5 (optA (indexAddrA ti33 1 (l3.getD 0 .junk) (l3.getD 3 .junk)) fun v6 => optA (ldV false 1 v6 H4) fun v7 => callA γ pol70 (l3.getD 1 .junk) [v7] H4 fun v8 H9 => ifA v8 (retF [l3.getD 3 .junk] H9 K) (optA (intA .add (l3.getD 3 .junk) (.d (.int .i64 1))) fun v10 => X2 [l3.getD 0 .junk, l3.getD 1 .junk, l3.getD 2 .junk, v10] H9)) (retF [.d (.int .i64 (-1))] H4 K)) [a0, a1, v1, .d (.int .i64 0)] H
noncomputable def r70_0 : List Oper := regOps Try.f70 0
noncomputable def r70_1 : List Oper := regOps Try.f70 1
noncomputable def r70_2 : List Oper := regOps Try.f70 2
noncomputable def r70_3 : List Oper := regOps Try.f70 3
noncomputable def r70_4 : List Oper := regOps Try.f70 4
noncomputable def r70_5 : List Oper := regOps Try.f70 5
noncomputable def r70_6 : List Oper := regOps Try.f70 6
noncomputable def r70_7 : List Oper := regOps Try.f70 7
noncomputable def c70 : Code := (.seq (.region 0 #[opAt r70_0 0] false) (.seq (.seq (.region 1 #[opAt r70_1 0, opAt r70_1 1, opAt r70_1 2] false) (.block 0 (.loop (.seq (.region 2 #[opAt r70_2 0] false) (.seq (.cond (.tmp 9) .skip (.exit 0)) (.seq (.block 1 (.seq (.region 3 #[opAt r70_3 0, opAt r70_3 1] false) (.seq (.region 4 #[opAt r70_4 0, opAt r70_4 1, opAt r70_4 2, opAt r70_4 3, opAt r70_4 4, opAt r70_4 5] false) (.cond (.tmp 16) (.seq (.region 5 #[opAt r70_5 0, opAt r70_5 1] false) .ret) .skip)))) (.region 6 #[opAt r70_6 0, opAt r70_6 1] false))))))) (.seq (.region 7 #[opAt r70_7 0] false) .ret)))
theorem c70_eq : Try.f70.body = some c70 := by kernel_rfl
theorem S70_eq (γ : Calld) (a0 a1 : AV) (H : AHeap) (K : AV → AHeap → Prop) : execC Try.prog γ pol70 Try.f70 c70 [a0, a1] H K = S70 γ a0 a1 H K := by kernel_rfl
theorem C70 {a0 a1 : AV} {H : AHeap} {K : AV → AHeap → Prop} (h : S70 (CallsA Try.prog) a0 a1 H K) : CallsA Try.prog 70 [a0, a1] H K :=
  calls_of Try.func70 (ne_of_beq_false (by kernel_rfl)) c70_eq (by kernel_rfl) (by rw [S70_eq]; exact h)
end Go.Proofs.Ytlaojbclmcageaa

/- What the functions do, printed by a program of mine out of their code; Lean checks each equation. -/
import Derived.Test.YtadpakkenokilaaA26
import Derived.Test.YtadpakkenokilaaProg
import Derived.KernelRfl
set_option maxRecDepth 100000
set_option linter.unusedVariables false
namespace Go.Proofs.Ytadpakkenokilaa
open Go Go.AM Go.Proofs
def ti3 : TI := { agg := false, size := 1, bytes := 8, zero := [.d (.int .i64 0)], k := .int .i64 }
def ti4 : TI := { agg := false, size := 1, bytes := 1, zero := [.d (.bool false)], k := .bool }
def ti22 : TI := { agg := false, size := 1, bytes := 24, zero := [.d (.sl true [])], k := .slice 3 }
def ti23 : TI := { agg := false, size := 1, bytes := 24, zero := [.d (.sl true [])], k := .slice 22 }
def ti25 : TI := { agg := false, size := 1, bytes := 8, zero := [.nilptr], k := .ptr 52 }
def ti36 : TI := { agg := false, size := 1, bytes := 24, zero := [.d (.sl true [])], k := .slice 42 }
def ti42 : TI := { agg := true, size := 3, bytes := 40, zero := [.d (.int .i64 0), .d (.int .i64 0), .d (.sl true [])], k := .struct [(0, 3), (1, 3), (2, 22)] }
theorem ti42_f0 {i v e o : Nat} : fieldA ti42 (.ptr i v e o) 0 = some (.ptr i v e (o + 0)) := rfl
theorem ti42_v0 {cs : List Dat} {o : Nat} : fieldA ti42 (.vptr cs o) 0 = some (.vptr cs (o + 0)) := rfl
theorem ti42_f1 {i v e o : Nat} : fieldA ti42 (.ptr i v e o) 1 = some (.ptr i v e (o + 1)) := rfl
theorem ti42_v1 {cs : List Dat} {o : Nat} : fieldA ti42 (.vptr cs o) 1 = some (.vptr cs (o + 1)) := rfl
theorem ti42_f2 {i v e o : Nat} : fieldA ti42 (.ptr i v e o) 2 = some (.ptr i v e (o + 2)) := rfl
theorem ti42_v2 {cs : List Dat} {o : Nat} : fieldA ti42 (.vptr cs o) 2 = some (.vptr cs (o + 2)) := rfl
def ti43 : TI := { agg := false, size := 1, bytes := 24, zero := [.d (.sl true [])], k := .slice 77 }
def ti50 : TI := { agg := false, size := 1, bytes := 24, zero := [.d (.sl true [])], k := .slice 65 }
def ti52 : TI := { agg := true, size := 4, bytes := 64, zero := [.d (.bool false), .d (.sl true []), .d (.sl true []), .d (.int .i64 0)], k := .struct [(0, 4), (1, 22), (2, 50), (3, 3)] }
theorem ti52_f0 {i v e o : Nat} : fieldA ti52 (.ptr i v e o) 0 = some (.ptr i v e (o + 0)) := rfl
theorem ti52_v0 {cs : List Dat} {o : Nat} : fieldA ti52 (.vptr cs o) 0 = some (.vptr cs (o + 0)) := rfl
theorem ti52_f1 {i v e o : Nat} : fieldA ti52 (.ptr i v e o) 1 = some (.ptr i v e (o + 1)) := rfl
theorem ti52_v1 {cs : List Dat} {o : Nat} : fieldA ti52 (.vptr cs o) 1 = some (.vptr cs (o + 1)) := rfl
theorem ti52_f2 {i v e o : Nat} : fieldA ti52 (.ptr i v e o) 2 = some (.ptr i v e (o + 2)) := rfl
theorem ti52_v2 {cs : List Dat} {o : Nat} : fieldA ti52 (.vptr cs o) 2 = some (.vptr cs (o + 2)) := rfl
theorem ti52_f3 {i v e o : Nat} : fieldA ti52 (.ptr i v e o) 3 = some (.ptr i v e (o + 3)) := rfl
theorem ti52_v3 {cs : List Dat} {o : Nat} : fieldA ti52 (.vptr cs o) 3 = some (.vptr cs (o + 3)) := rfl
def ti53 : TI := { agg := false, size := 1, bytes := 24, zero := [.d (.sl true [])], k := .slice 25 }
def ti65 : TI := { agg := false, size := 1, bytes := 8, zero := [.nilptr], k := .ptr 68 }
def ti68 : TI := { agg := true, size := 6, bytes := 64, zero := [.d (.sl true []), .d (.bool false), .d (.int .i64 0), .d (.int .i64 0), .d (.int .i64 0), .d (.int .i64 0)], k := .struct [(0, 22), (1, 4), (2, 3), (3, 3), (4, 3), (5, 3)] }
theorem ti68_f0 {i v e o : Nat} : fieldA ti68 (.ptr i v e o) 0 = some (.ptr i v e (o + 0)) := rfl
theorem ti68_v0 {cs : List Dat} {o : Nat} : fieldA ti68 (.vptr cs o) 0 = some (.vptr cs (o + 0)) := rfl
theorem ti68_f1 {i v e o : Nat} : fieldA ti68 (.ptr i v e o) 1 = some (.ptr i v e (o + 1)) := rfl
theorem ti68_v1 {cs : List Dat} {o : Nat} : fieldA ti68 (.vptr cs o) 1 = some (.vptr cs (o + 1)) := rfl
theorem ti68_f2 {i v e o : Nat} : fieldA ti68 (.ptr i v e o) 2 = some (.ptr i v e (o + 2)) := rfl
theorem ti68_v2 {cs : List Dat} {o : Nat} : fieldA ti68 (.vptr cs o) 2 = some (.vptr cs (o + 2)) := rfl
theorem ti68_f3 {i v e o : Nat} : fieldA ti68 (.ptr i v e o) 3 = some (.ptr i v e (o + 3)) := rfl
theorem ti68_v3 {cs : List Dat} {o : Nat} : fieldA ti68 (.vptr cs o) 3 = some (.vptr cs (o + 3)) := rfl
theorem ti68_f4 {i v e o : Nat} : fieldA ti68 (.ptr i v e o) 4 = some (.ptr i v e (o + 4)) := rfl
theorem ti68_v4 {cs : List Dat} {o : Nat} : fieldA ti68 (.vptr cs o) 4 = some (.vptr cs (o + 4)) := rfl
theorem ti68_f5 {i v e o : Nat} : fieldA ti68 (.ptr i v e o) 5 = some (.ptr i v e (o + 5)) := rfl
theorem ti68_v5 {cs : List Dat} {o : Nat} : fieldA ti68 (.vptr cs o) 5 = some (.vptr cs (o + 5)) := rfl
def ti71 : TI := { agg := false, size := 1, bytes := 24, zero := [.d (.sl true [])], k := .slice 4 }
def ti74 : TI := { agg := false, size := 1, bytes := 24, zero := [.d (.sl true [])], k := .slice 89 }
def ti76 : TI := { agg := true, size := 3, bytes := 56, zero := [.d (.sl true []), .d (.sl true []), .d (.int .i64 0)], k := .struct [(0, 22), (1, 74), (2, 3)] }
theorem ti76_f0 {i v e o : Nat} : fieldA ti76 (.ptr i v e o) 0 = some (.ptr i v e (o + 0)) := rfl
theorem ti76_v0 {cs : List Dat} {o : Nat} : fieldA ti76 (.vptr cs o) 0 = some (.vptr cs (o + 0)) := rfl
theorem ti76_f1 {i v e o : Nat} : fieldA ti76 (.ptr i v e o) 1 = some (.ptr i v e (o + 1)) := rfl
theorem ti76_v1 {cs : List Dat} {o : Nat} : fieldA ti76 (.vptr cs o) 1 = some (.vptr cs (o + 1)) := rfl
theorem ti76_f2 {i v e o : Nat} : fieldA ti76 (.ptr i v e o) 2 = some (.ptr i v e (o + 2)) := rfl
theorem ti76_v2 {cs : List Dat} {o : Nat} : fieldA ti76 (.vptr cs o) 2 = some (.vptr cs (o + 2)) := rfl
def ti77 : TI := { agg := true, size := 2, bytes := 16, zero := [.d (.int .i64 0), .d (.int .i64 0)], k := .array 2 3 }
def ti89 : TI := { agg := true, size := 6, bytes := 64, zero := [.d (.sl true []), .d (.bool false), .d (.int .i64 0), .d (.int .i64 0), .d (.int .i64 0), .d (.int .i64 0)], k := .struct [(0, 22), (1, 4), (2, 3), (3, 3), (4, 3), (5, 3)] }
theorem ti89_f0 {i v e o : Nat} : fieldA ti89 (.ptr i v e o) 0 = some (.ptr i v e (o + 0)) := rfl
theorem ti89_v0 {cs : List Dat} {o : Nat} : fieldA ti89 (.vptr cs o) 0 = some (.vptr cs (o + 0)) := rfl
theorem ti89_f1 {i v e o : Nat} : fieldA ti89 (.ptr i v e o) 1 = some (.ptr i v e (o + 1)) := rfl
theorem ti89_v1 {cs : List Dat} {o : Nat} : fieldA ti89 (.vptr cs o) 1 = some (.vptr cs (o + 1)) := rfl
theorem ti89_f2 {i v e o : Nat} : fieldA ti89 (.ptr i v e o) 2 = some (.ptr i v e (o + 2)) := rfl
theorem ti89_v2 {cs : List Dat} {o : Nat} : fieldA ti89 (.vptr cs o) 2 = some (.vptr cs (o + 2)) := rfl
theorem ti89_f3 {i v e o : Nat} : fieldA ti89 (.ptr i v e o) 3 = some (.ptr i v e (o + 3)) := rfl
theorem ti89_v3 {cs : List Dat} {o : Nat} : fieldA ti89 (.vptr cs o) 3 = some (.vptr cs (o + 3)) := rfl
theorem ti89_f4 {i v e o : Nat} : fieldA ti89 (.ptr i v e o) 4 = some (.ptr i v e (o + 4)) := rfl
theorem ti89_v4 {cs : List Dat} {o : Nat} : fieldA ti89 (.vptr cs o) 4 = some (.vptr cs (o + 4)) := rfl
theorem ti89_f5 {i v e o : Nat} : fieldA ti89 (.ptr i v e o) 5 = some (.ptr i v e (o + 5)) := rfl
theorem ti89_v5 {cs : List Dat} {o : Nat} : fieldA ti89 (.vptr cs o) 5 = some (.vptr cs (o + 5)) := rfl
theorem bd42 {parts : List (Nat × AV)} : buildA Try.prog ti42 parts = (fillA (fun i => (([(0, 3), (1, 3), (2, 22)] : List (Nat × TypeId))[i]?).map fun f => (f.1, Try.prog.cellsOf f.2)) [.d (.int .i64 0), .d (.int .i64 0), .d (.sl true [])] parts).map AV.agg := rfl
theorem bd52 {parts : List (Nat × AV)} : buildA Try.prog ti52 parts = (fillA (fun i => (([(0, 4), (1, 22), (2, 50), (3, 3)] : List (Nat × TypeId))[i]?).map fun f => (f.1, Try.prog.cellsOf f.2)) [.d (.bool false), .d (.sl true []), .d (.sl true []), .d (.int .i64 0)] parts).map AV.agg := rfl
theorem bd68 {parts : List (Nat × AV)} : buildA Try.prog ti68 parts = (fillA (fun i => (([(0, 22), (1, 4), (2, 3), (3, 3), (4, 3), (5, 3)] : List (Nat × TypeId))[i]?).map fun f => (f.1, Try.prog.cellsOf f.2)) [.d (.sl true []), .d (.bool false), .d (.int .i64 0), .d (.int .i64 0), .d (.int .i64 0), .d (.int .i64 0)] parts).map AV.agg := rfl
theorem bd76 {parts : List (Nat × AV)} : buildA Try.prog ti76 parts = (fillA (fun i => (([(0, 22), (1, 74), (2, 3)] : List (Nat × TypeId))[i]?).map fun f => (f.1, Try.prog.cellsOf f.2)) [.d (.sl true []), .d (.sl true []), .d (.int .i64 0)] parts).map AV.agg := rfl
theorem bd77 {parts : List (Nat × AV)} : buildA Try.prog ti77 parts = (fillA (fun i => some (i * Try.prog.cellsOf 3, Try.prog.cellsOf 3)) [.d (.int .i64 0), .d (.int .i64 0)] parts).map AV.agg := rfl
theorem bd89 {parts : List (Nat × AV)} : buildA Try.prog ti89 parts = (fillA (fun i => (([(0, 22), (1, 4), (2, 3), (3, 3), (4, 3), (5, 3)] : List (Nat × TypeId))[i]?).map fun f => (f.1, Try.prog.cellsOf f.2)) [.d (.sl true []), .d (.bool false), .d (.int .i64 0), .d (.int .i64 0), .d (.int .i64 0), .d (.int .i64 0)] parts).map AV.agg := rfl
theorem cell3 : Try.prog.cellsOf 3 = 1 := by kernel_rfl
theorem cell4 : Try.prog.cellsOf 4 = 1 := by kernel_rfl
theorem cell22 : Try.prog.cellsOf 22 = 1 := by kernel_rfl
theorem cell25 : Try.prog.cellsOf 25 = 1 := by kernel_rfl
theorem cell42 : Try.prog.cellsOf 42 = 3 := by kernel_rfl
theorem cell50 : Try.prog.cellsOf 50 = 1 := by kernel_rfl
theorem cell65 : Try.prog.cellsOf 65 = 1 := by kernel_rfl
theorem cell74 : Try.prog.cellsOf 74 = 1 := by kernel_rfl
theorem cell77 : Try.prog.cellsOf 77 = 2 := by kernel_rfl
theorem cell89 : Try.prog.cellsOf 89 = 6 := by kernel_rfl
/-! tithing/tithinglaw02.BusQuiets -/
def pol3 : Pol := { lend := fun g => !([34, 57, 63] : List Nat).contains g, keep := [1, 5, 6, 7], frz := fun _ => [], perm := fun r => [], bf := fun r => [], ret := true }
def S3 (γ : Calld) (a0 a1 : AV) (H : AHeap) (K : AV → AHeap → Prop) : Prop :=
  optA (lenSl a0) fun v1 => optA (intA .gtr v1 (.d (.int .i64 2000))) fun v2 => ifA v2 (frzLK [] H fun l5 H6 => γ 10 l5 H6 fun v3 H4 => retF [v3] H4 K) (optA (lenSl a1) fun v7 => optA (intA .gtr v7 (.d (.int .i64 6))) fun v8 => ifA v8 (frzLK [] H fun l11 H12 => γ 10 l11 H12 fun v9 H10 => retF [v9] H10 K) (frzLK [a0] H fun l15 H16 => γ 11 l15 H16 fun v13 H14 => loopA (fun X17 l18 H19 => optA (lenSl (l18.getD 0 .junk)) fun v20 => optA (intA .lss (l18.getD 2 .junk) v20) fun v21 => ifA v21 (optA (indexAddrA ti23 1 (l18.getD 0 .junk) (l18.getD 2 .junk)) fun v22 => optA (ldV false 1 v22 H19) fun v23 => optA (lenSl v23) fun v24 => optA (intA .gtr v24 (.d (.int .i64 60))) fun v25 => ifA v25 (frzLK [] H19 fun l28 H29 => γ 10 l28 H29 fun v26 H27 => retF [v26] H27 K) (optA (indexAddrA ti23 1 (l18.getD 0 .junk) (l18.getD 2 .junk)) fun v30 => optA (ldV false 1 v30 H19) fun v31 => frzLK [l18.getD 1 .junk, v31] H19 fun l34 H35 => γ 12 l34 H35 fun v32 H33 => frzLK [l18.getD 1 .junk, l18.getD 2 .junk] H33 fun l38 H39 => γ 13 l38 H39 fun v36 H37 => optA (intA .neq v36 (.d (.int .i64 0))) fun v40 => ifA v40 (retF [.d (.bool false)] H37 K) (optA (intA .add (l18.getD 2 .junk) (.d (.int .i64 1))) fun v41 => X17 [l18.getD 0 .junk, l18.getD 1 .junk, v41, l18.getD 3 .junk] H37))) (loopA (fun X42 l43 H44 => optA (intA .lss (l43.getD 3 .junk) (.d (.int .i64 2700))) fun v45 => ifA v45 (frzLK [l43.getD 1 .junk] H44 fun l48 H49 => γ 14 l48 H49 fun v46 H47 => optA (unA .not v46) fun v50 => ifA v50 (frzLK [l43.getD 1 .junk] H47 fun l53 H54 => γ 15 l53 H54 fun v51 H52 => optA (intA .neq v51 (.d (.int .i64 0))) fun v55 => ifA v55 (retF [.d (.bool false)] H52 K) (optA (intA .add (l43.getD 3 .junk) (.d (.int .i64 1))) fun v56 => X42 [l43.getD 0 .junk, l43.getD 1 .junk, l43.getD 2 .junk, v56] H52)) (frzLK [l43.getD 1 .junk] H47 fun l59 H60 => γ 14 l59 H60 fun v57 H58 => ifA v57 (frzLK [] H58 fun l63 H64 => γ 10 l63 H64 fun v61 H62 => retF [v61] H62 K) (retF [.d (.bool false)] H58 K))) (frzLK [l43.getD 1 .junk] H44 fun l67 H68 => γ 14 l67 H68 fun v65 H66 => ifA v65 (frzLK [] H66 fun l71 H72 => γ 10 l71 H72 fun v69 H70 => retF [v69] H70 K) (retF [.d (.bool false)] H66 K))) [l18.getD 0 .junk, l18.getD 1 .junk, l18.getD 2 .junk, .d (.int .i64 0)] H19)) [a1, v13, .d (.int .i64 0), .junk] H14))
noncomputable def r3_0 : List Oper := regOps Try.f3 0
noncomputable def r3_1 : List Oper := regOps Try.f3 1
noncomputable def r3_2 : List Oper := regOps Try.f3 2
noncomputable def r3_3 : List Oper := regOps Try.f3 3
noncomputable def r3_4 : List Oper := regOps Try.f3 4
noncomputable def r3_5 : List Oper := regOps Try.f3 5
noncomputable def r3_6 : List Oper := regOps Try.f3 6
noncomputable def r3_7 : List Oper := regOps Try.f3 7
noncomputable def r3_8 : List Oper := regOps Try.f3 8
noncomputable def r3_9 : List Oper := regOps Try.f3 9
noncomputable def r3_10 : List Oper := regOps Try.f3 10
noncomputable def r3_11 : List Oper := regOps Try.f3 11
noncomputable def r3_12 : List Oper := regOps Try.f3 12
noncomputable def r3_13 : List Oper := regOps Try.f3 13
noncomputable def r3_14 : List Oper := regOps Try.f3 14
noncomputable def r3_15 : List Oper := regOps Try.f3 15
noncomputable def r3_16 : List Oper := regOps Try.f3 16
noncomputable def r3_17 : List Oper := regOps Try.f3 17
noncomputable def c3 : Code := (.seq (.region 0 #[opAt r3_0 0] false) (.seq (.seq (.region 1 #[opAt r3_1 0, opAt r3_1 1, opAt r3_1 2, opAt r3_1 3, opAt r3_1 4, opAt r3_1 5, opAt r3_1 6, opAt r3_1 7] false) (.cond (.tmp 15) (.seq (.region 2 #[opAt r3_2 0, opAt r3_2 1] false) .ret) .skip)) (.seq (.region 3 #[opAt r3_3 0, opAt r3_3 1, opAt r3_3 2] false) (.seq (.seq (.region 4 #[opAt r3_4 0] false) (.block 0 (.loop (.seq (.seq (.region 5 #[opAt r3_5 0, opAt r3_5 1, opAt r3_5 2, opAt r3_5 3] false) (.cond (.tmp 22) .skip (.exit 0))) (.seq (.block 1 (.seq (.seq (.region 7 #[opAt r3_6 0, opAt r3_6 1, opAt r3_6 2, opAt r3_6 3, opAt r3_6 4, opAt r3_6 5] false) (.cond (.tmp 30) (.seq (.region 8 #[opAt r3_7 0, opAt r3_7 1] false) .ret) .skip)) (.seq (.region 9 #[opAt r3_8 0, opAt r3_8 1, opAt r3_8 2, opAt r3_8 3, opAt r3_8 4, opAt r3_8 5] false) (.seq (.region 10 #[opAt r3_9 0, opAt r3_9 1, opAt r3_9 2, opAt r3_9 3] false) (.cond (.tmp 41) (.seq (.region 11 #[opAt r3_10 0] false) .ret) .skip))))) (.region 6 #[opAt r3_11 0, opAt r3_11 1, opAt r3_11 2] false)))))) (.seq (.seq (.region 12 #[opAt r3_12 0] false) (.block 2 (.loop (.seq (.seq (.region 13 #[opAt r3_13 0, opAt r3_13 1, opAt r3_13 2, opAt r3_13 3, opAt r3_13 4, opAt r3_13 5, opAt r3_13 6] false) (.cond (.tmp 48) .skip (.exit 2))) (.seq (.block 3 (.seq (.region 15 #[opAt r3_14 0, opAt r3_14 1, opAt r3_14 2] false) (.cond (.tmp 53) (.seq (.region 16 #[opAt r3_15 0] false) .ret) .skip))) (.region 14 #[opAt r3_16 0, opAt r3_16 1, opAt r3_16 2] false)))))) (.seq (.region 17 #[opAt r3_17 0, opAt r3_17 1, opAt r3_17 2, opAt r3_17 3, opAt r3_17 4, opAt r3_17 5] false) .ret))))))
theorem c3_eq : Try.f3.body = some c3 := by kernel_rfl
theorem S3_eq (γ : Calld) (a0 a1 : AV) (H : AHeap) (K : AV → AHeap → Prop) : execC Try.prog γ pol3 Try.f3 c3 [a0, a1] H K = S3 γ a0 a1 H K := by kernel_rfl
theorem C3 {a0 a1 : AV} {H : AHeap} {K : AV → AHeap → Prop} (h : S3 (CallsA Try.prog) a0 a1 H K) : CallsA Try.prog 3 [a0, a1] H K :=
  calls_of Try.func3 (ne_of_beq_false (by kernel_rfl)) c3_eq (by kernel_rfl) (by rw [S3_eq]; exact h)
/-! tithing/tithinglaw02.BusFinds -/
def pol4 : Pol := { lend := fun g => !([34, 57, 63] : List Nat).contains g, keep := [3, 4, 5, 6, 7, 8], frz := fun _ => [], perm := fun r => [], bf := fun r => [], ret := true }
def S4 (γ : Calld) (a0 : AV) (H : AHeap) (K : AV → AHeap → Prop) : Prop :=
  optA (cvI .i64 a0) fun v1 => optA (intA .rem v1 (.d (.int .i64 41))) fun v2 => frzLK [.d (.sl true [])] H fun l5 H6 => γ 11 l5 H6 fun v3 H4 => loopA (fun X7 l8 H9 => optA (intA .lss (l8.getD 2 .junk) (l8.getD 0 .junk)) fun v10 => ifA v10 (frzLK [l8.getD 1 .junk, .d (.sl true [])] H9 fun l13 H14 => γ 12 l13 H14 fun v11 H12 => frzLK [l8.getD 1 .junk, l8.getD 2 .junk] H12 fun l17 H18 => γ 13 l17 H18 fun v15 H16 => optA (intA .add (l8.getD 2 .junk) (.d (.int .i64 1))) fun v19 => X7 [l8.getD 0 .junk, l8.getD 1 .junk, v19, l8.getD 3 .junk, l8.getD 4 .junk, l8.getD 5 .junk] H16) (loopA (fun X20 l21 H22 => optA (intA .lss (l21.getD 3 .junk) (.d (.int .i64 2700))) fun v23 => ifA v23 (frzLK [l21.getD 1 .junk] H22 fun l26 H27 => γ 14 l26 H27 fun v24 H25 => optA (unA .not v24) fun v28 => ifA v28 (frzLK [l21.getD 1 .junk] H25 fun l31 H32 => γ 15 l31 H32 fun v29 H30 => optA (intA .add (l21.getD 3 .junk) (.d (.int .i64 1))) fun v33 => X20 [l21.getD 0 .junk, l21.getD 1 .junk, l21.getD 2 .junk, v33, l21.getD 4 .junk, l21.getD 5 .junk] H30) (newK H25 (fun n36 => some (.map n36, [(n36, .map [] 0)])) fun v34 H35 => loopA (fun X37 l38 H39 => optA (intA .lss (l38.getD 5 .junk) (l38.getD 0 .junk)) fun v40 => ifA v40 (frzLK [l38.getD 1 .junk, l38.getD 5 .junk] H39 fun l43 H44 => γ 16 l43 H44 fun v41 H42 => frzLK [l38.getD 1 .junk, l38.getD 5 .junk] H42 fun l47 H48 => γ 17 l47 H48 fun v45 H46 => optA (intA .neq v45 (.d (.int .i64 2))) fun v49 => ifA v49 (retF [.d (.bool false)] H46 K) (optA (intA .lss v41 (.d (.int .i64 1))) fun v50 => ifA v50 (retF [.d (.bool false)] H46 K) (optA (intA .gtr v41 (.d (.int .i64 253))) fun v51 => ifA v51 (retF [.d (.bool false)] H46 K) (optA (lookKA Try.prog 3 v41 (fun kk => lookA (.d (.bool false)) (l38.getD 4 .junk) kk false H46)) fun v52 => ifA v52 (retF [.d (.bool false)] H46 K) (stepK (muA Try.prog 3 (l38.getD 4 .junk) v41 (.d (.bool true)) H46) H46 fun v53 H54 => optA (intA .add (l38.getD 5 .junk) (.d (.int .i64 1))) fun v55 => X37 [l38.getD 0 .junk, l38.getD 1 .junk, l38.getD 2 .junk, l38.getD 3 .junk, l38.getD 4 .junk, v55] H54))))) (frzLK [l38.getD 1 .junk] H39 fun l58 H59 => γ 14 l58 H59 fun v56 H57 => ifA v56 (frzLK [] H57 fun l62 H63 => γ 10 l62 H63 fun v60 H61 => retF [v60] H61 K) (retF [.d (.bool false)] H57 K))) [l21.getD 0 .junk, l21.getD 1 .junk, l21.getD 2 .junk, l21.getD 3 .junk, v34, .d (.int .i64 0)] H35)) (newK H22 (fun n66 => some (.map n66, [(n66, .map [] 0)])) fun v64 H65 => loopA (fun X67 l68 H69 => optA (intA .lss (l68.getD 5 .junk) (l68.getD 0 .junk)) fun v70 => ifA v70 (frzLK [l68.getD 1 .junk, l68.getD 5 .junk] H69 fun l73 H74 => γ 16 l73 H74 fun v71 H72 => frzLK [l68.getD 1 .junk, l68.getD 5 .junk] H72 fun l77 H78 => γ 17 l77 H78 fun v75 H76 => optA (intA .neq v75 (.d (.int .i64 2))) fun v79 => ifA v79 (retF [.d (.bool false)] H76 K) (optA (intA .lss v71 (.d (.int .i64 1))) fun v80 => ifA v80 (retF [.d (.bool false)] H76 K) (optA (intA .gtr v71 (.d (.int .i64 253))) fun v81 => ifA v81 (retF [.d (.bool false)] H76 K) (optA (lookKA Try.prog 3 v71 (fun kk => lookA (.d (.bool false)) (l68.getD 4 .junk) kk false H76)) fun v82 => ifA v82 (retF [.d (.bool false)] H76 K) (stepK (muA Try.prog 3 (l68.getD 4 .junk) v71 (.d (.bool true)) H76) H76 fun v83 H84 => optA (intA .add (l68.getD 5 .junk) (.d (.int .i64 1))) fun v85 => X67 [l68.getD 0 .junk, l68.getD 1 .junk, l68.getD 2 .junk, l68.getD 3 .junk, l68.getD 4 .junk, v85] H84))))) (frzLK [l68.getD 1 .junk] H69 fun l88 H89 => γ 14 l88 H89 fun v86 H87 => ifA v86 (frzLK [] H87 fun l92 H93 => γ 10 l92 H93 fun v90 H91 => retF [v90] H91 K) (retF [.d (.bool false)] H87 K))) [l21.getD 0 .junk, l21.getD 1 .junk, l21.getD 2 .junk, l21.getD 3 .junk, v64, .d (.int .i64 0)] H65)) [l8.getD 0 .junk, l8.getD 1 .junk, l8.getD 2 .junk, .d (.int .i64 0), l8.getD 4 .junk, l8.getD 5 .junk] H9)) [v2, v3, .d (.int .i64 0), .junk, .junk, .junk] H4
noncomputable def r4_0 : List Oper := regOps Try.f4 0
noncomputable def r4_1 : List Oper := regOps Try.f4 1
noncomputable def r4_2 : List Oper := regOps Try.f4 2
noncomputable def r4_3 : List Oper := regOps Try.f4 3
noncomputable def r4_4 : List Oper := regOps Try.f4 4
noncomputable def r4_5 : List Oper := regOps Try.f4 5
noncomputable def r4_6 : List Oper := regOps Try.f4 6
noncomputable def r4_7 : List Oper := regOps Try.f4 7
noncomputable def r4_8 : List Oper := regOps Try.f4 8
noncomputable def r4_9 : List Oper := regOps Try.f4 9
noncomputable def r4_10 : List Oper := regOps Try.f4 10
noncomputable def r4_11 : List Oper := regOps Try.f4 11
noncomputable def r4_12 : List Oper := regOps Try.f4 12
noncomputable def r4_13 : List Oper := regOps Try.f4 13
noncomputable def r4_14 : List Oper := regOps Try.f4 14
noncomputable def r4_15 : List Oper := regOps Try.f4 15
noncomputable def r4_16 : List Oper := regOps Try.f4 16
noncomputable def r4_17 : List Oper := regOps Try.f4 17
noncomputable def r4_18 : List Oper := regOps Try.f4 18
noncomputable def r4_19 : List Oper := regOps Try.f4 19
noncomputable def r4_20 : List Oper := regOps Try.f4 20
noncomputable def c4 : Code := (.seq (.region 0 #[opAt r4_0 0] false) (.seq (.region 1 #[opAt r4_1 0, opAt r4_1 1, opAt r4_1 2, opAt r4_1 3] false) (.seq (.region 2 #[opAt r4_2 0, opAt r4_2 1] false) (.seq (.seq (.region 3 #[opAt r4_3 0] false) (.block 0 (.loop (.seq (.seq (.region 4 #[opAt r4_4 0, opAt r4_4 1, opAt r4_4 2] false) (.cond (.tmp 16) .skip (.exit 0))) (.seq (.block 1 (.seq (.region 6 #[opAt r4_5 0, opAt r4_5 1] false) (.region 7 #[opAt r4_6 0, opAt r4_6 1, opAt r4_6 2] false))) (.region 5 #[opAt r4_7 0, opAt r4_7 1, opAt r4_7 2] false)))))) (.seq (.seq (.region 8 #[opAt r4_8 0] false) (.block 2 (.loop (.seq (.seq (.region 9 #[opAt r4_9 0, opAt r4_9 1, opAt r4_9 2, opAt r4_9 3, opAt r4_9 4, opAt r4_9 5, opAt r4_9 6] false) (.cond (.tmp 30) .skip (.exit 2))) (.seq (.block 3 (.region 11 #[opAt r4_10 0, opAt r4_10 1] false)) (.region 10 #[opAt r4_11 0, opAt r4_11 1, opAt r4_11 2] false)))))) (.seq (.region 12 #[opAt r4_12 0, opAt r4_12 1] false) (.seq (.seq (.region 13 #[opAt r4_13 0] false) (.block 4 (.loop (.seq (.seq (.region 14 #[opAt r4_14 0, opAt r4_14 1, opAt r4_14 2] false) (.cond (.tmp 38) .skip (.exit 4))) (.seq (.block 5 (.seq (.region 16 #[opAt r4_15 0, opAt r4_15 1, opAt r4_15 2, opAt r4_15 3] false) (.seq (.seq (.region 17 #[opAt r4_16 0, opAt r4_16 1, opAt r4_16 2, opAt r4_16 3, opAt r4_16 4, opAt r4_16 5, opAt r4_16 6, opAt r4_16 7, opAt r4_16 8, opAt r4_16 9, opAt r4_16 10, opAt r4_16 11, opAt r4_16 12, opAt r4_16 13, opAt r4_16 14, opAt r4_16 15, opAt r4_16 16] false) (.cond (.tmp 60) (.seq (.region 18 #[opAt r4_17 0] false) .ret) .skip)) (.region 19 #[opAt r4_18 0, opAt r4_18 1, opAt r4_18 2] false)))) (.region 15 #[opAt r4_19 0, opAt r4_19 1, opAt r4_19 2] false)))))) (.seq (.region 20 #[opAt r4_20 0, opAt r4_20 1, opAt r4_20 2, opAt r4_20 3, opAt r4_20 4, opAt r4_20 5] false) .ret))))))))
theorem c4_eq : Try.f4.body = some c4 := by kernel_rfl
theorem S4_eq (γ : Calld) (a0 : AV) (H : AHeap) (K : AV → AHeap → Prop) : execC Try.prog γ pol4 Try.f4 c4 [a0] H K = S4 γ a0 H K := by kernel_rfl
theorem C4 {a0 : AV} {H : AHeap} {K : AV → AHeap → Prop} (h : S4 (CallsA Try.prog) a0 H K) : CallsA Try.prog 4 [a0] H K :=
  calls_of Try.func4 (ne_of_beq_false (by kernel_rfl)) c4_eq (by kernel_rfl) (by rw [S4_eq]; exact h)
/-! tithing/tithinglaw02.BusShares -/
def pol7 : Pol := { lend := fun g => !([34, 57, 63] : List Nat).contains g, keep := [0, 5, 8, 9, 10], frz := fun _ => [], perm := fun r => if r = 16 then [0, 1, 2, 3, 4, 5, 6, 7, 8] else [], bf := fun r => if r = 16 then [0, 0, 3, 7, 0, 0, 48, 112, 255] else [], ret := true }
def S7 (γ : Calld) (a0 a1 : AV) (H : AHeap) (K : AV → AHeap → Prop) : Prop :=
  optA (lenSl a0) fun v1 => optA (intA .gtr v1 (.d (.int .i64 60))) fun v2 => ifA v2 (frzLK [] H fun l5 H6 => γ 10 l5 H6 fun v3 H4 => retF [v3] H4 K) (optA (lenSl a1) fun v7 => optA (intA .gtr v7 (.d (.int .i64 400))) fun v8 => ifA v8 (frzLK [] H fun l11 H12 => γ 10 l11 H12 fun v9 H10 => retF [v9] H10 K) (frzLK [a0, a1] H fun l15 H16 => γ 23 l15 H16 fun v13 H14 => optA (extractA v13 0) fun v17 => optA (extractA v13 1) fun v18 => optA (extractA v13 2) fun v19 => optA (intA .neq v19 (.d (.int .i64 0))) fun v20 => ifA v20 (optA (lenSl v17) fun v21 => optA (intA .eql v21 (.d (.int .i64 0))) fun v22 => ifA v22 (frzLK [] H14 fun l25 H26 => γ 10 l25 H26 fun v23 H24 => retF [v23] H24 K) (retF [.d (.bool false)] H14 K)) (optA (lenSl a0) fun v27 => newK H14 (fun n30 => mkSlA ti3 v27 v27 n30) fun v28 H29 => loopA (fun X31 l32 H33 => optA (lenSl (l32.getD 1 .junk)) fun v34 => optA (intA .lss (l32.getD 3 .junk) v34) fun v35 => ifA v35 (optA (indexAddrA ti22 1 (l32.getD 1 .junk) (l32.getD 3 .junk)) fun v36 => optA (ldV false 1 v36 H33) fun v37 => optA (intA .lss v37 (.d (.int .i64 0))) fun v38 => ifA v38 (retF [.d (.bool false)] H33 K) (optA (indexAddrA ti22 1 (l32.getD 1 .junk) (l32.getD 3 .junk)) fun v39 => optA (ldV false 1 v39 H33) fun v40 => optA (lenSl (l32.getD 0 .junk)) fun v41 => optA (intA .geq v40 v41) fun v42 => ifA v42 (retF [.d (.bool false)] H33 K) (optA (indexAddrA ti22 1 (l32.getD 1 .junk) (l32.getD 3 .junk)) fun v43 => optA (ldV false 1 v43 H33) fun v44 => optA (indexAddrA ti22 1 (l32.getD 2 .junk) v44) fun v45 => optA (ldV false 1 v45 H33) fun v46 => optA (intA .add v46 (.d (.int .i64 1))) fun v47 => optA (indexAddrA ti22 1 (l32.getD 2 .junk) v44) fun v48 => stepK (stoA false 1 v48 v47 H33) H33 fun v49 H50 => optA (intA .add (l32.getD 3 .junk) (.d (.int .i64 1))) fun v51 => X31 [l32.getD 0 .junk, l32.getD 1 .junk, l32.getD 2 .junk, v51, l32.getD 4 .junk] H50))) (loopA (fun X52 l53 H54 => optA (lenSl (l53.getD 0 .junk)) fun v55 => optA (intA .lss (l53.getD 4 .junk) v55) fun v56 => ifA v56 (drA true (optA (indexAddrA ti22 1 (l53.getD 2 .junk) (l53.getD 4 .junk)) fun v57 => optA (ldV false 1 v57 H54) fun v58 => optA (indexAddrA ti22 1 (l53.getD 0 .junk) (l53.getD 4 .junk)) fun v59 => optA (ldV false 1 v59 H54) fun v60 => optA (intA .neq v58 v60) fun v61 => ifA v61 (retF [.d (.bool false)] H54 K) (optA (intA .add (l53.getD 4 .junk) (.d (.int .i64 1))) fun v62 => X52 [l53.getD 0 .junk, l53.getD 1 .junk, l53.getD 2 .junk, l53.getD 3 .junk, v62] H54))) (frzLK [] H54 fun l65 H66 => γ 10 l65 H66 fun v63 H64 => retF [v63] H64 K)) [l32.getD 0 .junk, l32.getD 1 .junk, l32.getD 2 .junk, l32.getD 3 .junk, .d (.int .i64 0)] H33)) [a0, v17, v28, .d (.int .i64 0), .junk] H29)))
noncomputable def r7_0 : List Oper := regOps Try.f7 0
noncomputable def r7_1 : List Oper := regOps Try.f7 1
noncomputable def r7_2 : List Oper := regOps Try.f7 2
noncomputable def r7_3 : List Oper := regOps Try.f7 3
noncomputable def r7_4 : List Oper := regOps Try.f7 4
noncomputable def r7_5 : List Oper := regOps Try.f7 5
noncomputable def r7_6 : List Oper := regOps Try.f7 6
noncomputable def r7_7 : List Oper := regOps Try.f7 7
noncomputable def r7_8 : List Oper := regOps Try.f7 8
noncomputable def r7_9 : List Oper := regOps Try.f7 9
noncomputable def r7_10 : List Oper := regOps Try.f7 10
noncomputable def r7_11 : List Oper := regOps Try.f7 11
noncomputable def r7_12 : List Oper := regOps Try.f7 12
noncomputable def r7_13 : List Oper := regOps Try.f7 13
noncomputable def r7_14 : List Oper := regOps Try.f7 14
noncomputable def r7_15 : List Oper := regOps Try.f7 15
noncomputable def r7_16 : List Oper := regOps Try.f7 16
noncomputable def r7_17 : List Oper := regOps Try.f7 17
noncomputable def r7_18 : List Oper := regOps Try.f7 18
noncomputable def c7 : Code := (.seq (.region 0 #[opAt r7_0 0] false) (.seq (.seq (.region 1 #[opAt r7_1 0, opAt r7_1 1, opAt r7_1 2, opAt r7_1 3, opAt r7_1 4, opAt r7_1 5, opAt r7_1 6, opAt r7_1 7] false) (.cond (.tmp 18) (.seq (.region 2 #[opAt r7_2 0, opAt r7_2 1] false) .ret) .skip)) (.seq (.region 3 #[opAt r7_3 0, opAt r7_3 1, opAt r7_3 2, opAt r7_3 3, opAt r7_3 4, opAt r7_3 5, opAt r7_3 6, opAt r7_3 7, opAt r7_3 8, opAt r7_3 9] false) (.seq (.seq (.region 4 #[opAt r7_4 0, opAt r7_4 1] false) (.cond (.tmp 28) (.seq (.region 5 #[opAt r7_5 0, opAt r7_5 1, opAt r7_5 2, opAt r7_5 3, opAt r7_5 4, opAt r7_5 5, opAt r7_5 6] false) .ret) .skip)) (.seq (.region 6 #[opAt r7_6 0, opAt r7_6 1, opAt r7_6 2, opAt r7_6 3] false) (.seq (.seq (.region 7 #[opAt r7_7 0] false) (.block 0 (.loop (.seq (.seq (.region 8 #[opAt r7_8 0, opAt r7_8 1, opAt r7_8 2, opAt r7_8 3] false) (.cond (.tmp 41) .skip (.exit 0))) (.seq (.block 1 (.seq (.seq (.region 10 #[opAt r7_9 0, opAt r7_9 1, opAt r7_9 2, opAt r7_9 3, opAt r7_9 4, opAt r7_9 5, opAt r7_9 6, opAt r7_9 7, opAt r7_9 8, opAt r7_9 9, opAt r7_9 10, opAt r7_9 11, opAt r7_9 12, opAt r7_9 13] false) (.cond (.tmp 57) (.seq (.region 11 #[opAt r7_10 0] false) .ret) .skip)) (.region 12 #[opAt r7_11 0, opAt r7_11 1, opAt r7_11 2, opAt r7_11 3, opAt r7_11 4, opAt r7_11 5, opAt r7_11 6, opAt r7_11 7, opAt r7_11 8, opAt r7_11 9] false))) (.region 9 #[opAt r7_12 0, opAt r7_12 1, opAt r7_12 2] false)))))) (.seq (.seq (.region 13 #[opAt r7_13 0] false) (.block 2 (.loop (.seq (.seq (.region 14 #[opAt r7_14 0, opAt r7_14 1, opAt r7_14 2, opAt r7_14 3] false) (.cond (.tmp 70) .skip (.exit 2))) (.seq (.block 3 (.seq (.region 16 #[opAt r7_15 0, opAt r7_15 1, opAt r7_15 2, opAt r7_15 3, opAt r7_15 4, opAt r7_15 5, opAt r7_15 6, opAt r7_15 7, opAt r7_15 8] true) (.cond (.tmp 81) (.seq (.region 17 #[opAt r7_16 0] false) .ret) .skip))) (.region 15 #[opAt r7_17 0, opAt r7_17 1, opAt r7_17 2] false)))))) (.seq (.region 18 #[opAt r7_18 0, opAt r7_18 1] false) .ret))))))))
theorem c7_eq : Try.f7.body = some c7 := by kernel_rfl
theorem S7_eq (γ : Calld) (a0 a1 : AV) (H : AHeap) (K : AV → AHeap → Prop) : execC Try.prog γ pol7 Try.f7 c7 [a0, a1] H K = S7 γ a0 a1 H K := by kernel_rfl
theorem C7 {a0 a1 : AV} {H : AHeap} {K : AV → AHeap → Prop} (h : S7 (CallsA Try.prog) a0 a1 H K) : CallsA Try.prog 7 [a0, a1] H K :=
  calls_of Try.func7 (ne_of_beq_false (by kernel_rfl)) c7_eq (by kernel_rfl) (by rw [S7_eq]; exact h)
/-! tithing/tithinglaw02.BusNils -/
def pol8 : Pol := { lend := fun g => !([34, 57, 63] : List Nat).contains g, keep := [0, 1, 5, 6], frz := fun _ => [], perm := fun r => [], bf := fun r => [], ret := true }
def S8 (γ : Calld) (a0 a1 : AV) (H : AHeap) (K : AV → AHeap → Prop) : Prop :=
  stepK (bdA Try.prog ti52 [] [] H) H fun v1 H2 => newK H2 (fun n5 => boxA v1 n5) fun v3 H4 => newK H4 (fun n8 => bsA ti25 2 [0, 1] [.nilptr, v3] H4 n8) fun v6 H7 => loopA (fun X9 l10 H11 => optA (lenSl (l10.getD 2 .junk)) fun v12 => optA (intA .lss (l10.getD 3 .junk) v12) fun v13 => ifA v13 (optA (indexAddrA ti53 1 (l10.getD 2 .junk) (l10.getD 3 .junk)) fun v14 => optA (ldV false 1 v14 H11) fun v15 => frzLK [v15, .d (.sl true [])] H11 fun l18 H19 => γ 12 l18 H19 fun v16 H17 => optA (extractA v16 0) fun v20 => optA (extractA v16 1) fun v21 => optA (intA .neq v20 (.d (.int .i64 0))) fun v22 => ifA v22 (retF [.d (.bool false)] H17 K) (optA (intA .neq v21 (.d (.int .i64 7))) fun v23 => ifA v23 (retF [.d (.bool false)] H17 K) (frzLK [v15, l10.getD 0 .junk, l10.getD 1 .junk] H17 fun l26 H27 => γ 24 l26 H27 fun v24 H25 => optA (intA .neq v24 (.d (.int .i64 7))) fun v28 => ifA v28 (retF [.d (.bool false)] H25 K) (frzLK [v15, l10.getD 0 .junk] H25 fun l31 H32 => γ 13 l31 H32 fun v29 H30 => optA (intA .neq v29 (.d (.int .i64 7))) fun v33 => ifA v33 (retF [.d (.bool false)] H30 K) (frzLK [v15] H30 fun l36 H37 => γ 15 l36 H37 fun v34 H35 => optA (intA .neq v34 (.d (.int .i64 7))) fun v38 => ifA v38 (retF [.d (.bool false)] H35 K) (frzLK [v15, l10.getD 0 .junk] H35 fun l41 H42 => γ 16 l41 H42 fun v39 H40 => optA (intA .neq v39 (.d (.int .i64 0))) fun v43 => ifA v43 (retF [.d (.bool false)] H40 K) (frzLK [v15] H40 fun l46 H47 => γ 25 l46 H47 fun v44 H45 => optA (intA .neq v44 (.d (.int .i64 0))) fun v48 => ifA v48 (retF [.d (.bool false)] H45 K) (frzLK [v15] H45 fun l51 H52 => γ 21 l51 H52 fun v49 H50 => optA (lenSl v49) fun v53 => optA (intA .neq v53 (.d (.int .i64 0))) fun v54 => ifA v54 (retF [.d (.bool false)] H50 K) (frzLK [v15] H50 fun l57 H58 => γ 14 l57 H58 fun v55 H56 => ifA v55 (retF [.d (.bool false)] H56 K) (frzLK [v15] H56 fun l61 H62 => γ 26 l61 H62 fun v59 H60 => optA (nilA 3 .neq v59 .nilptr) fun v63 => ifA v63 (retF [.d (.bool false)] H60 K) (optA (intA .add (l10.getD 3 .junk) (.d (.int .i64 1))) fun v64 => X9 [l10.getD 0 .junk, l10.getD 1 .junk, l10.getD 2 .junk, v64] H60))))))))))) (frzLK [.nilptr, .nilptr] H11 fun l67 H68 => γ 27 l67 H68 fun v65 H66 => ifA v65 (frzLK [] H66 fun l71 H72 => γ 10 l71 H72 fun v69 H70 => retF [v69] H70 K) (retF [.d (.bool false)] H66 K))) [a0, a1, v6, .d (.int .i64 0)] H7
noncomputable def r8_0 : List Oper := regOps Try.f8 0
noncomputable def r8_1 : List Oper := regOps Try.f8 1
noncomputable def r8_2 : List Oper := regOps Try.f8 2
noncomputable def r8_3 : List Oper := regOps Try.f8 3
noncomputable def r8_4 : List Oper := regOps Try.f8 4
noncomputable def r8_5 : List Oper := regOps Try.f8 5
noncomputable def r8_6 : List Oper := regOps Try.f8 6
noncomputable def r8_7 : List Oper := regOps Try.f8 7
noncomputable def r8_8 : List Oper := regOps Try.f8 8
noncomputable def r8_9 : List Oper := regOps Try.f8 9
noncomputable def r8_10 : List Oper := regOps Try.f8 10
noncomputable def r8_11 : List Oper := regOps Try.f8 11
noncomputable def c8 : Code := (.seq (.region 0 #[opAt r8_0 0] false) (.seq (.region 1 #[opAt r8_1 0, opAt r8_1 1, opAt r8_1 2, opAt r8_1 3] false) (.seq (.seq (.region 2 #[opAt r8_2 0] false) (.block 0 (.loop (.seq (.seq (.region 3 #[opAt r8_3 0, opAt r8_3 1, opAt r8_3 2, opAt r8_3 3] false) (.cond (.tmp 16) .skip (.exit 0))) (.seq (.block 1 (.seq (.region 5 #[opAt r8_4 0, opAt r8_4 1, opAt r8_4 2, opAt r8_4 3, opAt r8_4 4] false) (.seq (.region 6 #[opAt r8_5 0, opAt r8_5 1, opAt r8_5 2, opAt r8_5 3, opAt r8_5 4, opAt r8_5 5, opAt r8_5 6] false) (.seq (.seq (.region 7 #[opAt r8_6 0, opAt r8_6 1, opAt r8_6 2, opAt r8_6 3, opAt r8_6 4, opAt r8_6 5, opAt r8_6 6, opAt r8_6 7, opAt r8_6 8, opAt r8_6 9, opAt r8_6 10, opAt r8_6 11, opAt r8_6 12, opAt r8_6 13, opAt r8_6 14, opAt r8_6 15, opAt r8_6 16, opAt r8_6 17, opAt r8_6 18, opAt r8_6 19, opAt r8_6 20, opAt r8_6 21, opAt r8_6 22, opAt r8_6 23] false) (.cond (.tmp 51) (.seq (.region 8 #[opAt r8_7 0] false) .ret) .skip)) (.seq (.region 9 #[opAt r8_8 0, opAt r8_8 1, opAt r8_8 2, opAt r8_8 3, opAt r8_8 4, opAt r8_8 5, opAt r8_8 6, opAt r8_8 7, opAt r8_8 8, opAt r8_8 9, opAt r8_8 10, opAt r8_8 11, opAt r8_8 12, opAt r8_8 13, opAt r8_8 14, opAt r8_8 15, opAt r8_8 16, opAt r8_8 17, opAt r8_8 18, opAt r8_8 19, opAt r8_8 20, opAt r8_8 21, opAt r8_8 22, opAt r8_8 23] false) (.cond (.tmp 75) (.seq (.region 10 #[opAt r8_9 0] false) .ret) .skip)))))) (.region 4 #[opAt r8_10 0, opAt r8_10 1, opAt r8_10 2] false)))))) (.seq (.region 11 #[opAt r8_11 0, opAt r8_11 1, opAt r8_11 2, opAt r8_11 3, opAt r8_11 4] false) .ret))))
theorem c8_eq : Try.f8.body = some c8 := by kernel_rfl
theorem S8_eq (γ : Calld) (a0 a1 : AV) (H : AHeap) (K : AV → AHeap → Prop) : execC Try.prog γ pol8 Try.f8 c8 [a0, a1] H K = S8 γ a0 a1 H K := by kernel_rfl
theorem C8 {a0 a1 : AV} {H : AHeap} {K : AV → AHeap → Prop} (h : S8 (CallsA Try.prog) a0 a1 H K) : CallsA Try.prog 8 [a0, a1] H K :=
  calls_of Try.func8 (ne_of_beq_false (by kernel_rfl)) c8_eq (by kernel_rfl) (by rw [S8_eq]; exact h)
/-! tithing/tithinglaw02.Awake -/
def pol10 : Pol := { lend := fun g => !([34, 57, 63] : List Nat).contains g, keep := [1, 2, 5], frz := fun _ => [], perm := fun r => [], bf := fun r => [], ret := true }
def S10 (γ : Calld) (H : AHeap) (K : AV → AHeap → Prop) : Prop :=
  frzLK [.d (.sl true [])] H fun l3 H4 => γ 11 l3 H4 fun v1 H2 => loopA (fun X5 l6 H7 => optA (intA .lss (l6.getD 1 .junk) (.d (.int .i64 3))) fun v8 => ifA v8 (frzLK [l6.getD 0 .junk, .d (.sl true [])] H7 fun l11 H12 => γ 12 l11 H12 fun v9 H10 => optA (extractA v9 0) fun v13 => optA (extractA v9 1) fun v14 => optA (intA .neq v13 (l6.getD 1 .junk)) fun v15 => ifA v15 (retF [.d (.bool false)] H10 K) (optA (intA .neq v14 (.d (.int .i64 0))) fun v16 => ifA v16 (retF [.d (.bool false)] H10 K) (frzLK [l6.getD 0 .junk, v13] H10 fun l19 H20 => γ 13 l19 H20 fun v17 H18 => optA (intA .neq v17 (.d (.int .i64 0))) fun v21 => ifA v21 (retF [.d (.bool false)] H18 K) (optA (intA .add (l6.getD 1 .junk) (.d (.int .i64 1))) fun v22 => X5 [l6.getD 0 .junk, v22, l6.getD 2 .junk] H18)))) (loopA (fun X23 l24 H25 => optA (intA .lss (l24.getD 2 .junk) (.d (.int .i64 30))) fun v26 => ifA v26 (frzLK [l24.getD 0 .junk] H25 fun l29 H30 => γ 14 l29 H30 fun v27 H28 => optA (unA .not v27) fun v31 => ifA v31 (frzLK [l24.getD 0 .junk] H28 fun l34 H35 => γ 15 l34 H35 fun v32 H33 => optA (intA .add (l24.getD 2 .junk) (.d (.int .i64 1))) fun v36 => X23 [l24.getD 0 .junk, l24.getD 1 .junk, v36] H33) (frzLK [l24.getD 0 .junk] H28 fun l39 H40 => γ 14 l39 H40 fun v37 H38 => ifA v37 (frzLK [l24.getD 0 .junk, .d (.int .i64 0)] H38 fun l43 H44 => γ 16 l43 H44 fun v41 H42 => optA (intA .eql v41 (.d (.int .i64 1))) fun v45 => ifA v45 (frzLK [l24.getD 0 .junk, .d (.int .i64 1)] H42 fun l48 H49 => γ 16 l48 H49 fun v46 H47 => optA (intA .eql v46 (.d (.int .i64 2))) fun v50 => ifA v50 (frzLK [l24.getD 0 .junk, .d (.int .i64 2)] H47 fun l53 H54 => γ 16 l53 H54 fun v51 H52 => optA (intA .eql v51 (.d (.int .i64 3))) fun v55 => retF [v55] H52 K) (retF [.d (.bool false)] H47 K)) (retF [.d (.bool false)] H42 K)) (retF [.d (.bool false)] H38 K))) (frzLK [l24.getD 0 .junk] H25 fun l58 H59 => γ 14 l58 H59 fun v56 H57 => ifA v56 (frzLK [l24.getD 0 .junk, .d (.int .i64 0)] H57 fun l62 H63 => γ 16 l62 H63 fun v60 H61 => optA (intA .eql v60 (.d (.int .i64 1))) fun v64 => ifA v64 (frzLK [l24.getD 0 .junk, .d (.int .i64 1)] H61 fun l67 H68 => γ 16 l67 H68 fun v65 H66 => optA (intA .eql v65 (.d (.int .i64 2))) fun v69 => ifA v69 (frzLK [l24.getD 0 .junk, .d (.int .i64 2)] H66 fun l72 H73 => γ 16 l72 H73 fun v70 H71 => optA (intA .eql v70 (.d (.int .i64 3))) fun v74 => retF [v74] H71 K) (retF [.d (.bool false)] H66 K)) (retF [.d (.bool false)] H61 K)) (retF [.d (.bool false)] H57 K))) [l6.getD 0 .junk, l6.getD 1 .junk, .d (.int .i64 0)] H7)) [v1, .d (.int .i64 0), .junk] H2
noncomputable def r10_0 : List Oper := regOps Try.f10 0
noncomputable def r10_1 : List Oper := regOps Try.f10 1
noncomputable def r10_2 : List Oper := regOps Try.f10 2
noncomputable def r10_3 : List Oper := regOps Try.f10 3
noncomputable def r10_4 : List Oper := regOps Try.f10 4
noncomputable def r10_5 : List Oper := regOps Try.f10 5
noncomputable def r10_6 : List Oper := regOps Try.f10 6
noncomputable def r10_7 : List Oper := regOps Try.f10 7
noncomputable def r10_8 : List Oper := regOps Try.f10 8
noncomputable def r10_9 : List Oper := regOps Try.f10 9
noncomputable def r10_10 : List Oper := regOps Try.f10 10
noncomputable def r10_11 : List Oper := regOps Try.f10 11
noncomputable def r10_12 : List Oper := regOps Try.f10 12
noncomputable def c10 : Code := (.seq (.region 0 #[opAt r10_0 0] false) (.seq (.region 1 #[opAt r10_1 0, opAt r10_1 1] false) (.seq (.seq (.region 2 #[opAt r10_2 0] false) (.block 0 (.loop (.seq (.seq (.region 3 #[opAt r10_3 0, opAt r10_3 1] false) (.cond (.tmp 8) .skip (.exit 0))) (.seq (.block 1 (.seq (.region 5 #[opAt r10_4 0, opAt r10_4 1, opAt r10_4 2, opAt r10_4 3, opAt r10_4 4, opAt r10_4 5, opAt r10_4 6] false) (.seq (.region 6 #[opAt r10_5 0, opAt r10_5 1, opAt r10_5 2, opAt r10_5 3, opAt r10_5 4, opAt r10_5 5, opAt r10_5 6, opAt r10_5 7, opAt r10_5 8, opAt r10_5 9, opAt r10_5 10, opAt r10_5 11, opAt r10_5 12] false) (.cond (.tmp 28) (.seq (.region 7 #[opAt r10_6 0] false) .ret) .skip)))) (.region 4 #[opAt r10_7 0, opAt r10_7 1, opAt r10_7 2] false)))))) (.seq (.seq (.region 8 #[opAt r10_8 0] false) (.block 2 (.loop (.seq (.seq (.region 9 #[opAt r10_9 0, opAt r10_9 1, opAt r10_9 2, opAt r10_9 3, opAt r10_9 4, opAt r10_9 5, opAt r10_9 6] false) (.cond (.tmp 35) .skip (.exit 2))) (.seq (.block 3 (.region 11 #[opAt r10_10 0, opAt r10_10 1] false)) (.region 10 #[opAt r10_11 0, opAt r10_11 1, opAt r10_11 2] false)))))) (.seq (.region 12 #[opAt r10_12 0, opAt r10_12 1, opAt r10_12 2, opAt r10_12 3, opAt r10_12 4, opAt r10_12 5, opAt r10_12 6, opAt r10_12 7, opAt r10_12 8, opAt r10_12 9, opAt r10_12 10, opAt r10_12 11, opAt r10_12 12, opAt r10_12 13, opAt r10_12 14, opAt r10_12 15, opAt r10_12 16, opAt r10_12 17] false) .ret)))))
theorem c10_eq : Try.f10.body = some c10 := by kernel_rfl
theorem S10_eq (γ : Calld) (H : AHeap) (K : AV → AHeap → Prop) : execC Try.prog γ pol10 Try.f10 c10 [] H K = S10 γ H K := by kernel_rfl
theorem C10 {H : AHeap} {K : AV → AHeap → Prop} (h : S10 (CallsA Try.prog) H K) : CallsA Try.prog 10 [] H K :=
  calls_of Try.func10 (ne_of_beq_false (by kernel_rfl)) c10_eq (by kernel_rfl) (by rw [S10_eq]; exact h)
/-! tithing/bus.New -/
def pol11 : Pol := { lend := fun g => !([34, 57, 63] : List Nat).contains g, keep := [], frz := fun _ => [], perm := fun r => [], bf := fun r => [], ret := true }
def S11 (γ : Calld) (a0 : AV) (H : AHeap) (K : AV → AHeap → Prop) : Prop :=
  frzLK [a0] H fun l3 H4 => γ 30 l3 H4 fun v1 H2 => frzLK [v1] H2 fun l7 H8 => γ 29 l7 H8 fun v5 H6 => stepK (bdA Try.prog ti52 [0, 1] [.d (.bool true), v5] H6) H6 fun v9 H10 => newK H10 (fun n13 => boxA v9 n13) fun v11 H12 => retF [v11] H12 K
noncomputable def r11_0 : List Oper := regOps Try.f11 0
noncomputable def r11_1 : List Oper := regOps Try.f11 1
noncomputable def c11 : Code := (.seq (.region 0 #[opAt r11_0 0] false) (.seq (.region 1 #[opAt r11_1 0, opAt r11_1 1, opAt r11_1 2, opAt r11_1 3, opAt r11_1 4, opAt r11_1 5] false) .ret))
theorem c11_eq : Try.f11.body = some c11 := by kernel_rfl
theorem S11_eq (γ : Calld) (a0 : AV) (H : AHeap) (K : AV → AHeap → Prop) : execC Try.prog γ pol11 Try.f11 c11 [a0] H K = S11 γ a0 H K := by kernel_rfl
theorem C11 {a0 : AV} {H : AHeap} {K : AV → AHeap → Prop} (h : S11 (CallsA Try.prog) a0 H K) : CallsA Try.prog 11 [a0] H K :=
  calls_of Try.func11 (ne_of_beq_false (by kernel_rfl)) c11_eq (by kernel_rfl) (by rw [S11_eq]; exact h)
/-! (*tithing/bus.Bus).Add -/
def pol12 : Pol := { lend := fun g => !([34, 57, 63] : List Nat).contains g, keep := [], frz := fun _ => [], perm := fun r => if r = 5 then [0, 1, 2, 3, 4, 5, 6, 7, 8, 9, 10, 11, 12, 13] else [], bf := fun r => if r = 5 then [0, 0, 2, 6, 14, 0, 32, 96, 224, 480, 1022, 2047, 4095, 8191] else [], ret := true }
def S12 (γ : Calld) (a0 a1 : AV) (H : AHeap) (K : AV → AHeap → Prop) : Prop :=
  frzLK [a0] H fun l3 H4 => γ 31 l3 H4 fun v1 H2 => ifA v1 (retF [.d (.int .i64 0), .d (.int .i64 7)] H2 K) (optA (nilCkA a0) fun v5 => optA (fieldA ti52 v5 2) fun v6 => optA (ldV false 1 v6 H2) fun v7 => optA (lenSl v7) fun v8 => optA (intA .eql v8 (.d (.int .i64 40))) fun v9 => ifA v9 (retF [.d (.int .i64 0), .d (.int .i64 4)] H2 K) (drA true (optA (nilCkA a0) fun v10 => optA (fieldA ti52 v10 2) fun v11 => optA (ldV false 1 v11 H2) fun v12 => apart (rsOf a1) v11 ∧ (noRsA (aggL a1) (frzLK [a1] H2 fun l14 H16 => ∃ r15, γ 32 l14 H16 (fun v H2 => v = r15 ∧ AHeap.le H16 H2) ∧ (apart (rsOf r15) v11 ∧ (apart (rsOf (.d (.bool true))) v11 ∧ (noRsA (aggL r15) (noRsA (aggL (.d (.bool true))) (stepK (bdA Try.prog ti68 [0, 1] [r15, .d (.bool true)] H16) H16 fun v17 H18 => newK H18 (fun n21 => boxA v17 n21) fun v19 H20 => apart (rsOf v19) v11 ∧ (noRsA (aggL v19) (newK H20 (fun n24 => bsA ti65 1 [0] [v19] H20 n24) fun v22 H23 => newK H23 (fun n27 => apA 1 8 v12 v22 H23 n27) fun v25 H26 => optA (nilCkA a0) fun v28 => optA (fieldA ti52 v28 2) fun v29 => noRsA (aggL v25) (stepK (stoA false 1 v29 v25 H26) H26 fun v30 H31 => optA (nilCkA a0) fun v32 => optA (fieldA ti52 v32 2) fun v33 => optA (ldV false 1 v33 H31) fun v34 => optA (lenSl v34) fun v35 => optA (intA .sub v35 (.d (.int .i64 1))) fun v36 => retF [v36, .d (.int .i64 0)] H31 K)))))))))))))
noncomputable def r12_0 : List Oper := regOps Try.f12 0
noncomputable def r12_1 : List Oper := regOps Try.f12 1
noncomputable def r12_2 : List Oper := regOps Try.f12 2
noncomputable def r12_3 : List Oper := regOps Try.f12 3
noncomputable def r12_4 : List Oper := regOps Try.f12 4
noncomputable def r12_5 : List Oper := regOps Try.f12 5
noncomputable def r12_6 : List Oper := regOps Try.f12 6
noncomputable def c12 : Code := (.seq (.region 0 #[opAt r12_0 0, opAt r12_0 1] false) (.seq (.block 0 (.seq (.region 1 #[opAt r12_1 0, opAt r12_1 1, opAt r12_1 2] false) (.cond (.tmp 6) (.seq (.region 2 #[opAt r12_2 0, opAt r12_2 1] false) .ret) (.seq (.region 3 #[opAt r12_3 0, opAt r12_3 1, opAt r12_3 2, opAt r12_3 3, opAt r12_3 4, opAt r12_3 5, opAt r12_3 6] false) (.cond (.tmp 9) (.seq (.region 4 #[opAt r12_4 0, opAt r12_4 1] false) .ret) .skip))))) (.seq (.region 5 #[opAt r12_5 0, opAt r12_5 1, opAt r12_5 2, opAt r12_5 3, opAt r12_5 4, opAt r12_5 5, opAt r12_5 6, opAt r12_5 7, opAt r12_5 8, opAt r12_5 9, opAt r12_5 10, opAt r12_5 11, opAt r12_5 12, opAt r12_5 13] true) (.seq (.region 6 #[opAt r12_6 0, opAt r12_6 1, opAt r12_6 2, opAt r12_6 3, opAt r12_6 4, opAt r12_6 5, opAt r12_6 6, opAt r12_6 7] false) .ret))))
theorem c12_eq : Try.f12.body = some c12 := by kernel_rfl
theorem S12_eq (γ : Calld) (a0 a1 : AV) (H : AHeap) (K : AV → AHeap → Prop) : execC Try.prog γ pol12 Try.f12 c12 [a0, a1] H K = S12 γ a0 a1 H K := by kernel_rfl
theorem C12 {a0 a1 : AV} {H : AHeap} {K : AV → AHeap → Prop} (h : S12 (CallsA Try.prog) a0 a1 H K) : CallsA Try.prog 12 [a0, a1] H K :=
  calls_of Try.func12 (ne_of_beq_false (by kernel_rfl)) c12_eq (by kernel_rfl) (by rw [S12_eq]; exact h)
/-! (*tithing/bus.Bus).Guess -/
def pol13 : Pol := { lend := fun g => !([34, 57, 63] : List Nat).contains g, keep := [], frz := fun _ => [], perm := fun r => [], bf := fun r => [], ret := true }
def S13 (γ : Calld) (a0 a1 : AV) (H : AHeap) (K : AV → AHeap → Prop) : Prop :=
  frzLK [a0, a1] H fun l3 H4 => γ 33 l3 H4 fun v1 H2 => optA (intA .neq v1 (.d (.int .i64 0))) fun v5 => ifA v5 (retF [v1] H2 K) (optA (nilCkA a0) fun v6 => optA (fieldA ti52 v6 2) fun v7 => optA (ldV false 1 v7 H2) fun v8 => optA (indexAddrA ti50 1 v8 a1) fun v9 => optA (ldV false 1 v9 H2) fun v10 => optA (nilCkA v10) fun v11 => optA (fieldA ti68 v11 1) fun v12 => optA (ldV false 1 v12 H2) fun v13 => optA (unA .not v13) fun v14 => ifA v14 (retF [.d (.int .i64 2)] H2 K) (optA (nilCkA v10) fun v15 => optA (fieldA ti68 v15 2) fun v16 => optA (ldV false 1 v16 H2) fun v17 => optA (intA .neq v17 (.d (.int .i64 1))) fun v18 => ifA v18 (optA (nilCkA v10) fun v19 => optA (fieldA ti68 v19 2) fun v20 => stepK (stoA false 1 v20 (.d (.int .i64 1)) H2) H2 fun v21 H22 => optA (nilCkA v10) fun v23 => optA (fieldA ti68 v23 3) fun v24 => stepK (stoA false 1 v24 (.d (.int .i64 0)) H22) H22 fun v25 H26 => optA (nilCkA v10) fun v27 => optA (fieldA ti68 v27 4) fun v28 => stepK (stoA false 1 v28 (.d (.int .i64 0)) H26) H26 fun v29 H30 => retF [.d (.int .i64 0)] H30 K) (retF [.d (.int .i64 0)] H2 K)))
noncomputable def r13_0 : List Oper := regOps Try.f13 0
noncomputable def r13_1 : List Oper := regOps Try.f13 1
noncomputable def r13_2 : List Oper := regOps Try.f13 2
noncomputable def r13_3 : List Oper := regOps Try.f13 3
noncomputable def r13_4 : List Oper := regOps Try.f13 4
noncomputable def r13_5 : List Oper := regOps Try.f13 5
noncomputable def r13_6 : List Oper := regOps Try.f13 6
noncomputable def r13_7 : List Oper := regOps Try.f13 7
noncomputable def r13_8 : List Oper := regOps Try.f13 8
noncomputable def r13_9 : List Oper := regOps Try.f13 9
noncomputable def c13 : Code := (.seq (.region 0 #[opAt r13_0 0] false) (.seq (.seq (.region 1 #[opAt r13_1 0, opAt r13_1 1, opAt r13_1 2, opAt r13_1 3] false) (.seq (.region 2 #[opAt r13_2 0, opAt r13_2 1] false) (.cond (.tmp 11) (.seq (.region 3 #[opAt r13_3 0, opAt r13_3 1] false) .ret) .skip))) (.seq (.region 4 #[opAt r13_4 0, opAt r13_4 1, opAt r13_4 2, opAt r13_4 3, opAt r13_4 4, opAt r13_4 5, opAt r13_4 6, opAt r13_4 7] false) (.seq (.block 0 (.seq (.region 5 #[opAt r13_5 0, opAt r13_5 1, opAt r13_5 2, opAt r13_5 3, opAt r13_5 4, opAt r13_5 5] false) (.cond (.tmp 20) (.seq (.region 6 #[opAt r13_6 0] false) .ret) (.seq (.region 7 #[opAt r13_7 0, opAt r13_7 1, opAt r13_7 2, opAt r13_7 3, opAt r13_7 4, opAt r13_7 5] false) (.cond (.tmp 26) (.region 8 #[opAt r13_8 0, opAt r13_8 1, opAt r13_8 2, opAt r13_8 3, opAt r13_8 4, opAt r13_8 5, opAt r13_8 6, opAt r13_8 7, opAt r13_8 8, opAt r13_8 9, opAt r13_8 10, opAt r13_8 11] false) .skip))))) (.seq (.region 9 #[opAt r13_9 0] false) .ret)))))
theorem c13_eq : Try.f13.body = some c13 := by kernel_rfl
theorem S13_eq (γ : Calld) (a0 a1 : AV) (H : AHeap) (K : AV → AHeap → Prop) : execC Try.prog γ pol13 Try.f13 c13 [a0, a1] H K = S13 γ a0 a1 H K := by kernel_rfl
theorem C13 {a0 a1 : AV} {H : AHeap} {K : AV → AHeap → Prop} (h : S13 (CallsA Try.prog) a0 a1 H K) : CallsA Try.prog 13 [a0, a1] H K :=
  calls_of Try.func13 (ne_of_beq_false (by kernel_rfl)) c13_eq (by kernel_rfl) (by rw [S13_eq]; exact h)
/-! (*tithing/bus.Bus).Quiet -/
def pol14 : Pol := { lend := fun g => !([34, 57, 63] : List Nat).contains g, keep := [], frz := fun _ => [], perm := fun r => [], bf := fun r => [], ret := true }
def S14 (γ : Calld) (a0 : AV) (H : AHeap) (K : AV → AHeap → Prop) : Prop :=
  frzLK [a0] H fun l3 H4 => γ 31 l3 H4 fun v1 H2 => optA (unA .not v1) fun v5 => ifA v5 (optA (nilCkA a0) fun v6 => optA (fieldA ti52 v6 2) fun v7 => optA (ldV false 1 v7 H2) fun v8 => γ 34 [v8, .func 35 [] []] H2 fun v9 H10 => optA (unA .not v9) fun v11 => retF [v11] H10 K) (retF [.d (.bool false)] H2 K)
noncomputable def r14_0 : List Oper := regOps Try.f14 0
noncomputable def r14_1 : List Oper := regOps Try.f14 1
noncomputable def c14 : Code := (.seq (.region 0 #[opAt r14_0 0] false) (.seq (.region 1 #[opAt r14_1 0, opAt r14_1 1, opAt r14_1 2, opAt r14_1 3, opAt r14_1 4, opAt r14_1 5, opAt r14_1 6, opAt r14_1 7, opAt r14_1 8, opAt r14_1 9, opAt r14_1 10, opAt r14_1 11] false) .ret))
theorem c14_eq : Try.f14.body = some c14 := by kernel_rfl
theorem S14_eq (γ : Calld) (a0 : AV) (H : AHeap) (K : AV → AHeap → Prop) : execC Try.prog γ pol14 Try.f14 c14 [a0] H K = S14 γ a0 H K := by kernel_rfl
theorem C14 {a0 : AV} {H : AHeap} {K : AV → AHeap → Prop} (h : S14 (CallsA Try.prog) a0 H K) : CallsA Try.prog 14 [a0] H K :=
  calls_of Try.func14 (ne_of_beq_false (by kernel_rfl)) c14_eq (by kernel_rfl) (by rw [S14_eq]; exact h)
/-! (*tithing/bus.Bus).Step -/
def pol15 : Pol := { lend := fun g => !([34, 57, 63] : List Nat).contains g, keep := [0, 3, 4, 7, 9, 18, 19, 20, 47, 48, 49, 57, 58, 74, 75, 76], frz := fun _ => [], perm := fun r => if r = 26 then [0, 1, 2, 3, 4, 5, 6, 7, 8, 9, 10, 11] else [], bf := fun r => if r = 26 then [0, 1, 3, 7, 0, 31, 63, 0, 0, 384, 896, 2047] else [], ret := true, tail := fun r => ([26] : List Nat).contains r }
def S15 (γ : Calld) (a0 : AV) (H : AHeap) (K : AV → AHeap → Prop) : Prop :=
  frzLK [a0] H fun l3 H4 => γ 31 l3 H4 fun v1 H2 => ifA v1 (retF [.d (.int .i64 7)] H2 K) (optA (nilCkA a0) fun v5 => optA (fieldA ti52 v5 2) fun v6 => optA (ldV false 1 v6 H2) fun v7 => optA (lenSl v7) fun v8 => loopA (fun X9 l10 H11 => optA (intA .lss (l10.getD 7 .junk) (l10.getD 6 .junk)) fun v12 => ifA v12 (optA (indexAddrA ti50 1 (l10.getD 5 .junk) (l10.getD 7 .junk)) fun v13 => optA (ldV false 1 v13 H11) fun v14 => optA (nilCkA v14) fun v15 => optA (fieldA ti68 v15 2) fun v16 => optA (ldV false 1 v16 H11) fun v17 => optA (intA .eql v17 (.d (.int .i64 1))) fun v18 => ifA v18 (newK H11 (fun n21 => bsA ti3 1 [0] [l10.getD 7 .junk] H11 n21) fun v19 H20 => newK H20 (fun n24 => apA 1 8 (l10.getD 1 .junk) v19 H20 n24) fun v22 H23 => frzLK [l10.getD 0 .junk] H23 fun l27 H28 => γ 36 l27 H28 fun v25 H26 => ifA v25 (newK H26 (fun n31 => bsA ti3 1 [0] [l10.getD 7 .junk] H26 n31) fun v29 H30 => newK H30 (fun n34 => apA 1 8 (l10.getD 2 .junk) v29 H30 n34) fun v32 H33 => optA (intA .add (l10.getD 7 .junk) (.d (.int .i64 1))) fun v35 => X9 [l10.getD 0 .junk, v22, v32, l10.getD 3 .junk, l10.getD 4 .junk, l10.getD 5 .junk, l10.getD 6 .junk, v35, l10.getD 8 .junk, l10.getD 9 .junk, l10.getD 10 .junk, l10.getD 11 .junk, l10.getD 12 .junk, l10.getD 13 .junk, l10.getD 14 .junk, l10.getD 15 .junk] H33) (optA (intA .add (l10.getD 7 .junk) (.d (.int .i64 1))) fun v36 => X9 [l10.getD 0 .junk, v22, l10.getD 2 .junk, l10.getD 3 .junk, l10.getD 4 .junk, l10.getD 5 .junk, l10.getD 6 .junk, v36, l10.getD 8 .junk, l10.getD 9 .junk, l10.getD 10 .junk, l10.getD 11 .junk, l10.getD 12 .junk, l10.getD 13 .junk, l10.getD 14 .junk, l10.getD 15 .junk] H26)) (optA (intA .add (l10.getD 7 .junk) (.d (.int .i64 1))) fun v37 => X9 [l10.getD 0 .junk, l10.getD 1 .junk, l10.getD 2 .junk, l10.getD 3 .junk, l10.getD 4 .junk, l10.getD 5 .junk, l10.getD 6 .junk, v37, l10.getD 8 .junk, l10.getD 9 .junk, l10.getD 10 .junk, l10.getD 11 .junk, l10.getD 12 .junk, l10.getD 13 .junk, l10.getD 14 .junk, l10.getD 15 .junk] H11)) (optA (nilCkA (l10.getD 0 .junk)) fun v38 => optA (fieldA ti52 v38 2) fun v39 => optA (ldV false 1 v39 H11) fun v40 => optA (lenSl v40) fun v41 => newK H11 (fun n44 => mkSlA ti4 v41 v41 n44) fun v42 H43 => optA (lenSl (l10.getD 2 .junk)) fun v45 => loopA (fun X46 l47 H48 => optA (intA .lss (l47.getD 10 .junk) (l47.getD 9 .junk)) fun v49 => ifA v49 (optA (indexAddrA ti22 1 (l47.getD 8 .junk) (l47.getD 10 .junk)) fun v50 => optA (ldV false 1 v50 H48) fun v51 => optA (nilCkA (l47.getD 0 .junk)) fun v52 => optA (fieldA ti52 v52 2) fun v53 => optA (ldV false 1 v53 H48) fun v54 => optA (lenSl v54) fun v55 => loopA (fun X56 l57 H58 => optA (intA .lss (l57.getD 12 .junk) (l57.getD 11 .junk)) fun v59 => ifA v59 (frzLK [l57.getD 0 .junk, l57.getD 12 .junk, l57.getD 4 .junk] H58 fun l62 H63 => γ 37 l62 H63 fun v60 H61 => ifA v60 (frzLK [l57.getD 0 .junk] H61 fun l66 H67 => γ 36 l66 H67 fun v64 H65 => ifA v64 (optA (indexAddrA ti71 1 (l57.getD 3 .junk) (l57.getD 4 .junk)) fun v68 => stepK (stoA false 1 v68 (.d (.bool true)) H65) H65 fun v69 H70 => optA (intA .add (l57.getD 12 .junk) (.d (.int .i64 1))) fun v71 => X56 [l57.getD 0 .junk, l57.getD 1 .junk, l57.getD 2 .junk, l57.getD 3 .junk, l57.getD 4 .junk, l57.getD 5 .junk, l57.getD 6 .junk, l57.getD 7 .junk, l57.getD 8 .junk, l57.getD 9 .junk, l57.getD 10 .junk, l57.getD 11 .junk, v71, l57.getD 13 .junk, l57.getD 14 .junk, l57.getD 15 .junk] H70) (optA (intA .add (l57.getD 12 .junk) (.d (.int .i64 1))) fun v72 => X56 [l57.getD 0 .junk, l57.getD 1 .junk, l57.getD 2 .junk, l57.getD 3 .junk, l57.getD 4 .junk, l57.getD 5 .junk, l57.getD 6 .junk, l57.getD 7 .junk, l57.getD 8 .junk, l57.getD 9 .junk, l57.getD 10 .junk, l57.getD 11 .junk, v72, l57.getD 13 .junk, l57.getD 14 .junk, l57.getD 15 .junk] H65)) (optA (intA .add (l57.getD 12 .junk) (.d (.int .i64 1))) fun v73 => X56 [l57.getD 0 .junk, l57.getD 1 .junk, l57.getD 2 .junk, l57.getD 3 .junk, l57.getD 4 .junk, l57.getD 5 .junk, l57.getD 6 .junk, l57.getD 7 .junk, l57.getD 8 .junk, l57.getD 9 .junk, l57.getD 10 .junk, l57.getD 11 .junk, v73, l57.getD 13 .junk, l57.getD 14 .junk, l57.getD 15 .junk] H61)) (optA (intA .add (l57.getD 10 .junk) (.d (.int .i64 1))) fun v74 => X46 [l57.getD 0 .junk, l57.getD 1 .junk, l57.getD 2 .junk, l57.getD 3 .junk, l57.getD 4 .junk, l57.getD 5 .junk, l57.getD 6 .junk, l57.getD 7 .junk, l57.getD 8 .junk, l57.getD 9 .junk, v74, l57.getD 11 .junk, l57.getD 12 .junk, l57.getD 13 .junk, l57.getD 14 .junk, l57.getD 15 .junk] H58)) [l47.getD 0 .junk, l47.getD 1 .junk, l47.getD 2 .junk, l47.getD 3 .junk, v51, l47.getD 5 .junk, l47.getD 6 .junk, l47.getD 7 .junk, l47.getD 8 .junk, l47.getD 9 .junk, l47.getD 10 .junk, v55, .d (.int .i64 0), l47.getD 13 .junk, l47.getD 14 .junk, l47.getD 15 .junk] H48) (optA (lenSl (l47.getD 1 .junk)) fun v75 => loopA (fun X76 l77 H78 => optA (intA .lss (l77.getD 15 .junk) (l77.getD 14 .junk)) fun v79 => ifA v79 (optA (indexAddrA ti22 1 (l77.getD 13 .junk) (l77.getD 15 .junk)) fun v80 => optA (ldV false 1 v80 H78) fun v81 => drA true (optA (nilCkA (l77.getD 0 .junk)) fun v82 => optA (fieldA ti52 v82 2) fun v83 => optA (ldV false 1 v83 H78) fun v84 => optA (indexAddrA ti50 1 v84 v81) fun v85 => optA (ldV false 1 v85 H78) fun v86 => optA (indexAddrA ti71 1 (l77.getD 3 .junk) v81) fun v87 => optA (ldV false 1 v87 H78) fun v88 => frzLK [v86, v88] H78 fun l91 H92 => γ 38 l91 H92 fun v89 H90 => optA (intA .add (l77.getD 15 .junk) (.d (.int .i64 1))) fun v93 => X76 [l77.getD 0 .junk, l77.getD 1 .junk, l77.getD 2 .junk, l77.getD 3 .junk, l77.getD 4 .junk, l77.getD 5 .junk, l77.getD 6 .junk, l77.getD 7 .junk, l77.getD 8 .junk, l77.getD 9 .junk, l77.getD 10 .junk, l77.getD 11 .junk, l77.getD 12 .junk, l77.getD 13 .junk, l77.getD 14 .junk, v93] H90)) (retF [.d (.int .i64 0)] H78 K)) [l47.getD 0 .junk, l47.getD 1 .junk, l47.getD 2 .junk, l47.getD 3 .junk, l47.getD 4 .junk, l47.getD 5 .junk, l47.getD 6 .junk, l47.getD 7 .junk, l47.getD 8 .junk, l47.getD 9 .junk, l47.getD 10 .junk, l47.getD 11 .junk, l47.getD 12 .junk, l47.getD 1 .junk, v75, .d (.int .i64 0)] H48)) [l10.getD 0 .junk, l10.getD 1 .junk, l10.getD 2 .junk, v42, l10.getD 4 .junk, l10.getD 5 .junk, l10.getD 6 .junk, l10.getD 7 .junk, l10.getD 2 .junk, v45, .d (.int .i64 0), l10.getD 11 .junk, l10.getD 12 .junk, l10.getD 13 .junk, l10.getD 14 .junk, l10.getD 15 .junk] H43)) [a0, .d (.sl true []), .d (.sl true []), .junk, .junk, v7, v8, .d (.int .i64 0), .junk, .junk, .junk, .junk, .junk, .junk, .junk, .junk] H2)
noncomputable def r15_0 : List Oper := regOps Try.f15 0
noncomputable def r15_1 : List Oper := regOps Try.f15 1
noncomputable def r15_2 : List Oper := regOps Try.f15 2
noncomputable def r15_3 : List Oper := regOps Try.f15 3
noncomputable def r15_4 : List Oper := regOps Try.f15 4
noncomputable def r15_5 : List Oper := regOps Try.f15 5
noncomputable def r15_6 : List Oper := regOps Try.f15 6
noncomputable def r15_7 : List Oper := regOps Try.f15 7
noncomputable def r15_8 : List Oper := regOps Try.f15 8
noncomputable def r15_9 : List Oper := regOps Try.f15 9
noncomputable def r15_10 : List Oper := regOps Try.f15 10
noncomputable def r15_11 : List Oper := regOps Try.f15 11
noncomputable def r15_12 : List Oper := regOps Try.f15 12
noncomputable def r15_13 : List Oper := regOps Try.f15 13
noncomputable def r15_14 : List Oper := regOps Try.f15 14
noncomputable def r15_15 : List Oper := regOps Try.f15 15
noncomputable def r15_16 : List Oper := regOps Try.f15 16
noncomputable def r15_17 : List Oper := regOps Try.f15 17
noncomputable def r15_18 : List Oper := regOps Try.f15 18
noncomputable def r15_19 : List Oper := regOps Try.f15 19
noncomputable def r15_20 : List Oper := regOps Try.f15 20
noncomputable def r15_21 : List Oper := regOps Try.f15 21
noncomputable def r15_22 : List Oper := regOps Try.f15 22
noncomputable def r15_23 : List Oper := regOps Try.f15 23
noncomputable def r15_24 : List Oper := regOps Try.f15 24
noncomputable def r15_25 : List Oper := regOps Try.f15 25
noncomputable def r15_26 : List Oper := regOps Try.f15 26
noncomputable def r15_27 : List Oper := regOps Try.f15 27
noncomputable def r15_28 : List Oper := regOps Try.f15 28
noncomputable def c15 : Code := (.seq (.region 0 #[opAt r15_0 0] false) (.seq (.seq (.region 1 #[opAt r15_1 0, opAt r15_1 1] false) (.cond (.tmp 14) (.seq (.region 2 #[opAt r15_2 0] false) .ret) .skip)) (.seq (.region 3 #[opAt r15_3 0, opAt r15_3 1] false) (.seq (.seq (.region 4 #[opAt r15_4 0, opAt r15_4 1, opAt r15_4 2, opAt r15_4 3, opAt r15_4 4, opAt r15_4 5] false) (.block 0 (.loop (.seq (.region 5 #[opAt r15_5 0] false) (.seq (.cond (.tmp 21) .skip (.exit 0)) (.seq (.block 1 (.seq (.region 6 #[opAt r15_6 0, opAt r15_6 1, opAt r15_6 2, opAt r15_6 3, opAt r15_6 4] false) (.seq (.region 7 #[opAt r15_7 0, opAt r15_7 1, opAt r15_7 2, opAt r15_7 3, opAt r15_7 4] false) (.cond (.tmp 29) (.seq (.region 8 #[opAt r15_8 0, opAt r15_8 1, opAt r15_8 2, opAt r15_8 3, opAt r15_8 4] false) (.seq (.region 9 #[opAt r15_9 0, opAt r15_9 1] false) (.cond (.tmp 35) (.region 10 #[opAt r15_10 0, opAt r15_10 1, opAt r15_10 2, opAt r15_10 3, opAt r15_10 4] false) .skip))) .skip)))) (.region 11 #[opAt r15_11 0, opAt r15_11 1] false))))))) (.seq (.region 12 #[opAt r15_12 0, opAt r15_12 1, opAt r15_12 2, opAt r15_12 3, opAt r15_12 4, opAt r15_12 5, opAt r15_12 6] false) (.seq (.seq (.region 13 #[opAt r15_13 0, opAt r15_13 1, opAt r15_13 2] false) (.block 2 (.loop (.seq (.region 14 #[opAt r15_14 0] false) (.seq (.cond (.tmp 50) .skip (.exit 2)) (.seq (.block 3 (.seq (.region 15 #[opAt r15_15 0, opAt r15_15 1, opAt r15_15 2] false) (.seq (.region 16 #[opAt r15_16 0, opAt r15_16 1, opAt r15_16 2, opAt r15_16 3, opAt r15_16 4, opAt r15_16 5] false) (.block 4 (.loop (.seq (.region 17 #[opAt r15_17 0] false) (.seq (.cond (.tmp 59) .skip (.exit 4)) (.seq (.block 5 (.seq (.region 18 #[opAt r15_18 0, opAt r15_18 1] false) (.seq (.region 19 #[opAt r15_19 0, opAt r15_19 1, opAt r15_19 2, opAt r15_19 3, opAt r15_19 4, opAt r15_19 5, opAt r15_19 6, opAt r15_19 7] false) (.cond (.tmp 68) (.region 20 #[opAt r15_20 0, opAt r15_20 1, opAt r15_20 2, opAt r15_20 3] false) .skip)))) (.region 21 #[opAt r15_21 0, opAt r15_21 1] false))))))))) (.region 22 #[opAt r15_22 0, opAt r15_22 1] false))))))) (.seq (.seq (.region 23 #[opAt r15_23 0, opAt r15_23 1, opAt r15_23 2] false) (.block 6 (.loop (.seq (.region 24 #[opAt r15_24 0] false) (.seq (.cond (.tmp 77) .skip (.exit 6)) (.seq (.block 7 (.seq (.region 25 #[opAt r15_25 0, opAt r15_25 1, opAt r15_25 2] false) (.region 26 #[opAt r15_26 0, opAt r15_26 1, opAt r15_26 2, opAt r15_26 3, opAt r15_26 4, opAt r15_26 5, opAt r15_26 6, opAt r15_26 7, opAt r15_26 8, opAt r15_26 9, opAt r15_26 10, opAt r15_26 11] true))) (.region 27 #[opAt r15_27 0, opAt r15_27 1] false))))))) (.seq (.region 28 #[opAt r15_28 0] false) .ret))))))))
theorem c15_eq : Try.f15.body = some c15 := by kernel_rfl
theorem S15_eq (γ : Calld) (a0 : AV) (H : AHeap) (K : AV → AHeap → Prop) : execC Try.prog γ pol15 Try.f15 c15 [a0] H K = S15 γ a0 H K := by kernel_rfl
theorem C15 {a0 : AV} {H : AHeap} {K : AV → AHeap → Prop} (h : S15 (CallsA Try.prog) a0 H K) : CallsA Try.prog 15 [a0] H K :=
  calls_of Try.func15 (ne_of_beq_false (by kernel_rfl)) c15_eq (by kernel_rfl) (by rw [S15_eq]; exact h)
/-! (*tithing/bus.Bus).Node -/
def pol16 : Pol := { lend := fun g => !([34, 57, 63] : List Nat).contains g, keep := [], frz := fun _ => [], perm := fun r => [], bf := fun r => [], ret := true }
def S16 (γ : Calld) (a0 a1 : AV) (H : AHeap) (K : AV → AHeap → Prop) : Prop :=
  frzLK [a0, a1] H fun l3 H4 => γ 33 l3 H4 fun v1 H2 => optA (intA .neq v1 (.d (.int .i64 0))) fun v5 => ifA v5 (retF [.d (.int .i64 0)] H2 K) (optA (nilCkA a0) fun v6 => optA (fieldA ti52 v6 2) fun v7 => optA (ldV false 1 v7 H2) fun v8 => optA (indexAddrA ti50 1 v8 a1) fun v9 => optA (ldV false 1 v9 H2) fun v10 => optA (nilCkA v10) fun v11 => optA (fieldA ti68 v11 2) fun v12 => optA (ldV false 1 v12 H2) fun v13 => optA (intA .eql v13 (.d (.int .i64 1))) fun v14 => ifA v14 (frzLK [v10] H2 fun l17 H18 => γ 39 l17 H18 fun v15 H16 => retF [v15] H16 K) (optA (intA .eql v13 (.d (.int .i64 2))) fun v19 => ifA v19 (optA (nilCkA v10) fun v20 => optA (fieldA ti68 v20 5) fun v21 => optA (ldV false 1 v21 H2) fun v22 => retF [v22] H2 K) (retF [.d (.int .i64 0)] H2 K)))
noncomputable def r16_0 : List Oper := regOps Try.f16 0
noncomputable def r16_1 : List Oper := regOps Try.f16 1
noncomputable def r16_2 : List Oper := regOps Try.f16 2
noncomputable def r16_3 : List Oper := regOps Try.f16 3
noncomputable def r16_4 : List Oper := regOps Try.f16 4
noncomputable def r16_5 : List Oper := regOps Try.f16 5
noncomputable def r16_6 : List Oper := regOps Try.f16 6
noncomputable def r16_7 : List Oper := regOps Try.f16 7
noncomputable def r16_8 : List Oper := regOps Try.f16 8
noncomputable def r16_9 : List Oper := regOps Try.f16 9
noncomputable def c16 : Code := (.seq (.region 0 #[opAt r16_0 0] false) (.seq (.seq (.region 1 #[opAt r16_1 0, opAt r16_1 1, opAt r16_1 2, opAt r16_1 3] false) (.cond (.tmp 9) (.seq (.region 2 #[opAt r16_2 0] false) .ret) .skip)) (.seq (.seq (.region 3 #[opAt r16_3 0, opAt r16_3 1, opAt r16_3 2, opAt r16_3 3, opAt r16_3 4, opAt r16_3 5, opAt r16_3 6, opAt r16_3 7] false) (.seq (.region 4 #[opAt r16_4 0, opAt r16_4 1, opAt r16_4 2, opAt r16_4 3] false) (.block 0 (.seq (.region 5 #[opAt r16_5 0, opAt r16_5 1] false) (.cond (.tmp 21) (.seq (.region 6 #[opAt r16_6 0, opAt r16_6 1, opAt r16_6 2] false) .ret) (.seq (.region 7 #[opAt r16_7 0, opAt r16_7 1] false) (.cond (.tmp 25) (.seq (.region 8 #[opAt r16_8 0, opAt r16_8 1, opAt r16_8 2, opAt r16_8 3, opAt r16_8 4] false) .ret) .skip))))))) (.seq (.region 9 #[opAt r16_9 0] false) .ret))))
theorem c16_eq : Try.f16.body = some c16 := by kernel_rfl
theorem S16_eq (γ : Calld) (a0 a1 : AV) (H : AHeap) (K : AV → AHeap → Prop) : execC Try.prog γ pol16 Try.f16 c16 [a0, a1] H K = S16 γ a0 a1 H K := by kernel_rfl
theorem C16 {a0 a1 : AV} {H : AHeap} {K : AV → AHeap → Prop} (h : S16 (CallsA Try.prog) a0 a1 H K) : CallsA Try.prog 16 [a0, a1] H K :=
  calls_of Try.func16 (ne_of_beq_false (by kernel_rfl)) c16_eq (by kernel_rfl) (by rw [S16_eq]; exact h)
/-! (*tithing/bus.Bus).State -/
def pol17 : Pol := { lend := fun g => !([34, 57, 63] : List Nat).contains g, keep := [], frz := fun _ => [], perm := fun r => [], bf := fun r => [], ret := true }
def S17 (γ : Calld) (a0 a1 : AV) (H : AHeap) (K : AV → AHeap → Prop) : Prop :=
  frzLK [a0, a1] H fun l3 H4 => γ 33 l3 H4 fun v1 H2 => optA (intA .eql v1 (.d (.int .i64 0))) fun v5 => ifA v5 (optA (nilCkA a0) fun v6 => optA (fieldA ti52 v6 2) fun v7 => optA (ldV false 1 v7 H2) fun v8 => optA (indexAddrA ti50 1 v8 a1) fun v9 => optA (ldV false 1 v9 H2) fun v10 => optA (nilCkA v10) fun v11 => optA (fieldA ti68 v11 2) fun v12 => optA (ldV false 1 v12 H2) fun v13 => retF [v13] H2 K) (optA (intA .eql v1 (.d (.int .i64 7))) fun v14 => ifA v14 (retF [.d (.int .i64 0)] H2 K) (retF [.d (.int .i64 (-1))] H2 K))
noncomputable def r17_0 : List Oper := regOps Try.f17 0
noncomputable def r17_1 : List Oper := regOps Try.f17 1
noncomputable def r17_2 : List Oper := regOps Try.f17 2
noncomputable def r17_3 : List Oper := regOps Try.f17 3
noncomputable def r17_4 : List Oper := regOps Try.f17 4
noncomputable def r17_5 : List Oper := regOps Try.f17 5
noncomputable def r17_6 : List Oper := regOps Try.f17 6
noncomputable def c17 : Code := (.seq (.region 0 #[opAt r17_0 0] false) (.seq (.seq (.region 1 #[opAt r17_1 0, opAt r17_1 1, opAt r17_1 2] false) (.block 0 (.seq (.region 2 #[opAt r17_2 0, opAt r17_2 1] false) (.cond (.tmp 8) (.seq (.region 3 #[opAt r17_3 0, opAt r17_3 1, opAt r17_3 2, opAt r17_3 3, opAt r17_3 4, opAt r17_3 5, opAt r17_3 6, opAt r17_3 7, opAt r17_3 8, opAt r17_3 9, opAt r17_3 10] false) .ret) (.seq (.region 4 #[opAt r17_4 0, opAt r17_4 1] false) (.cond (.tmp 20) (.seq (.region 5 #[opAt r17_5 0] false) .ret) .skip)))))) (.seq (.region 6 #[opAt r17_6 0] false) .ret)))
theorem c17_eq : Try.f17.body = some c17 := by kernel_rfl
theorem S17_eq (γ : Calld) (a0 a1 : AV) (H : AHeap) (K : AV → AHeap → Prop) : execC Try.prog γ pol17 Try.f17 c17 [a0, a1] H K = S17 γ a0 a1 H K := by kernel_rfl
theorem C17 {a0 a1 : AV} {H : AHeap} {K : AV → AHeap → Prop} (h : S17 (CallsA Try.prog) a0 a1 H K) : CallsA Try.prog 17 [a0, a1] H K :=
  calls_of Try.func17 (ne_of_beq_false (by kernel_rfl)) c17_eq (by kernel_rfl) (by rw [S17_eq]; exact h)
/-! tithing/tithinglaw02.long -/
def pol18 : Pol := { lend := fun g => !([34, 57, 63] : List Nat).contains g, keep := [0, 1, 5], frz := fun _ => [], perm := fun r => [], bf := fun r => [], ret := true }
def S18 (γ : Calld) (a0 a1 : AV) (H : AHeap) (K : AV → AHeap → Prop) : Prop :=
  loopA (fun X1 l2 H3 => optA (lenSl (l2.getD 1 .junk)) fun v4 => optA (intA .lss (l2.getD 2 .junk) v4) fun v5 => ifA v5 (optA (indexAddrA ti36 3 (l2.getD 1 .junk) (l2.getD 2 .junk)) fun v6 => optA (fieldA ti42 v6 2) fun v7 => optA (ldV false 1 v7 H3) fun v8 => optA (lenSl v8) fun v9 => optA (intA .gtr v9 (.d (.int .i64 60))) fun v10 => ifA v10 (retF [.d (.bool true)] H3 K) (optA (intA .add (l2.getD 2 .junk) (.d (.int .i64 1))) fun v11 => X1 [l2.getD 0 .junk, l2.getD 1 .junk, v11] H3)) (optA (lenSl (l2.getD 1 .junk)) fun v12 => optA (intA .gtr v12 (.d (.int .i64 300))) fun v13 => ifA v13 (retF [.d (.bool true)] H3 K) (optA (lenSl (l2.getD 0 .junk)) fun v14 => optA (intA .gtr v14 (.d (.int .i64 300))) fun v15 => retF [v15] H3 K))) [a0, a1, .d (.int .i64 0)] H
noncomputable def r18_0 : List Oper := regOps Try.f18 0
noncomputable def r18_1 : List Oper := regOps Try.f18 1
noncomputable def r18_2 : List Oper := regOps Try.f18 2
noncomputable def r18_3 : List Oper := regOps Try.f18 3
noncomputable def r18_4 : List Oper := regOps Try.f18 4
noncomputable def r18_5 : List Oper := regOps Try.f18 5
noncomputable def r18_6 : List Oper := regOps Try.f18 6
noncomputable def c18 : Code := (.seq (.region 0 #[opAt r18_0 0] false) (.seq (.seq (.region 1 #[opAt r18_1 0] false) (.block 0 (.loop (.seq (.seq (.region 2 #[opAt r18_2 0, opAt r18_2 1, opAt r18_2 2, opAt r18_2 3] false) (.cond (.tmp 9) .skip (.exit 0))) (.seq (.block 1 (.seq (.region 4 #[opAt r18_3 0, opAt r18_3 1, opAt r18_3 2, opAt r18_3 3, opAt r18_3 4, opAt r18_3 5, opAt r18_3 6] false) (.cond (.tmp 18) (.seq (.region 5 #[opAt r18_4 0] false) .ret) .skip))) (.region 3 #[opAt r18_5 0, opAt r18_5 1, opAt r18_5 2] false)))))) (.seq (.region 6 #[opAt r18_6 0, opAt r18_6 1, opAt r18_6 2, opAt r18_6 3, opAt r18_6 4, opAt r18_6 5, opAt r18_6 6, opAt r18_6 7, opAt r18_6 8] false) .ret)))
theorem c18_eq : Try.f18.body = some c18 := by kernel_rfl
theorem S18_eq (γ : Calld) (a0 a1 : AV) (H : AHeap) (K : AV → AHeap → Prop) : execC Try.prog γ pol18 Try.f18 c18 [a0, a1] H K = S18 γ a0 a1 H K := by kernel_rfl
theorem C18 {a0 a1 : AV} {H : AHeap} {K : AV → AHeap → Prop} (h : S18 (CallsA Try.prog) a0 a1 H K) : CallsA Try.prog 18 [a0, a1] H K :=
  calls_of Try.func18 (ne_of_beq_false (by kernel_rfl)) c18_eq (by kernel_rfl) (by rw [S18_eq]; exact h)
/-! tithing/tithingref02.New -/
def pol20 : Pol := { lend := fun g => !([34, 57, 63] : List Nat).contains g, keep := [], frz := fun _ => [], perm := fun r => [], bf := fun r => [], ret := true }
def S20 (γ : Calld) (a0 : AV) (H : AHeap) (K : AV → AHeap → Prop) : Prop :=
  newK H (fun n3 => bsA ti3 0 [] [] H n3) fun v1 H2 => newK H2 (fun n6 => apA 1 8 v1 a0 H2 n6) fun v4 H5 => stepK (bdA Try.prog ti76 [0] [v4] H5) H5 fun v7 H8 => newK H8 (fun n11 => boxA v7 n11) fun v9 H10 => retF [v9] H10 K
noncomputable def r20_0 : List Oper := regOps Try.f20 0
noncomputable def r20_1 : List Oper := regOps Try.f20 1
noncomputable def c20 : Code := (.seq (.region 0 #[opAt r20_0 0] false) (.seq (.region 1 #[opAt r20_1 0, opAt r20_1 1, opAt r20_1 2, opAt r20_1 3, opAt r20_1 4, opAt r20_1 5] false) .ret))
theorem c20_eq : Try.f20.body = some c20 := by kernel_rfl
theorem S20_eq (γ : Calld) (a0 : AV) (H : AHeap) (K : AV → AHeap → Prop) : execC Try.prog γ pol20 Try.f20 c20 [a0] H K = S20 γ a0 H K := by kernel_rfl
theorem C20 {a0 : AV} {H : AHeap} {K : AV → AHeap → Prop} (h : S20 (CallsA Try.prog) a0 H K) : CallsA Try.prog 20 [a0] H K :=
  calls_of Try.func20 (ne_of_beq_false (by kernel_rfl)) c20_eq (by kernel_rfl) (by rw [S20_eq]; exact h)
/-! (*tithing/bus.Bus).Clashes -/
def pol21 : Pol := { lend := fun g => !([34, 57, 63] : List Nat).contains g, keep := [0, 3, 4, 5, 6, 13, 14, 15], frz := fun _ => [], perm := fun r => if r = 11 then [0, 1, 2, 3, 4, 5, 6, 7, 8, 9, 10, 11, 12, 13, 14, 15, 16, 17, 18, 19, 20, 21, 22] else [], bf := fun r => if r = 11 then [0, 1, 3, 7, 15, 31, 63, 127, 255, 511, 1023, 2047, 4095, 8191, 16383, 32767, 65535, 8191, 139263, 401407, 925695, 2097151, 4194303] else [], ret := true }
def S21 (γ : Calld) (a0 : AV) (H : AHeap) (K : AV → AHeap → Prop) : Prop :=
  frzLK [a0] H fun l3 H4 => γ 31 l3 H4 fun v1 H2 => ifA v1 (retF [.d (.sl true [])] H2 K) (optA (nilCkA a0) fun v5 => optA (fieldA ti52 v5 2) fun v6 => optA (ldV false 1 v6 H2) fun v7 => optA (lenSl v7) fun v8 => loopA (fun X9 l10 H11 => optA (intA .lss (l10.getD 7 .junk) (l10.getD 6 .junk)) fun v12 => ifA v12 (optA (indexAddrA ti50 1 (l10.getD 5 .junk) (l10.getD 7 .junk)) fun v13 => optA (ldV false 1 v13 H11) fun v14 => optA (intA .add (l10.getD 7 .junk) (.d (.int .i64 1))) fun v15 => loopA (fun X16 l17 H18 => optA (nilCkA (l17.getD 0 .junk)) fun v19 => optA (fieldA ti52 v19 2) fun v20 => optA (ldV false 1 v20 H18) fun v21 => optA (lenSl v21) fun v22 => optA (intA .lss (l17.getD 4 .junk) v22) fun v23 => ifA v23 (optA (nilCkA (l17.getD 0 .junk)) fun v24 => optA (fieldA ti52 v24 2) fun v25 => optA (ldV false 1 v25 H18) fun v26 => optA (indexAddrA ti50 1 v26 (l17.getD 4 .junk)) fun v27 => optA (ldV false 1 v27 H18) fun v28 => drA true (optA (nilCkA (l17.getD 3 .junk)) fun v29 => optA (fieldA ti68 v29 2) fun v30 => optA (ldV false 1 v30 H18) fun v31 => optA (intA .eql v31 (.d (.int .i64 2))) fun v32 => ifA v32 (optA (nilCkA v28) fun v33 => optA (fieldA ti68 v33 2) fun v34 => optA (ldV false 1 v34 H18) fun v35 => optA (intA .eql v35 (.d (.int .i64 2))) fun v36 => ifA v36 (optA (nilCkA (l17.getD 3 .junk)) fun v37 => optA (fieldA ti68 v37 5) fun v38 => optA (ldV false 1 v38 H18) fun v39 => optA (nilCkA v28) fun v40 => optA (fieldA ti68 v40 5) fun v41 => optA (ldV false 1 v41 H18) fun v42 => optA (intA .eql v39 v42) fun v43 => ifA v43 (stepK (bdA Try.prog ti77 [0, 1] [l17.getD 2 .junk, l17.getD 4 .junk] H18) H18 fun v44 H45 => newK H45 (fun n48 => bsA ti77 1 [0] [v44] H45 n48) fun v46 H47 => newK H47 (fun n51 => apA 2 16 (l17.getD 1 .junk) v46 H47 n51) fun v49 H50 => optA (intA .add (l17.getD 4 .junk) (.d (.int .i64 1))) fun v52 => X16 [l17.getD 0 .junk, v49, l17.getD 2 .junk, l17.getD 3 .junk, v52, l17.getD 5 .junk, l17.getD 6 .junk, l17.getD 7 .junk] H50) (optA (intA .add (l17.getD 4 .junk) (.d (.int .i64 1))) fun v53 => X16 [l17.getD 0 .junk, l17.getD 1 .junk, l17.getD 2 .junk, l17.getD 3 .junk, v53, l17.getD 5 .junk, l17.getD 6 .junk, l17.getD 7 .junk] H18)) (optA (intA .add (l17.getD 4 .junk) (.d (.int .i64 1))) fun v54 => X16 [l17.getD 0 .junk, l17.getD 1 .junk, l17.getD 2 .junk, l17.getD 3 .junk, v54, l17.getD 5 .junk, l17.getD 6 .junk, l17.getD 7 .junk] H18)) (optA (intA .add (l17.getD 4 .junk) (.d (.int .i64 1))) fun v55 => X16 [l17.getD 0 .junk, l17.getD 1 .junk, l17.getD 2 .junk, l17.getD 3 .junk, v55, l17.getD 5 .junk, l17.getD 6 .junk, l17.getD 7 .junk] H18))) (optA (intA .add (l17.getD 7 .junk) (.d (.int .i64 1))) fun v56 => X9 [l17.getD 0 .junk, l17.getD 1 .junk, l17.getD 2 .junk, l17.getD 3 .junk, l17.getD 4 .junk, l17.getD 5 .junk, l17.getD 6 .junk, v56] H18)) [l10.getD 0 .junk, l10.getD 1 .junk, l10.getD 7 .junk, v14, v15, l10.getD 5 .junk, l10.getD 6 .junk, l10.getD 7 .junk] H11) (retF [l10.getD 1 .junk] H11 K)) [a0, .d (.sl true []), .junk, .junk, .junk, v7, v8, .d (.int .i64 0)] H2)
noncomputable def r21_0 : List Oper := regOps Try.f21 0
noncomputable def r21_1 : List Oper := regOps Try.f21 1
noncomputable def r21_2 : List Oper := regOps Try.f21 2
noncomputable def r21_3 : List Oper := regOps Try.f21 3
noncomputable def r21_4 : List Oper := regOps Try.f21 4
noncomputable def r21_5 : List Oper := regOps Try.f21 5
noncomputable def r21_6 : List Oper := regOps Try.f21 6
noncomputable def r21_7 : List Oper := regOps Try.f21 7
noncomputable def r21_8 : List Oper := regOps Try.f21 8
noncomputable def r21_9 : List Oper := regOps Try.f21 9
noncomputable def r21_10 : List Oper := regOps Try.f21 10
noncomputable def r21_11 : List Oper := regOps Try.f21 11
noncomputable def r21_12 : List Oper := regOps Try.f21 12
noncomputable def r21_13 : List Oper := regOps Try.f21 13
noncomputable def r21_14 : List Oper := regOps Try.f21 14
noncomputable def c21 : Code := (.seq (.region 0 #[opAt r21_0 0] false) (.seq (.seq (.region 1 #[opAt r21_1 0, opAt r21_1 1] false) (.cond (.tmp 9) (.seq (.region 2 #[opAt r21_2 0] false) .ret) .skip)) (.seq (.region 3 #[opAt r21_3 0] false) (.seq (.seq (.region 4 #[opAt r21_4 0, opAt r21_4 1, opAt r21_4 2, opAt r21_4 3, opAt r21_4 4, opAt r21_4 5] false) (.block 0 (.loop (.seq (.region 5 #[opAt r21_5 0] false) (.seq (.cond (.tmp 16) .skip (.exit 0)) (.seq (.block 1 (.seq (.region 6 #[opAt r21_6 0, opAt r21_6 1, opAt r21_6 2, opAt r21_6 3, opAt r21_6 4] false) (.seq (.region 7 #[opAt r21_7 0, opAt r21_7 1, opAt r21_7 2] false) (.block 2 (.loop (.seq (.seq (.region 8 #[opAt r21_8 0, opAt r21_8 1, opAt r21_8 2, opAt r21_8 3, opAt r21_8 4, opAt r21_8 5, opAt r21_8 6] false) (.cond (.tmp 28) .skip (.exit 2))) (.seq (.block 3 (.seq (.region 10 #[opAt r21_9 0, opAt r21_9 1, opAt r21_9 2, opAt r21_9 3, opAt r21_9 4, opAt r21_9 5, opAt r21_9 6, opAt r21_9 7] false) (.seq (.region 11 #[opAt r21_10 0, opAt r21_10 1, opAt r21_10 2, opAt r21_10 3, opAt r21_10 4, opAt r21_10 5, opAt r21_10 6, opAt r21_10 7, opAt r21_10 8, opAt r21_10 9, opAt r21_10 10, opAt r21_10 11, opAt r21_10 12, opAt r21_10 13, opAt r21_10 14, opAt r21_10 15, opAt r21_10 16, opAt r21_10 17, opAt r21_10 18, opAt r21_10 19, opAt r21_10 20, opAt r21_10 21, opAt r21_10 22] true) (.cond (.tmp 60) (.region 12 #[opAt r21_11 0, opAt r21_11 1, opAt r21_11 2, opAt r21_11 3, opAt r21_11 4, opAt r21_11 5, opAt r21_11 6] false) .skip)))) (.region 9 #[opAt r21_12 0, opAt r21_12 1, opAt r21_12 2] false)))))))) (.region 13 #[opAt r21_13 0, opAt r21_13 1] false))))))) (.seq (.region 14 #[opAt r21_14 0, opAt r21_14 1] false) .ret)))))
theorem c21_eq : Try.f21.body = some c21 := by kernel_rfl
theorem S21_eq (γ : Calld) (a0 : AV) (H : AHeap) (K : AV → AHeap → Prop) : execC Try.prog γ pol21 Try.f21 c21 [a0] H K = S21 γ a0 H K := by kernel_rfl
theorem C21 {a0 : AV} {H : AHeap} {K : AV → AHeap → Prop} (h : S21 (CallsA Try.prog) a0 H K) : CallsA Try.prog 21 [a0] H K :=
  calls_of Try.func21 (ne_of_beq_false (by kernel_rfl)) c21_eq (by kernel_rfl) (by rw [S21_eq]; exact h)
/-! tithing/bus.Contend -/
def pol23 : Pol := { lend := fun g => !([34, 57, 63] : List Nat).contains g, keep := [0, 1, 4, 5, 7, 11, 12, 13, 14, 15, 35, 36, 37, 64, 65, 66, 127, 128, 129], frz := fun _ => [], perm := fun r => if r = 29 then [0, 1, 2, 3, 4, 5, 6] else [], bf := fun r => if r = 29 then [0, 1, 3, 0, 8, 7, 63] else [], ret := true }
def S23 (γ : Calld) (a0 a1 : AV) (H : AHeap) (K : AV → AHeap → Prop) : Prop :=
  optA (lenSl a0) fun v1 => optA (intA .gtr v1 (.d (.int .i64 40))) fun v2 => ifA v2 (retF [.d (.sl true []), .d (.int .i64 0), .d (.int .i64 2)] H K) (frzLK [a0, .func 49 [] []] H fun l5 H6 => γ 50 l5 H6 fun v3 H4 => ifA v3 (retF [.d (.sl true []), .d (.int .i64 0), .d (.int .i64 2)] H4 K) (frzLK [a1, .func 49 [] []] H4 fun l9 H10 => γ 50 l9 H10 fun v7 H8 => ifA v7 (retF [.d (.sl true []), .d (.int .i64 0), .d (.int .i64 2)] H8 K) (optA (lenSl a0) fun v11 => loopA (fun X12 l13 H14 => optA (intA .lss (l13.getD 12 .junk) (l13.getD 11 .junk)) fun v15 => ifA v15 (optA (indexAddrA ti22 1 (l13.getD 10 .junk) (l13.getD 12 .junk)) fun v16 => optA (ldV false 1 v16 H14) fun v17 => optA (intA .add (l13.getD 4 .junk) v17) fun v18 => optA (foldA min2A [v18, .d (.int .i64 201)]) fun v19 => optA (intA .gtr v17 (.d (.int .i64 200))) fun v20 => ifA v20 (optA (intA .add (l13.getD 12 .junk) (.d (.int .i64 1))) fun v21 => X12 [l13.getD 0 .junk, l13.getD 1 .junk, l13.getD 2 .junk, l13.getD 3 .junk, .d (.int .i64 201), l13.getD 5 .junk, l13.getD 6 .junk, l13.getD 7 .junk, l13.getD 8 .junk, l13.getD 9 .junk, l13.getD 10 .junk, l13.getD 11 .junk, v21, l13.getD 13 .junk, l13.getD 14 .junk, l13.getD 15 .junk, l13.getD 16 .junk, l13.getD 17 .junk, l13.getD 18 .junk] H14) (optA (intA .add (l13.getD 12 .junk) (.d (.int .i64 1))) fun v22 => X12 [l13.getD 0 .junk, l13.getD 1 .junk, l13.getD 2 .junk, l13.getD 3 .junk, v19, l13.getD 5 .junk, l13.getD 6 .junk, l13.getD 7 .junk, l13.getD 8 .junk, l13.getD 9 .junk, l13.getD 10 .junk, l13.getD 11 .junk, v22, l13.getD 13 .junk, l13.getD 14 .junk, l13.getD 15 .junk, l13.getD 16 .junk, l13.getD 17 .junk, l13.getD 18 .junk] H14)) (optA (intA .gtr (l13.getD 4 .junk) (.d (.int .i64 200))) fun v23 => ifA v23 (retF [.d (.sl true []), .d (.int .i64 0), .d (.int .i64 4)] H14 K) (frzLK [l13.getD 0 .junk] H14 fun l26 H27 => γ 32 l26 H27 fun v24 H25 => newK H25 (fun n30 => bsA ti3 1 [0] [.d (.int .i64 1)] H25 n30) fun v28 H29 => optA (lenSl (l13.getD 0 .junk)) fun v31 => frzLK [v28, v31] H29 fun l34 H35 => γ 51 l34 H35 fun v32 H33 => loopA (fun X36 l37 H38 => optA (lenSl (l37.getD 2 .junk)) fun v39 => optA (intA .lss v39 (l37.getD 4 .junk)) fun v40 => ifA v40 (optA (intA .eql (l37.getD 7 .junk) (.d (.int .i64 5000))) fun v41 => ifA v41 (retF [.d (.sl true []), .d (.int .i64 0), .d (.int .i64 4)] H38 K) (optA (lenSl (l37.getD 5 .junk)) fun v42 => loopA (fun X43 l44 H45 => optA (intA .lss (l44.getD 15 .junk) (l44.getD 14 .junk)) fun v46 => ifA v46 (optA (indexAddrA ti22 1 (l44.getD 13 .junk) (l44.getD 15 .junk)) fun v47 => optA (ldV false 1 v47 H45) fun v48 => optA (intA .eql v48 (.d (.int .i64 0))) fun v49 => ifA v49 (optA (intA .add (l44.getD 15 .junk) (.d (.int .i64 1))) fun v50 => X43 [l44.getD 0 .junk, l44.getD 1 .junk, l44.getD 2 .junk, l44.getD 3 .junk, l44.getD 4 .junk, l44.getD 5 .junk, l44.getD 6 .junk, l44.getD 7 .junk, l44.getD 8 .junk, l44.getD 9 .junk, l44.getD 10 .junk, l44.getD 11 .junk, l44.getD 12 .junk, l44.getD 13 .junk, l44.getD 14 .junk, v50, l44.getD 16 .junk, l44.getD 17 .junk, l44.getD 18 .junk] H45) (optA (lenSl (l44.getD 1 .junk)) fun v51 => optA (intA .gtr v51 (.d (.int .i64 0))) fun v52 => ifA v52 (drA true (optA (indexAddrA ti22 1 (l44.getD 1 .junk) (.d (.int .i64 0))) fun v53 => optA (ldV false 1 v53 H45) fun v54 => optA (sliceA 1 (l44.getD 1 .junk) (some (.d (.int .i64 1))) none none H45) fun v55 => optA (indexAddrA ti22 1 (l44.getD 6 .junk) (l44.getD 15 .junk)) fun v56 => optA (ldV false 1 v56 H45) fun v57 => frzLK [v54, v57] H45 fun l60 H61 => γ 52 l60 H61 fun v58 H59 => optA (intA .lss v58 (l44.getD 9 .junk)) fun v62 => ifA v62 (optA (intA .eql v58 v58) fun v63 => ifA v63 (newK H59 (fun n66 => bsA ti3 1 [0] [l44.getD 15 .junk] H59 n66) fun v64 H65 => newK H65 (fun n69 => apA 1 8 (.d (.sl true [])) v64 H65 n69) fun v67 H68 => optA (intA .add (l44.getD 15 .junk) (.d (.int .i64 1))) fun v70 => X43 [l44.getD 0 .junk, v55, l44.getD 2 .junk, l44.getD 3 .junk, l44.getD 4 .junk, l44.getD 5 .junk, l44.getD 6 .junk, l44.getD 7 .junk, v67, v58, l44.getD 10 .junk, l44.getD 11 .junk, l44.getD 12 .junk, l44.getD 13 .junk, l44.getD 14 .junk, v70, l44.getD 16 .junk, l44.getD 17 .junk, l44.getD 18 .junk] H68) (optA (intA .add (l44.getD 15 .junk) (.d (.int .i64 1))) fun v71 => X43 [l44.getD 0 .junk, v55, l44.getD 2 .junk, l44.getD 3 .junk, l44.getD 4 .junk, l44.getD 5 .junk, l44.getD 6 .junk, l44.getD 7 .junk, .d (.sl true []), v58, l44.getD 10 .junk, l44.getD 11 .junk, l44.getD 12 .junk, l44.getD 13 .junk, l44.getD 14 .junk, v71, l44.getD 16 .junk, l44.getD 17 .junk, l44.getD 18 .junk] H59)) (optA (intA .eql v58 (l44.getD 9 .junk)) fun v72 => ifA v72 (newK H59 (fun n75 => bsA ti3 1 [0] [l44.getD 15 .junk] H59 n75) fun v73 H74 => newK H74 (fun n78 => apA 1 8 (l44.getD 8 .junk) v73 H74 n78) fun v76 H77 => optA (intA .add (l44.getD 15 .junk) (.d (.int .i64 1))) fun v79 => X43 [l44.getD 0 .junk, v55, l44.getD 2 .junk, l44.getD 3 .junk, l44.getD 4 .junk, l44.getD 5 .junk, l44.getD 6 .junk, l44.getD 7 .junk, v76, l44.getD 9 .junk, l44.getD 10 .junk, l44.getD 11 .junk, l44.getD 12 .junk, l44.getD 13 .junk, l44.getD 14 .junk, v79, l44.getD 16 .junk, l44.getD 17 .junk, l44.getD 18 .junk] H77) (optA (intA .add (l44.getD 15 .junk) (.d (.int .i64 1))) fun v80 => X43 [l44.getD 0 .junk, v55, l44.getD 2 .junk, l44.getD 3 .junk, l44.getD 4 .junk, l44.getD 5 .junk, l44.getD 6 .junk, l44.getD 7 .junk, l44.getD 8 .junk, l44.getD 9 .junk, l44.getD 10 .junk, l44.getD 11 .junk, l44.getD 12 .junk, l44.getD 13 .junk, l44.getD 14 .junk, v80, l44.getD 16 .junk, l44.getD 17 .junk, l44.getD 18 .junk] H59)))) (optA (indexAddrA ti22 1 (l44.getD 6 .junk) (l44.getD 15 .junk)) fun v81 => optA (ldV false 1 v81 H45) fun v82 => frzLK [l44.getD 15 .junk, v82] H45 fun l85 H86 => γ 52 l85 H86 fun v83 H84 => optA (intA .lss v83 (l44.getD 9 .junk)) fun v87 => ifA v87 (optA (intA .eql v83 v83) fun v88 => ifA v88 (newK H84 (fun n91 => bsA ti3 1 [0] [l44.getD 15 .junk] H84 n91) fun v89 H90 => newK H90 (fun n94 => apA 1 8 (.d (.sl true [])) v89 H90 n94) fun v92 H93 => optA (intA .add (l44.getD 15 .junk) (.d (.int .i64 1))) fun v95 => X43 [l44.getD 0 .junk, l44.getD 1 .junk, l44.getD 2 .junk, l44.getD 3 .junk, l44.getD 4 .junk, l44.getD 5 .junk, l44.getD 6 .junk, l44.getD 7 .junk, v92, v83, l44.getD 10 .junk, l44.getD 11 .junk, l44.getD 12 .junk, l44.getD 13 .junk, l44.getD 14 .junk, v95, l44.getD 16 .junk, l44.getD 17 .junk, l44.getD 18 .junk] H93) (optA (intA .add (l44.getD 15 .junk) (.d (.int .i64 1))) fun v96 => X43 [l44.getD 0 .junk, l44.getD 1 .junk, l44.getD 2 .junk, l44.getD 3 .junk, l44.getD 4 .junk, l44.getD 5 .junk, l44.getD 6 .junk, l44.getD 7 .junk, .d (.sl true []), v83, l44.getD 10 .junk, l44.getD 11 .junk, l44.getD 12 .junk, l44.getD 13 .junk, l44.getD 14 .junk, v96, l44.getD 16 .junk, l44.getD 17 .junk, l44.getD 18 .junk] H84)) (optA (intA .eql v83 (l44.getD 9 .junk)) fun v97 => ifA v97 (newK H84 (fun n100 => bsA ti3 1 [0] [l44.getD 15 .junk] H84 n100) fun v98 H99 => newK H99 (fun n103 => apA 1 8 (l44.getD 8 .junk) v98 H99 n103) fun v101 H102 => optA (intA .add (l44.getD 15 .junk) (.d (.int .i64 1))) fun v104 => X43 [l44.getD 0 .junk, l44.getD 1 .junk, l44.getD 2 .junk, l44.getD 3 .junk, l44.getD 4 .junk, l44.getD 5 .junk, l44.getD 6 .junk, l44.getD 7 .junk, v101, l44.getD 9 .junk, l44.getD 10 .junk, l44.getD 11 .junk, l44.getD 12 .junk, l44.getD 13 .junk, l44.getD 14 .junk, v104, l44.getD 16 .junk, l44.getD 17 .junk, l44.getD 18 .junk] H102) (optA (intA .add (l44.getD 15 .junk) (.d (.int .i64 1))) fun v105 => X43 [l44.getD 0 .junk, l44.getD 1 .junk, l44.getD 2 .junk, l44.getD 3 .junk, l44.getD 4 .junk, l44.getD 5 .junk, l44.getD 6 .junk, l44.getD 7 .junk, l44.getD 8 .junk, l44.getD 9 .junk, l44.getD 10 .junk, l44.getD 11 .junk, l44.getD 12 .junk, l44.getD 13 .junk, l44.getD 14 .junk, v105, l44.getD 16 .junk, l44.getD 17 .junk, l44.getD 18 .junk] H84))))) (optA (lenSl (l44.getD 8 .junk)) fun v106 => optA (intA .eql v106 (.d (.int .i64 1))) fun v107 => ifA v107 (optA (indexAddrA ti22 1 (l44.getD 8 .junk) (.d (.int .i64 0))) fun v108 => optA (ldV false 1 v108 H45) fun v109 => newK H45 (fun n112 => bsA ti3 1 [0] [v109] H45 n112) fun v110 H111 => newK H111 (fun n115 => apA 1 8 (l44.getD 2 .junk) v110 H111 n115) fun v113 H114 => optA (indexAddrA ti22 1 (l44.getD 5 .junk) v109) fun v116 => optA (ldV false 1 v116 H114) fun v117 => optA (intA .sub v117 (.d (.int .i64 1))) fun v118 => optA (indexAddrA ti22 1 (l44.getD 5 .junk) v109) fun v119 => stepK (stoA false 1 v119 v118 H114) H114 fun v120 H121 => optA (indexAddrA ti22 1 (l44.getD 6 .junk) v109) fun v122 => optA (ldV false 1 v122 H121) fun v123 => optA (intA .quo v123 (.d (.int .i64 2))) fun v124 => optA (foldA max2A [v124, .d (.int .i64 1)]) fun v125 => optA (indexAddrA ti22 1 (l44.getD 6 .junk) v109) fun v126 => stepK (stoA false 1 v126 v125 H121) H121 fun v127 H128 => optA (intA .add (l44.getD 7 .junk) (.d (.int .i64 1))) fun v129 => X36 [l44.getD 0 .junk, l44.getD 1 .junk, v113, l44.getD 3 .junk, l44.getD 4 .junk, l44.getD 5 .junk, l44.getD 6 .junk, v129, l44.getD 8 .junk, l44.getD 9 .junk, l44.getD 10 .junk, l44.getD 11 .junk, l44.getD 12 .junk, l44.getD 13 .junk, l44.getD 14 .junk, l44.getD 15 .junk, l44.getD 16 .junk, l44.getD 17 .junk, l44.getD 18 .junk] H128) (optA (intA .add (l44.getD 3 .junk) (.d (.int .i64 1))) fun v130 => optA (lenSl (l44.getD 8 .junk)) fun v131 => loopA (fun X132 l133 H134 => optA (intA .lss (l133.getD 18 .junk) (l133.getD 17 .junk)) fun v135 => ifA v135 (optA (indexAddrA ti22 1 (l133.getD 16 .junk) (l133.getD 18 .junk)) fun v136 => optA (ldV false 1 v136 H134) fun v137 => optA (indexAddrA ti22 1 (l133.getD 6 .junk) v137) fun v138 => optA (ldV false 1 v138 H134) fun v139 => optA (intA .mul (.d (.int .i64 2)) v139) fun v140 => optA (foldA min2A [v140, .d (.int .i64 16)]) fun v141 => optA (indexAddrA ti22 1 (l133.getD 6 .junk) v137) fun v142 => stepK (stoA false 1 v142 v141 H134) H134 fun v143 H144 => optA (intA .add (l133.getD 18 .junk) (.d (.int .i64 1))) fun v145 => X132 [l133.getD 0 .junk, l133.getD 1 .junk, l133.getD 2 .junk, l133.getD 3 .junk, l133.getD 4 .junk, l133.getD 5 .junk, l133.getD 6 .junk, l133.getD 7 .junk, l133.getD 8 .junk, l133.getD 9 .junk, l133.getD 10 .junk, l133.getD 11 .junk, l133.getD 12 .junk, l133.getD 13 .junk, l133.getD 14 .junk, l133.getD 15 .junk, l133.getD 16 .junk, l133.getD 17 .junk, v145] H144) (optA (intA .add (l133.getD 7 .junk) (.d (.int .i64 1))) fun v146 => X36 [l133.getD 0 .junk, l133.getD 1 .junk, l133.getD 2 .junk, l133.getD 3 .junk, l133.getD 4 .junk, l133.getD 5 .junk, l133.getD 6 .junk, v146, l133.getD 8 .junk, l133.getD 9 .junk, l133.getD 10 .junk, l133.getD 11 .junk, l133.getD 12 .junk, l133.getD 13 .junk, l133.getD 14 .junk, l133.getD 15 .junk, l133.getD 16 .junk, l133.getD 17 .junk, l133.getD 18 .junk] H134)) [l44.getD 0 .junk, l44.getD 1 .junk, l44.getD 2 .junk, v130, l44.getD 4 .junk, l44.getD 5 .junk, l44.getD 6 .junk, l44.getD 7 .junk, l44.getD 8 .junk, l44.getD 9 .junk, l44.getD 10 .junk, l44.getD 11 .junk, l44.getD 12 .junk, l44.getD 13 .junk, l44.getD 14 .junk, l44.getD 15 .junk, l44.getD 8 .junk, v131, .d (.int .i64 0)] H45))) [l37.getD 0 .junk, l37.getD 1 .junk, l37.getD 2 .junk, l37.getD 3 .junk, l37.getD 4 .junk, l37.getD 5 .junk, l37.getD 6 .junk, l37.getD 7 .junk, .d (.sl true []), .d (.int .i64 16), l37.getD 10 .junk, l37.getD 11 .junk, l37.getD 12 .junk, l37.getD 5 .junk, v42, .d (.int .i64 0), l37.getD 16 .junk, l37.getD 17 .junk, l37.getD 18 .junk] H38)) (retF [l37.getD 2 .junk, l37.getD 3 .junk, .d (.int .i64 0)] H38 K)) [l13.getD 0 .junk, l13.getD 1 .junk, l13.getD 2 .junk, l13.getD 3 .junk, l13.getD 4 .junk, v24, v32, .d (.int .i64 0), l13.getD 8 .junk, l13.getD 9 .junk, l13.getD 10 .junk, l13.getD 11 .junk, l13.getD 12 .junk, l13.getD 13 .junk, l13.getD 14 .junk, l13.getD 15 .junk, l13.getD 16 .junk, l13.getD 17 .junk, l13.getD 18 .junk] H33))) [a0, a1, .d (.sl true []), .d (.int .i64 0), .d (.int .i64 0), .junk, .junk, .junk, .junk, .junk, a0, v11, .d (.int .i64 0), .junk, .junk, .junk, .junk, .junk, .junk] H8)))
noncomputable def r23_0 : List Oper := regOps Try.f23 0
noncomputable def r23_1 : List Oper := regOps Try.f23 1
noncomputable def r23_2 : List Oper := regOps Try.f23 2
noncomputable def r23_3 : List Oper := regOps Try.f23 3
noncomputable def r23_4 : List Oper := regOps Try.f23 4
noncomputable def r23_5 : List Oper := regOps Try.f23 5
noncomputable def r23_6 : List Oper := regOps Try.f23 6
noncomputable def r23_7 : List Oper := regOps Try.f23 7
noncomputable def r23_8 : List Oper := regOps Try.f23 8
noncomputable def r23_9 : List Oper := regOps Try.f23 9
noncomputable def r23_10 : List Oper := regOps Try.f23 10
noncomputable def r23_11 : List Oper := regOps Try.f23 11
noncomputable def r23_12 : List Oper := regOps Try.f23 12
noncomputable def r23_13 : List Oper := regOps Try.f23 13
noncomputable def r23_14 : List Oper := regOps Try.f23 14
noncomputable def r23_15 : List Oper := regOps Try.f23 15
noncomputable def r23_16 : List Oper := regOps Try.f23 16
noncomputable def r23_17 : List Oper := regOps Try.f23 17
noncomputable def r23_18 : List Oper := regOps Try.f23 18
noncomputable def r23_19 : List Oper := regOps Try.f23 19
noncomputable def r23_20 : List Oper := regOps Try.f23 20
noncomputable def r23_21 : List Oper := regOps Try.f23 21
noncomputable def r23_22 : List Oper := regOps Try.f23 22
noncomputable def r23_23 : List Oper := regOps Try.f23 23
noncomputable def r23_24 : List Oper := regOps Try.f23 24
noncomputable def r23_25 : List Oper := regOps Try.f23 25
noncomputable def r23_26 : List Oper := regOps Try.f23 26
noncomputable def r23_27 : List Oper := regOps Try.f23 27
noncomputable def r23_28 : List Oper := regOps Try.f23 28
noncomputable def r23_29 : List Oper := regOps Try.f23 29
noncomputable def r23_30 : List Oper := regOps Try.f23 30
noncomputable def r23_31 : List Oper := regOps Try.f23 31
noncomputable def r23_32 : List Oper := regOps Try.f23 32
noncomputable def r23_33 : List Oper := regOps Try.f23 33
noncomputable def r23_34 : List Oper := regOps Try.f23 34
noncomputable def r23_35 : List Oper := regOps Try.f23 35
noncomputable def r23_36 : List Oper := regOps Try.f23 36
noncomputable def r23_37 : List Oper := regOps Try.f23 37
noncomputable def r23_38 : List Oper := regOps Try.f23 38
noncomputable def r23_39 : List Oper := regOps Try.f23 39
noncomputable def r23_40 : List Oper := regOps Try.f23 40
noncomputable def r23_41 : List Oper := regOps Try.f23 41
noncomputable def r23_42 : List Oper := regOps Try.f23 42
noncomputable def r23_43 : List Oper := regOps Try.f23 43
noncomputable def r23_44 : List Oper := regOps Try.f23 44
noncomputable def r23_45 : List Oper := regOps Try.f23 45
noncomputable def r23_46 : List Oper := regOps Try.f23 46
noncomputable def r23_47 : List Oper := regOps Try.f23 47
noncomputable def c23 : Code := (.seq (.region 0 #[opAt r23_0 0, opAt r23_0 1, opAt r23_0 2] false) (.seq (.region 1 #[opAt r23_1 0] false) (.seq (.region 2 #[opAt r23_2 0] false) (.seq (.seq (.region 3 #[opAt r23_3 0, opAt r23_3 1, opAt r23_3 2, opAt r23_3 3, opAt r23_3 4, opAt r23_3 5, opAt r23_3 6, opAt r23_3 7, opAt r23_3 8, opAt r23_3 9, opAt r23_3 10, opAt r23_3 11, opAt r23_3 12] false) (.cond (.tmp 34) (.seq (.region 4 #[opAt r23_4 0, opAt r23_4 1, opAt r23_4 2] false) .ret) .skip)) (.seq (.seq (.region 5 #[opAt r23_5 0, opAt r23_5 1, opAt r23_5 2] false) (.block 0 (.loop (.seq (.region 6 #[opAt r23_6 0] false) (.seq (.cond (.tmp 38) .skip (.exit 0)) (.seq (.block 1 (.seq (.region 7 #[opAt r23_7 0, opAt r23_7 1, opAt r23_7 2] false) (.seq (.region 8 #[opAt r23_8 0, opAt r23_8 1, opAt r23_8 2, opAt r23_8 3, opAt r23_8 4] false) (.seq (.region 9 #[opAt r23_9 0, opAt r23_9 1] false) (.cond (.tmp 46) (.region 10 #[opAt r23_10 0] false) .skip))))) (.region 11 #[opAt r23_11 0, opAt r23_11 1] false))))))) (.seq (.seq (.region 12 #[opAt r23_12 0, opAt r23_12 1] false) (.cond (.tmp 49) (.seq (.region 13 #[opAt r23_13 0, opAt r23_13 1, opAt r23_13 2] false) .ret) .skip)) (.seq (.region 14 #[opAt r23_14 0, opAt r23_14 1, opAt r23_14 2] false) (.seq (.region 15 #[opAt r23_15 0, opAt r23_15 1, opAt r23_15 2, opAt r23_15 3, opAt r23_15 4] false) (.seq (.seq (.region 16 #[opAt r23_16 0] false) (.block 2 (.loop (.seq (.seq (.region 17 #[opAt r23_17 0, opAt r23_17 1, opAt r23_17 2, opAt r23_17 3] false) (.cond (.tmp 59) .skip (.exit 2))) (.seq (.block 3 (.seq (.seq (.region 19 #[opAt r23_18 0, opAt r23_18 1] false) (.cond (.tmp 63) (.seq (.region 20 #[opAt r23_19 0, opAt r23_19 1, opAt r23_19 2] false) .ret) .skip)) (.seq (.region 21 #[opAt r23_20 0] false) (.seq (.region 22 #[opAt r23_21 0] false) (.seq (.seq (.region 23 #[opAt r23_22 0, opAt r23_22 1, opAt r23_22 2] false) (.block 4 (.loop (.seq (.region 24 #[opAt r23_23 0] false) (.seq (.cond (.tmp 67) .skip (.exit 4)) (.seq (.block 5 (.seq (.region 25 #[opAt r23_24 0, opAt r23_24 1, opAt r23_24 2, opAt r23_24 3, opAt r23_24 4] false) (.seq (.seq (.region 26 #[opAt r23_25 0, opAt r23_25 1] false) (.cond (.tmp 72) (.exit 5) .skip)) (.seq (.region 27 #[opAt r23_26 0, opAt r23_26 1] false) (.seq (.seq (.region 28 #[opAt r23_27 0, opAt r23_27 1, opAt r23_27 2] false) (.cond (.tmp 76) (.region 29 #[opAt r23_28 0, opAt r23_28 1, opAt r23_28 2, opAt r23_28 3, opAt r23_28 4, opAt r23_28 5, opAt r23_28 6] true) .skip)) (.seq (.region 30 #[opAt r23_29 0, opAt r23_29 1, opAt r23_29 2, opAt r23_29 3, opAt r23_29 4, opAt r23_29 5, opAt r23_29 6] false) (.seq (.seq (.region 31 #[opAt r23_30 0, opAt r23_30 1, opAt r23_30 2] false) (.cond (.tmp 90) (.region 32 #[opAt r23_31 0, opAt r23_31 1, opAt r23_31 2] false) .skip)) (.seq (.region 33 #[opAt r23_32 0, opAt r23_32 1, opAt r23_32 2] false) (.cond (.tmp 94) (.region 34 #[opAt r23_33 0, opAt r23_33 1, opAt r23_33 2, opAt r23_33 3, opAt r23_33 4] false) .skip))))))))) (.region 35 #[opAt r23_34 0, opAt r23_34 1] false))))))) (.seq (.seq (.region 36 #[opAt r23_35 0, opAt r23_35 1, opAt r23_35 2] false) (.cond (.tmp 102) (.seq (.region 37 #[opAt r23_36 0, opAt r23_36 1, opAt r23_36 2, opAt r23_36 3] false) (.seq (.region 38 #[opAt r23_37 0, opAt r23_37 1, opAt r23_37 2, opAt r23_37 3, opAt r23_37 4] false) (.seq (.region 39 #[opAt r23_38 0, opAt r23_38 1, opAt r23_38 2, opAt r23_38 3, opAt r23_38 4, opAt r23_38 5, opAt r23_38 6] false) (.seq (.region 40 #[opAt r23_39 0, opAt r23_39 1, opAt r23_39 2, opAt r23_39 3, opAt r23_39 4, opAt r23_39 5, opAt r23_39 6, opAt r23_39 7, opAt r23_39 8, opAt r23_39 9] false) (.exit 3))))) .skip)) (.seq (.region 41 #[opAt r23_40 0, opAt r23_40 1, opAt r23_40 2] false) (.seq (.region 42 #[opAt r23_41 0, opAt r23_41 1, opAt r23_41 2] false) (.block 6 (.loop (.seq (.region 43 #[opAt r23_42 0] false) (.seq (.cond (.tmp 130) .skip (.exit 6)) (.seq (.block 7 (.seq (.region 44 #[opAt r23_43 0, opAt r23_43 1, opAt r23_43 2] false) (.region 45 #[opAt r23_44 0, opAt r23_44 1, opAt r23_44 2, opAt r23_44 3, opAt r23_44 4, opAt r23_44 5, opAt r23_44 6, opAt r23_44 7, opAt r23_44 8, opAt r23_44 9] false))) (.region 46 #[opAt r23_45 0, opAt r23_45 1] false)))))))))))))) (.region 18 #[opAt r23_46 0, opAt r23_46 1, opAt r23_46 2] false)))))) (.seq (.region 47 #[opAt r23_47 0, opAt r23_47 1, opAt r23_47 2, opAt r23_47 3, opAt r23_47 4] false) .ret))))))))))
theorem c23_eq : Try.f23.body = some c23 := by kernel_rfl
theorem S23_eq (γ : Calld) (a0 a1 : AV) (H : AHeap) (K : AV → AHeap → Prop) : execC Try.prog γ pol23 Try.f23 c23 [a0, a1] H K = S23 γ a0 a1 H K := by kernel_rfl
theorem C23 {a0 a1 : AV} {H : AHeap} {K : AV → AHeap → Prop} (h : S23 (CallsA Try.prog) a0 a1 H K) : CallsA Try.prog 23 [a0, a1] H K :=
  calls_of Try.func23 (ne_of_beq_false (by kernel_rfl)) c23_eq (by kernel_rfl) (by rw [S23_eq]; exact h)
/-! (*tithing/bus.Bus).Turn -/
def pol24 : Pol := { lend := fun g => !([34, 57, 63] : List Nat).contains g, keep := [], frz := fun _ => [], perm := fun r => [], bf := fun r => [], ret := true }
def S24 (γ : Calld) (a0 a1 a2 : AV) (H : AHeap) (K : AV → AHeap → Prop) : Prop :=
  frzLK [a0, a1] H fun l3 H4 => γ 33 l3 H4 fun v1 H2 => optA (intA .neq v1 (.d (.int .i64 0))) fun v5 => ifA v5 (retF [v1] H2 K) (optA (nilCkA a0) fun v6 => optA (fieldA ti52 v6 2) fun v7 => optA (ldV false 1 v7 H2) fun v8 => optA (indexAddrA ti50 1 v8 a1) fun v9 => optA (ldV false 1 v9 H2) fun v10 => optA (nilCkA v10) fun v11 => optA (fieldA ti68 v11 1) fun v12 => optA (ldV false 1 v12 H2) fun v13 => optA (boolA .neq v13 a2) fun v14 => ifA v14 (optA (nilCkA v10) fun v15 => optA (fieldA ti68 v15 1) fun v16 => stepK (stoA false 1 v16 a2 H2) H2 fun v17 H18 => optA (nilCkA v10) fun v19 => optA (fieldA ti68 v19 2) fun v20 => stepK (stoA false 1 v20 (.d (.int .i64 0)) H18) H18 fun v21 H22 => retF [.d (.int .i64 0)] H22 K) (retF [.d (.int .i64 0)] H2 K))
noncomputable def r24_0 : List Oper := regOps Try.f24 0
noncomputable def r24_1 : List Oper := regOps Try.f24 1
noncomputable def r24_2 : List Oper := regOps Try.f24 2
noncomputable def r24_3 : List Oper := regOps Try.f24 3
noncomputable def r24_4 : List Oper := regOps Try.f24 4
noncomputable def r24_5 : List Oper := regOps Try.f24 5
noncomputable def r24_6 : List Oper := regOps Try.f24 6
noncomputable def r24_7 : List Oper := regOps Try.f24 7
noncomputable def c24 : Code := (.seq (.region 0 #[opAt r24_0 0] false) (.seq (.seq (.region 1 #[opAt r24_1 0, opAt r24_1 1, opAt r24_1 2, opAt r24_1 3] false) (.seq (.region 2 #[opAt r24_2 0, opAt r24_2 1] false) (.cond (.tmp 13) (.seq (.region 3 #[opAt r24_3 0, opAt r24_3 1] false) .ret) .skip))) (.seq (.region 4 #[opAt r24_4 0, opAt r24_4 1, opAt r24_4 2, opAt r24_4 3, opAt r24_4 4, opAt r24_4 5, opAt r24_4 6, opAt r24_4 7] false) (.seq (.seq (.region 5 #[opAt r24_5 0, opAt r24_5 1, opAt r24_5 2, opAt r24_5 3, opAt r24_5 4, opAt r24_5 5] false) (.cond (.tmp 27) (.region 6 #[opAt r24_6 0, opAt r24_6 1, opAt r24_6 2, opAt r24_6 3, opAt r24_6 4, opAt r24_6 5, opAt r24_6 6, opAt r24_6 7, opAt r24_6 8] false) .skip)) (.seq (.region 7 #[opAt r24_7 0] false) .ret)))))
theorem c24_eq : Try.f24.body = some c24 := by kernel_rfl
theorem S24_eq (γ : Calld) (a0 a1 a2 : AV) (H : AHeap) (K : AV → AHeap → Prop) : execC Try.prog γ pol24 Try.f24 c24 [a0, a1, a2] H K = S24 γ a0 a1 a2 H K := by kernel_rfl
theorem C24 {a0 a1 a2 : AV} {H : AHeap} {K : AV → AHeap → Prop} (h : S24 (CallsA Try.prog) a0 a1 a2 H K) : CallsA Try.prog 24 [a0, a1, a2] H K :=
  calls_of Try.func24 (ne_of_beq_false (by kernel_rfl)) c24_eq (by kernel_rfl) (by rw [S24_eq]; exact h)
/-! (*tithing/bus.Bus).Frames -/
def pol25 : Pol := { lend := fun g => !([34, 57, 63] : List Nat).contains g, keep := [], frz := fun _ => [], perm := fun r => [], bf := fun r => [], ret := true }
def S25 (γ : Calld) (a0 : AV) (H : AHeap) (K : AV → AHeap → Prop) : Prop :=
  frzLK [a0] H fun l3 H4 => γ 31 l3 H4 fun v1 H2 => ifA v1 (retF [.d (.int .i64 0)] H2 K) (optA (nilCkA a0) fun v5 => optA (fieldA ti52 v5 3) fun v6 => optA (ldV false 1 v6 H2) fun v7 => retF [v7] H2 K)
noncomputable def r25_0 : List Oper := regOps Try.f25 0
noncomputable def r25_1 : List Oper := regOps Try.f25 1
noncomputable def r25_2 : List Oper := regOps Try.f25 2
noncomputable def r25_3 : List Oper := regOps Try.f25 3
noncomputable def c25 : Code := (.seq (.region 0 #[opAt r25_0 0] false) (.seq (.seq (.region 1 #[opAt r25_1 0, opAt r25_1 1] false) (.cond (.tmp 4) (.seq (.region 2 #[opAt r25_2 0] false) .ret) .skip)) (.seq (.region 3 #[opAt r25_3 0, opAt r25_3 1, opAt r25_3 2, opAt r25_3 3, opAt r25_3 4] false) .ret)))
theorem c25_eq : Try.f25.body = some c25 := by kernel_rfl
theorem S25_eq (γ : Calld) (a0 : AV) (H : AHeap) (K : AV → AHeap → Prop) : execC Try.prog γ pol25 Try.f25 c25 [a0] H K = S25 γ a0 H K := by kernel_rfl
theorem C25 {a0 : AV} {H : AHeap} {K : AV → AHeap → Prop} (h : S25 (CallsA Try.prog) a0 H K) : CallsA Try.prog 25 [a0] H K :=
  calls_of Try.func25 (ne_of_beq_false (by kernel_rfl)) c25_eq (by kernel_rfl) (by rw [S25_eq]; exact h)
/-! (*tithing/bus.Bus).Copy -/
def pol26 : Pol := { lend := fun g => !([34, 57, 63] : List Nat).contains g, keep := [3, 22, 23, 24], frz := fun _ => [], perm := fun r => if r = 3 then [0, 1, 2, 3, 4, 5, 6, 7, 8, 9, 10] else [], bf := fun r => if r = 3 then [0, 1, 3, 7, 0, 16, 48, 112, 255, 511, 1023] else [], ret := true }
def S26 (γ : Calld) (a0 : AV) (H : AHeap) (K : AV → AHeap → Prop) : Prop :=
  frzLK [a0] H fun l3 H4 => γ 31 l3 H4 fun v1 H2 => ifA v1 (retF [.nilptr] H2 K) (drA true (optA (nilCkA a0) fun v5 => optA (fieldA ti52 v5 1) fun v6 => optA (ldV false 1 v6 H2) fun v7 => optA (nilCkA a0) fun v8 => optA (fieldA ti52 v8 3) fun v9 => optA (ldV false 1 v9 H2) fun v10 => noRsA (aggL (.d (.bool true))) (noRsA (aggL v7) (noRsA (aggL v10) (stepK (bdA Try.prog ti52 [0, 1, 3] [.d (.bool true), v7, v10] H2) H2 fun v11 H12 => newK H12 (fun n15 => boxA v11 n15) fun v13 H14 => optA (nilCkA a0) fun v16 => optA (fieldA ti52 v16 2) fun v17 => optA (ldV false 1 v17 H14) fun v18 => optA (lenSl v18) fun v19 => loopA (fun X20 l21 H22 => optA (intA .lss (l21.getD 3 .junk) (l21.getD 2 .junk)) fun v23 => ifA v23 (optA (indexAddrA ti50 1 (l21.getD 1 .junk) (l21.getD 3 .junk)) fun v24 => optA (ldV false 1 v24 H22) fun v25 => optA (nilCkA v25) fun v26 => optA (ldV true 6 v26 H22) fun v27 => newK H22 (fun n30 => some (.ptr n30 0 0 0, [(n30, .mem 0 0 6 [[.d (.sl true []), .d (.bool false), .d (.int .i64 0), .d (.int .i64 0), .d (.int .i64 0), .d (.int .i64 0)]])])) fun v28 H29 => stepK (stoA true 6 v28 v27 H29) H29 fun v31 H32 => optA (nilCkA (l21.getD 0 .junk)) fun v33 => optA (fieldA ti52 v33 2) fun v34 => optA (ldV false 1 v34 H32) fun v35 => newK H32 (fun n38 => bsA ti65 1 [0] [v28] H32 n38) fun v36 H37 => newK H37 (fun n41 => apA 1 8 v35 v36 H37 n41) fun v39 H40 => optA (nilCkA (l21.getD 0 .junk)) fun v42 => optA (fieldA ti52 v42 2) fun v43 => stepK (stoA false 1 v43 v39 H40) H40 fun v44 H45 => optA (intA .add (l21.getD 3 .junk) (.d (.int .i64 1))) fun v46 => X20 [l21.getD 0 .junk, l21.getD 1 .junk, l21.getD 2 .junk, v46] H45) (retF [l21.getD 0 .junk] H22 K)) [v13, v18, v19, .d (.int .i64 0)] H14)))))
noncomputable def r26_0 : List Oper := regOps Try.f26 0
noncomputable def r26_1 : List Oper := regOps Try.f26 1
noncomputable def r26_2 : List Oper := regOps Try.f26 2
noncomputable def r26_3 : List Oper := regOps Try.f26 3
noncomputable def r26_4 : List Oper := regOps Try.f26 4
noncomputable def r26_5 : List Oper := regOps Try.f26 5
noncomputable def r26_6 : List Oper := regOps Try.f26 6
noncomputable def r26_7 : List Oper := regOps Try.f26 7
noncomputable def r26_8 : List Oper := regOps Try.f26 8
noncomputable def r26_9 : List Oper := regOps Try.f26 9
noncomputable def r26_10 : List Oper := regOps Try.f26 10
noncomputable def c26 : Code := (.seq (.region 0 #[opAt r26_0 0] false) (.seq (.seq (.region 1 #[opAt r26_1 0, opAt r26_1 1] false) (.cond (.tmp 8) (.seq (.region 2 #[opAt r26_2 0] false) .ret) .skip)) (.seq (.region 3 #[opAt r26_3 0, opAt r26_3 1, opAt r26_3 2, opAt r26_3 3, opAt r26_3 4, opAt r26_3 5, opAt r26_3 6, opAt r26_3 7, opAt r26_3 8, opAt r26_3 9, opAt r26_3 10] true) (.seq (.seq (.region 4 #[opAt r26_4 0, opAt r26_4 1, opAt r26_4 2, opAt r26_4 3, opAt r26_4 4, opAt r26_4 5] false) (.block 0 (.loop (.seq (.region 5 #[opAt r26_5 0] false) (.seq (.cond (.tmp 25) .skip (.exit 0)) (.seq (.block 1 (.seq (.region 6 #[opAt r26_6 0, opAt r26_6 1, opAt r26_6 2] false) (.seq (.region 7 #[opAt r26_7 0, opAt r26_7 1, opAt r26_7 2, opAt r26_7 3, opAt r26_7 4] false) (.region 8 #[opAt r26_8 0, opAt r26_8 1, opAt r26_8 2, opAt r26_8 3, opAt r26_8 4, opAt r26_8 5, opAt r26_8 6, opAt r26_8 7, opAt r26_8 8, opAt r26_8 9] false)))) (.region 9 #[opAt r26_9 0, opAt r26_9 1] false))))))) (.seq (.region 10 #[opAt r26_10 0, opAt r26_10 1] false) .ret)))))
theorem c26_eq : Try.f26.body = some c26 := by kernel_rfl
theorem S26_eq (γ : Calld) (a0 : AV) (H : AHeap) (K : AV → AHeap → Prop) : execC Try.prog γ pol26 Try.f26 c26 [a0] H K = S26 γ a0 H K := by kernel_rfl
theorem C26 {a0 : AV} {H : AHeap} {K : AV → AHeap → Prop} (h : S26 (CallsA Try.prog) a0 H K) : CallsA Try.prog 26 [a0] H K :=
  calls_of Try.func26 (ne_of_beq_false (by kernel_rfl)) c26_eq (by kernel_rfl) (by rw [S26_eq]; exact h)
/-! tithing/bus.Same -/
def pol27 : Pol := { lend := fun g => !([34, 57, 63] : List Nat).contains g, keep := [], frz := fun _ => [], perm := fun r => if r = 4 then [0, 1, 2, 3, 4, 5, 6, 7, 8, 9, 10, 11, 12, 13, 14, 15, 16, 17, 18, 19, 20, 21, 22, 23, 24, 25, 26, 27, 28, 29] else [], bf := fun r => if r = 4 then [0, 1, 3, 7, 0, 16, 48, 112, 255, 511, 1023, 1023, 4095, 1023, 1023, 32767, 65535, 131071, 262143, 524287, 1048575, 2097151, 4194303, 524287, 8912895, 25690111, 59244543, 134217727, 268435455, 536870911] else [], ret := true }
def S27 (γ : Calld) (a0 a1 : AV) (H : AHeap) (K : AV → AHeap → Prop) : Prop :=
  frzLK [a0] H fun l3 H4 => γ 31 l3 H4 fun v1 H2 => ifA v1 (frzLK [a0] H2 fun l7 H8 => γ 31 l7 H8 fun v5 H6 => ifA v5 (frzLK [a1] H6 fun l11 H12 => γ 31 l11 H12 fun v9 H10 => retF [v9] H10 K) (retF [.d (.bool false)] H6 K)) (frzLK [a1] H2 fun l15 H16 => γ 31 l15 H16 fun v13 H14 => ifA v13 (frzLK [a0] H14 fun l19 H20 => γ 31 l19 H20 fun v17 H18 => ifA v17 (frzLK [a1] H18 fun l23 H24 => γ 31 l23 H24 fun v21 H22 => retF [v21] H22 K) (retF [.d (.bool false)] H18 K)) (drA true (optA (nilCkA a0) fun v25 => optA (fieldA ti52 v25 3) fun v26 => optA (ldV false 1 v26 H14) fun v27 => optA (nilCkA a1) fun v28 => optA (fieldA ti52 v28 3) fun v29 => optA (ldV false 1 v29 H14) fun v30 => optA (intA .eql v27 v30) fun v31 => ifA v31 (noRsA (aggL a0) (frzLK [a0] H14 fun l33 H35 => ∃ r34, γ 53 l33 H35 (fun v H2 => v = r34 ∧ AHeap.le H35 H2) ∧ (noRsA (aggL a1) (frzLK [a1] H35 fun l37 H39 => ∃ r38, γ 53 l37 H39 (fun v H2 => v = r38 ∧ AHeap.le H39 H2) ∧ (noRsA (aggL r34) (noRsA (aggL r38) (frzLK [r34, r38] H39 fun l41 H43 => ∃ r42, γ 56 l41 H43 (fun v H2 => v = r42 ∧ AHeap.le H43 H2) ∧ (ifA r42 (optA (nilCkA a0) fun v44 => optA (fieldA ti52 v44 2) fun v45 => optA (ldV false 1 v45 H43) fun v46 => optA (nilCkA a1) fun v47 => optA (fieldA ti52 v47 2) fun v48 => optA (ldV false 1 v48 H43) fun v49 => noRsA (aggL v46) (noRsA (aggL v49) (noRsA (aggL (.func 58 [] [])) (frzLK [v46, v49, .func 58 [] []] H43 fun l51 H53 => ∃ r52, γ 57 l51 H53 (fun v H2 => v = r52 ∧ AHeap.le H53 H2) ∧ (retF [r52] H53 K))))) (retF [.d (.bool false)] H43 K))))))))) (retF [.d (.bool false)] H14 K))))
noncomputable def r27_0 : List Oper := regOps Try.f27 0
noncomputable def r27_1 : List Oper := regOps Try.f27 1
noncomputable def r27_2 : List Oper := regOps Try.f27 2
noncomputable def r27_3 : List Oper := regOps Try.f27 3
noncomputable def r27_4 : List Oper := regOps Try.f27 4
noncomputable def c27 : Code := (.seq (.region 0 #[opAt r27_0 0] false) (.seq (.seq (.region 1 #[opAt r27_1 0, opAt r27_1 1, opAt r27_1 2, opAt r27_1 3, opAt r27_1 4, opAt r27_1 5] false) (.cond (.tmp 11) (.seq (.region 2 #[opAt r27_2 0, opAt r27_2 1, opAt r27_2 2, opAt r27_2 3, opAt r27_2 4, opAt r27_2 5, opAt r27_2 6] false) .ret) .skip)) (.seq (.region 3 #[opAt r27_3 0] false) (.seq (.region 4 #[opAt r27_4 0, opAt r27_4 1, opAt r27_4 2, opAt r27_4 3, opAt r27_4 4, opAt r27_4 5, opAt r27_4 6, opAt r27_4 7, opAt r27_4 8, opAt r27_4 9, opAt r27_4 10, opAt r27_4 11, opAt r27_4 12, opAt r27_4 13, opAt r27_4 14, opAt r27_4 15, opAt r27_4 16, opAt r27_4 17, opAt r27_4 18, opAt r27_4 19, opAt r27_4 20, opAt r27_4 21, opAt r27_4 22, opAt r27_4 23, opAt r27_4 24, opAt r27_4 25, opAt r27_4 26, opAt r27_4 27, opAt r27_4 28, opAt r27_4 29] true) .ret))))
theorem c27_eq : Try.f27.body = some c27 := by kernel_rfl
theorem S27_eq (γ : Calld) (a0 a1 : AV) (H : AHeap) (K : AV → AHeap → Prop) : execC Try.prog γ pol27 Try.f27 c27 [a0, a1] H K = S27 γ a0 a1 H K := by kernel_rfl
theorem C27 {a0 a1 : AV} {H : AHeap} {K : AV → AHeap → Prop} (h : S27 (CallsA Try.prog) a0 a1 H K) : CallsA Try.prog 27 [a0, a1] H K :=
  calls_of Try.func27 (ne_of_beq_false (by kernel_rfl)) c27_eq (by kernel_rfl) (by rw [S27_eq]; exact h)
/-! (*tithing/tithingref02.Bus).Copy -/
def pol28 : Pol := { lend := fun g => !([34, 57, 63] : List Nat).contains g, keep := [0, 3, 4], frz := fun _ => [], perm := fun r => if r = 8 then [0, 1, 2, 3, 4, 5, 6, 7, 8, 9, 10] else [], bf := fun r => if r = 8 then [0, 0, 2, 6, 14, 0, 32, 126, 255, 511, 1023] else [], ret := true }
def S28 (γ : Calld) (a0 : AV) (H : AHeap) (K : AV → AHeap → Prop) : Prop :=
  optA (nilCkA a0) fun v1 => optA (fieldA ti76 v1 0) fun v2 => optA (ldV false 1 v2 H) fun v3 => frzLK [v3] H fun l6 H7 => γ 20 l6 H7 fun v4 H5 => optA (nilCkA a0) fun v8 => optA (fieldA ti76 v8 2) fun v9 => optA (ldV false 1 v9 H5) fun v10 => optA (nilCkA v4) fun v11 => optA (fieldA ti76 v11 2) fun v12 => stepK (stoA false 1 v12 v10 H5) H5 fun v13 H14 => loopA (fun X15 l16 H17 => optA (nilCkA (l16.getD 0 .junk)) fun v18 => optA (fieldA ti76 v18 1) fun v19 => optA (ldV false 1 v19 H17) fun v20 => optA (lenSl v20) fun v21 => optA (intA .lss (l16.getD 2 .junk) v21) fun v22 => ifA v22 (optA (nilCkA (l16.getD 0 .junk)) fun v23 => optA (fieldA ti76 v23 1) fun v24 => optA (ldV false 1 v24 H17) fun v25 => optA (indexAddrA ti74 6 v25 (l16.getD 2 .junk)) fun v26 => optA (ldV true 6 v26 H17) fun v27 => newK H17 (fun n30 => some (.ptr n30 0 0 0, [(n30, .mem 0 0 6 [[.d (.sl true []), .d (.bool false), .d (.int .i64 0), .d (.int .i64 0), .d (.int .i64 0), .d (.int .i64 0)]])])) fun v28 H29 => stepK (stoA true 6 v28 v27 H29) H29 fun v31 H32 => newK H32 (fun n35 => bsA ti3 0 [] [] H32 n35) fun v33 H34 => optA (fieldA ti89 v28 0) fun v36 => optA (ldV false 1 v36 H34) fun v37 => newK H34 (fun n40 => apA 1 8 v33 v37 H34 n40) fun v38 H39 => optA (fieldA ti89 v28 0) fun v41 => stepK (stoA false 1 v41 v38 H39) H39 fun v42 H43 => drA true (optA (nilCkA (l16.getD 1 .junk)) fun v44 => optA (fieldA ti76 v44 1) fun v45 => optA (ldV false 1 v45 H43) fun v46 => optA (ldV true 6 v28 H43) fun v47 => apart (rsOf v47) v45 ∧ (noRsA (aggL v47) (newK H43 (fun n50 => bsA ti89 1 [0] [v47] H43 n50) fun v48 H49 => newK H49 (fun n53 => apA 6 64 v46 v48 H49 n53) fun v51 H52 => optA (nilCkA (l16.getD 1 .junk)) fun v54 => optA (fieldA ti76 v54 1) fun v55 => noRsA (aggL v51) (stepK (stoA false 1 v55 v51 H52) H52 fun v56 H57 => optA (intA .add (l16.getD 2 .junk) (.d (.int .i64 1))) fun v58 => X15 [l16.getD 0 .junk, l16.getD 1 .junk, v58] H57))))) (retF [l16.getD 1 .junk] H17 K)) [a0, v4, .d (.int .i64 0)] H14
noncomputable def r28_0 : List Oper := regOps Try.f28 0
noncomputable def r28_1 : List Oper := regOps Try.f28 1
noncomputable def r28_2 : List Oper := regOps Try.f28 2
noncomputable def r28_3 : List Oper := regOps Try.f28 3
noncomputable def r28_4 : List Oper := regOps Try.f28 4
noncomputable def r28_5 : List Oper := regOps Try.f28 5
noncomputable def r28_6 : List Oper := regOps Try.f28 6
noncomputable def r28_7 : List Oper := regOps Try.f28 7
noncomputable def r28_8 : List Oper := regOps Try.f28 8
noncomputable def r28_9 : List Oper := regOps Try.f28 9
noncomputable def c28 : Code := (.seq (.region 0 #[opAt r28_0 0] false) (.seq (.region 1 #[opAt r28_1 0, opAt r28_1 1, opAt r28_1 2, opAt r28_1 3, opAt r28_1 4, opAt r28_1 5] false) (.seq (.region 2 #[opAt r28_2 0, opAt r28_2 1, opAt r28_2 2, opAt r28_2 3, opAt r28_2 4, opAt r28_2 5, opAt r28_2 6, opAt r28_2 7] false) (.seq (.seq (.region 3 #[opAt r28_3 0] false) (.block 0 (.loop (.seq (.seq (.region 4 #[opAt r28_4 0, opAt r28_4 1, opAt r28_4 2, opAt r28_4 3, opAt r28_4 4, opAt r28_4 5, opAt r28_4 6] false) (.cond (.tmp 24) .skip (.exit 0))) (.seq (.block 1 (.seq (.region 6 #[opAt r28_5 0, opAt r28_5 1, opAt r28_5 2, opAt r28_5 3, opAt r28_5 4, opAt r28_5 5, opAt r28_5 6, opAt r28_5 7, opAt r28_5 8] false) (.seq (.region 7 #[opAt r28_6 0, opAt r28_6 1, opAt r28_6 2, opAt r28_6 3, opAt r28_6 4, opAt r28_6 5] false) (.region 8 #[opAt r28_7 0, opAt r28_7 1, opAt r28_7 2, opAt r28_7 3, opAt r28_7 4, opAt r28_7 5, opAt r28_7 6, opAt r28_7 7, opAt r28_7 8, opAt r28_7 9, opAt r28_7 10] true)))) (.region 5 #[opAt r28_8 0, opAt r28_8 1, opAt r28_8 2] false)))))) (.seq (.region 9 #[opAt r28_9 0, opAt r28_9 1] false) .ret)))))
theorem c28_eq : Try.f28.body = some c28 := by kernel_rfl
theorem S28_eq (γ : Calld) (a0 : AV) (H : AHeap) (K : AV → AHeap → Prop) : execC Try.prog γ pol28 Try.f28 c28 [a0] H K = S28 γ a0 H K := by kernel_rfl
theorem C28 {a0 : AV} {H : AHeap} {K : AV → AHeap → Prop} (h : S28 (CallsA Try.prog) a0 H K) : CallsA Try.prog 28 [a0] H K :=
  calls_of Try.func28 (ne_of_beq_false (by kernel_rfl)) c28_eq (by kernel_rfl) (by rw [S28_eq]; exact h)
/-! slices.Sorted[int] -/
def pol29 : Pol := { lend := fun g => !([34, 57, 63] : List Nat).contains g, keep := [], frz := fun _ => [], perm := fun r => [], bf := fun r => [], ret := true }
def S29 (γ : Calld) (a0 : AV) (H : AHeap) (K : AV → AHeap → Prop) : Prop :=
  frzLK [a0] H fun l3 H4 => γ 59 l3 H4 fun v1 H2 => frzLK [v1] H2 fun l7 H8 => γ 60 l7 H8 fun v5 H6 => retF [v1] H6 K
noncomputable def r29_0 : List Oper := regOps Try.f29 0
noncomputable def r29_1 : List Oper := regOps Try.f29 1
noncomputable def r29_2 : List Oper := regOps Try.f29 2
noncomputable def r29_3 : List Oper := regOps Try.f29 3
noncomputable def c29 : Code := (.seq (.region 0 #[opAt r29_0 0] false) (.seq (.region 1 #[opAt r29_1 0, opAt r29_1 1, opAt r29_1 2] false) (.seq (.region 2 #[opAt r29_2 0, opAt r29_2 1] false) (.seq (.region 3 #[opAt r29_3 0, opAt r29_3 1] false) .ret))))
theorem c29_eq : Try.f29.body = some c29 := by kernel_rfl
theorem S29_eq (γ : Calld) (a0 : AV) (H : AHeap) (K : AV → AHeap → Prop) : execC Try.prog γ pol29 Try.f29 c29 [a0] H K = S29 γ a0 H K := by kernel_rfl
theorem C29 {a0 : AV} {H : AHeap} {K : AV → AHeap → Prop} (h : S29 (CallsA Try.prog) a0 H K) : CallsA Try.prog 29 [a0] H K :=
  calls_of Try.func29 (ne_of_beq_false (by kernel_rfl)) c29_eq (by kernel_rfl) (by rw [S29_eq]; exact h)
/-! slices.Values[[]int,int] -/
def pol30 : Pol := { lend := fun g => !([34, 57, 63] : List Nat).contains g, keep := [], frz := fun _ => [], perm := fun r => [], bf := fun r => [], ret := true }
def S30 (γ : Calld) (a0 : AV) (H : AHeap) (K : AV → AHeap → Prop) : Prop :=
  newK H (fun n3 => boxA a0 n3) fun v1 H2 => retF [.func 61 [] [v1]] H2 K
noncomputable def r30_0 : List Oper := regOps Try.f30 0
noncomputable def r30_1 : List Oper := regOps Try.f30 1
noncomputable def c30 : Code := (.seq (.region 0 #[opAt r30_0 0, opAt r30_0 1] false) (.seq (.region 1 #[opAt r30_1 0, opAt r30_1 1] false) .ret))
theorem c30_eq : Try.f30.body = some c30 := by kernel_rfl
theorem S30_eq (γ : Calld) (a0 : AV) (H : AHeap) (K : AV → AHeap → Prop) : execC Try.prog γ pol30 Try.f30 c30 [a0] H K = S30 γ a0 H K := by kernel_rfl
theorem C30 {a0 : AV} {H : AHeap} {K : AV → AHeap → Prop} (h : S30 (CallsA Try.prog) a0 H K) : CallsA Try.prog 30 [a0] H K :=
  calls_of Try.func30 (ne_of_beq_false (by kernel_rfl)) c30_eq (by kernel_rfl) (by rw [S30_eq]; exact h)
/-! (*tithing/bus.Bus).none -/
def pol31 : Pol := { lend := fun g => !([34, 57, 63] : List Nat).contains g, keep := [], frz := fun _ => [], perm := fun r => [], bf := fun r => [], ret := true }
def S31 (γ : Calld) (a0 : AV) (H : AHeap) (K : AV → AHeap → Prop) : Prop :=
  optA (nilA 3 .eql a0 .nilptr) fun v1 => ifA v1 (retF [.d (.bool true)] H K) (optA (nilCkA a0) fun v2 => optA (fieldA ti52 v2 0) fun v3 => optA (ldV false 1 v3 H) fun v4 => optA (unA .not v4) fun v5 => retF [v5] H K)
noncomputable def r31_0 : List Oper := regOps Try.f31 0
noncomputable def r31_1 : List Oper := regOps Try.f31 1
noncomputable def c31 : Code := (.seq (.region 0 #[opAt r31_0 0] false) (.seq (.region 1 #[opAt r31_1 0, opAt r31_1 1, opAt r31_1 2, opAt r31_1 3, opAt r31_1 4, opAt r31_1 5, opAt r31_1 6, opAt r31_1 7, opAt r31_1 8, opAt r31_1 9] false) .ret))
theorem c31_eq : Try.f31.body = some c31 := by kernel_rfl
theorem S31_eq (γ : Calld) (a0 : AV) (H : AHeap) (K : AV → AHeap → Prop) : execC Try.prog γ pol31 Try.f31 c31 [a0] H K = S31 γ a0 H K := by kernel_rfl
theorem C31 {a0 : AV} {H : AHeap} {K : AV → AHeap → Prop} (h : S31 (CallsA Try.prog) a0 H K) : CallsA Try.prog 31 [a0] H K :=
  calls_of Try.func31 (ne_of_beq_false (by kernel_rfl)) c31_eq (by kernel_rfl) (by rw [S31_eq]; exact h)
/-! slices.Clone[[]int,int] -/
def pol32 : Pol := { lend := fun g => !([34, 57, 63] : List Nat).contains g, keep := [], frz := fun _ => [], perm := fun r => [], bf := fun r => [], ret := true }
def S32 (γ : Calld) (a0 : AV) (H : AHeap) (K : AV → AHeap → Prop) : Prop :=
  optA (nilA 0 .eql a0 (.d (.sl true []))) fun v1 => ifA v1 (retF [.d (.sl true [])] H K) (newK H (fun n4 => bsA ti3 0 [] [] H n4) fun v2 H3 => newK H3 (fun n7 => apA 1 8 v2 a0 H3 n7) fun v5 H6 => retF [v5] H6 K)
noncomputable def r32_0 : List Oper := regOps Try.f32 0
noncomputable def r32_1 : List Oper := regOps Try.f32 1
noncomputable def r32_2 : List Oper := regOps Try.f32 2
noncomputable def r32_3 : List Oper := regOps Try.f32 3
noncomputable def c32 : Code := (.seq (.region 0 #[opAt r32_0 0] false) (.seq (.seq (.region 1 #[opAt r32_1 0, opAt r32_1 1] false) (.cond (.tmp 4) (.seq (.region 2 #[opAt r32_2 0] false) .ret) .skip)) (.seq (.region 3 #[opAt r32_3 0, opAt r32_3 1, opAt r32_3 2, opAt r32_3 3] false) .ret)))
theorem c32_eq : Try.f32.body = some c32 := by kernel_rfl
theorem S32_eq (γ : Calld) (a0 : AV) (H : AHeap) (K : AV → AHeap → Prop) : execC Try.prog γ pol32 Try.f32 c32 [a0] H K = S32 γ a0 H K := by kernel_rfl
theorem C32 {a0 : AV} {H : AHeap} {K : AV → AHeap → Prop} (h : S32 (CallsA Try.prog) a0 H K) : CallsA Try.prog 32 [a0] H K :=
  calls_of Try.func32 (ne_of_beq_false (by kernel_rfl)) c32_eq (by kernel_rfl) (by rw [S32_eq]; exact h)
/-! (*tithing/bus.Bus).asked -/
def pol33 : Pol := { lend := fun g => !([34, 57, 63] : List Nat).contains g, keep := [], frz := fun _ => [], perm := fun r => [], bf := fun r => [], ret := true }
def S33 (γ : Calld) (a0 a1 : AV) (H : AHeap) (K : AV → AHeap → Prop) : Prop :=
  frzLK [a0] H fun l3 H4 => γ 31 l3 H4 fun v1 H2 => ifA v1 (retF [.d (.int .i64 7)] H2 K) (frzLK [a0, a1] H2 fun l7 H8 => γ 62 l7 H8 fun v5 H6 => optA (unA .not v5) fun v9 => ifA v9 (retF [.d (.int .i64 2)] H6 K) (retF [.d (.int .i64 0)] H6 K))
noncomputable def r33_0 : List Oper := regOps Try.f33 0
noncomputable def r33_1 : List Oper := regOps Try.f33 1
noncomputable def r33_2 : List Oper := regOps Try.f33 2
noncomputable def r33_3 : List Oper := regOps Try.f33 3
noncomputable def r33_4 : List Oper := regOps Try.f33 4
noncomputable def r33_5 : List Oper := regOps Try.f33 5
noncomputable def c33 : Code := (.seq (.region 0 #[opAt r33_0 0] false) (.seq (.block 0 (.seq (.region 1 #[opAt r33_1 0, opAt r33_1 1, opAt r33_1 2] false) (.cond (.tmp 5) (.seq (.region 2 #[opAt r33_2 0] false) .ret) (.seq (.region 3 #[opAt r33_3 0, opAt r33_3 1, opAt r33_3 2, opAt r33_3 3, opAt r33_3 4] false) (.cond (.tmp 8) (.seq (.region 4 #[opAt r33_4 0] false) .ret) .skip))))) (.seq (.region 5 #[opAt r33_5 0] false) .ret)))
theorem c33_eq : Try.f33.body = some c33 := by kernel_rfl
theorem S33_eq (γ : Calld) (a0 a1 : AV) (H : AHeap) (K : AV → AHeap → Prop) : execC Try.prog γ pol33 Try.f33 c33 [a0, a1] H K = S33 γ a0 a1 H K := by kernel_rfl
theorem C33 {a0 a1 : AV} {H : AHeap} {K : AV → AHeap → Prop} (h : S33 (CallsA Try.prog) a0 a1 H K) : CallsA Try.prog 33 [a0, a1] H K :=
  calls_of Try.func33 (ne_of_beq_false (by kernel_rfl)) c33_eq (by kernel_rfl) (by rw [S33_eq]; exact h)
/-! slices.ContainsFunc[[]*tithing/bus.station,*tithing/bus.station] -/
def pol34 : Pol := { lend := fun g => !([34, 57, 63] : List Nat).contains g, keep := [], frz := fun _ => [], perm := fun r => [], bf := fun r => [], ret := true }
def S34 (γ : Calld) (a0 a1 : AV) (H : AHeap) (K : AV → AHeap → Prop) : Prop :=
  γ 63 [a0, a1] H fun v1 H2 => optA (intA .geq v1 (.d (.int .i64 0))) fun v3 => retF [v3] H2 K
noncomputable def r34_0 : List Oper := regOps Try.f34 0
noncomputable def r34_1 : List Oper := regOps Try.f34 1
noncomputable def c34 : Code := (.seq (.region 0 #[opAt r34_0 0] false) (.seq (.region 1 #[opAt r34_1 0, opAt r34_1 1, opAt r34_1 2, opAt r34_1 3, opAt r34_1 4] false) .ret))
theorem c34_eq : Try.f34.body = some c34 := by kernel_rfl
theorem S34_eq (γ : Calld) (a0 a1 : AV) (H : AHeap) (K : AV → AHeap → Prop) : execC Try.prog γ pol34 Try.f34 c34 [a0, a1] H K = S34 γ a0 a1 H K := by kernel_rfl
theorem C34 {a0 a1 : AV} {H : AHeap} {K : AV → AHeap → Prop} (h : S34 (CallsA Try.prog) a0 a1 H K) : CallsA Try.prog 34 [a0, a1] H K :=
  calls_of Try.func34 (ne_of_beq_false (by kernel_rfl)) c34_eq (by kernel_rfl) (by rw [S34_eq]; exact h)
/-! (*tithing/bus.Bus).Quiet$1 -/
def pol35 : Pol := { lend := fun g => !([34, 57, 63] : List Nat).contains g, keep := [], frz := fun _ => [], perm := fun r => [], bf := fun r => [], ret := true }
def S35 (γ : Calld) (a0 : AV) (H : AHeap) (K : AV → AHeap → Prop) : Prop :=
  optA (nilCkA a0) fun v1 => optA (fieldA ti68 v1 2) fun v2 => optA (ldV false 1 v2 H) fun v3 => optA (intA .eql v3 (.d (.int .i64 1))) fun v4 => retF [v4] H K
noncomputable def r35_0 : List Oper := regOps Try.f35 0
noncomputable def r35_1 : List Oper := regOps Try.f35 1
noncomputable def c35 : Code := (.seq (.region 0 #[opAt r35_0 0] false) (.seq (.region 1 #[opAt r35_1 0, opAt r35_1 1, opAt r35_1 2, opAt r35_1 3, opAt r35_1 4, opAt r35_1 5] false) .ret))
theorem c35_eq : Try.f35.body = some c35 := by kernel_rfl
theorem S35_eq (γ : Calld) (a0 : AV) (H : AHeap) (K : AV → AHeap → Prop) : execC Try.prog γ pol35 Try.f35 c35 [a0] H K = S35 γ a0 H K := by kernel_rfl
theorem C35 {a0 : AV} {H : AHeap} {K : AV → AHeap → Prop} (h : S35 (CallsA Try.prog) a0 H K) : CallsA Try.prog 35 [a0] H K :=
  calls_of Try.func35 (ne_of_beq_false (by kernel_rfl)) c35_eq (by kernel_rfl) (by rw [S35_eq]; exact h)
/-! (*tithing/bus.Bus).frame -/
def pol36 : Pol := { lend := fun g => !([34, 57, 63] : List Nat).contains g, keep := [], frz := fun _ => [], perm := fun r => if r = 1 then [0, 1, 2, 3, 4, 5, 6, 7, 8, 9, 10, 11, 12, 13] else [], bf := fun r => if r = 1 then [0, 1, 3, 7, 0, 16, 48, 112, 255, 511, 1023, 1023, 2047, 8191] else [], ret := true }
def S36 (γ : Calld) (a0 : AV) (H : AHeap) (K : AV → AHeap → Prop) : Prop :=
  drA true (optA (nilCkA a0) fun v1 => optA (fieldA ti52 v1 1) fun v2 => optA (ldV false 1 v2 H) fun v3 => optA (nilCkA a0) fun v4 => optA (fieldA ti52 v4 3) fun v5 => optA (ldV false 1 v5 H) fun v6 => noRsA (aggL v3) (noRsA (aggL v6) (frzLK [v3, v6] H fun l8 H10 => ∃ r9, γ 54 l8 H10 (fun v H2 => v = r9 ∧ AHeap.le H10 H2) ∧ (optA (extractA r9 0) fun v11 => optA (extractA r9 1) fun v12 => optA (nilCkA a0) fun v13 => optA (fieldA ti52 v13 3) fun v14 => optA (ldV false 1 v14 H10) fun v15 => optA (intA .add v15 (.d (.int .i64 1))) fun v16 => optA (nilCkA a0) fun v17 => optA (fieldA ti52 v17 3) fun v18 => stepK (stoA false 1 v18 v16 H10) H10 fun v19 H20 => optA (unA .not v12) fun v21 => retF [v21] H20 K))))
noncomputable def r36_0 : List Oper := regOps Try.f36 0
noncomputable def r36_1 : List Oper := regOps Try.f36 1
noncomputable def r36_2 : List Oper := regOps Try.f36 2
noncomputable def r36_3 : List Oper := regOps Try.f36 3
noncomputable def c36 : Code := (.seq (.region 0 #[opAt r36_0 0] false) (.seq (.region 1 #[opAt r36_1 0, opAt r36_1 1, opAt r36_1 2, opAt r36_1 3, opAt r36_1 4, opAt r36_1 5, opAt r36_1 6, opAt r36_1 7, opAt r36_1 8, opAt r36_1 9, opAt r36_1 10, opAt r36_1 11, opAt r36_1 12, opAt r36_1 13] true) (.seq (.region 2 #[opAt r36_2 0, opAt r36_2 1, opAt r36_2 2, opAt r36_2 3, opAt r36_2 4, opAt r36_2 5, opAt r36_2 6, opAt r36_2 7] false) (.seq (.region 3 #[opAt r36_3 0, opAt r36_3 1, opAt r36_3 2] false) .ret))))
theorem c36_eq : Try.f36.body = some c36 := by kernel_rfl
theorem S36_eq (γ : Calld) (a0 : AV) (H : AHeap) (K : AV → AHeap → Prop) : execC Try.prog γ pol36 Try.f36 c36 [a0] H K = S36 γ a0 H K := by kernel_rfl
theorem C36 {a0 : AV} {H : AHeap} {K : AV → AHeap → Prop} (h : S36 (CallsA Try.prog) a0 H K) : CallsA Try.prog 36 [a0] H K :=
  calls_of Try.func36 (ne_of_beq_false (by kernel_rfl)) c36_eq (by kernel_rfl) (by rw [S36_eq]; exact h)
/-! (*tithing/bus.Bus).answers -/
def pol37 : Pol := { lend := fun g => !([34, 57, 63] : List Nat).contains g, keep := [], frz := fun _ => [], perm := fun r => if r = 1 then [0, 1, 2, 3, 4, 5, 6, 7, 8, 9, 10, 11, 12, 13, 14, 15] else if r = 5 then [0, 1, 2, 3, 4, 5, 6, 7] else if r = 7 then [0, 1, 2, 3, 4, 5, 6, 7, 8, 9, 10, 11, 12, 13, 14, 15, 16, 17, 18, 19, 20, 21, 22, 23, 24, 25, 26, 27, 28, 29, 30, 31, 32] else [], bf := fun r => if r = 1 then [0, 1, 3, 7, 0, 31, 63, 0, 128, 384, 896, 0, 3968, 8064, 127, 32767] else if r = 5 then [0, 1, 3, 7, 0, 16, 63, 127] else if r = 7 then [0, 1, 0, 7, 15, 31, 63, 127, 255, 511, 63, 1087, 3135, 7231, 16383, 32767, 65535, 131071, 262143, 524287, 65535, 1114111, 3211263, 7405567, 16777215, 33554431, 67108863, 67108863, 268435455, 536870911, 1073741823, 2147483647, 4294967295] else [], ret := true }
def S37 (γ : Calld) (a0 a1 a2 : AV) (H : AHeap) (K : AV → AHeap → Prop) : Prop :=
  drA true (optA (nilCkA a0) fun v1 => optA (fieldA ti52 v1 2) fun v2 => optA (ldV false 1 v2 H) fun v3 => optA (indexAddrA ti50 1 v3 a1) fun v4 => optA (ldV false 1 v4 H) fun v5 => optA (nilCkA a0) fun v6 => optA (fieldA ti52 v6 2) fun v7 => optA (ldV false 1 v7 H) fun v8 => optA (indexAddrA ti50 1 v8 a2) fun v9 => optA (ldV false 1 v9 H) fun v10 => optA (intA .eql a1 a2) fun v11 => ifA v11 (retF [.d (.bool false)] H K) (optA (nilCkA v5) fun v12 => optA (fieldA ti68 v12 1) fun v13 => optA (ldV false 1 v13 H) fun v14 => optA (unA .not v14) fun v15 => ifA v15 (retF [.d (.bool false)] H K) (optA (nilCkA v5) fun v16 => optA (fieldA ti68 v16 2) fun v17 => optA (ldV false 1 v17 H) fun v18 => optA (intA .eql v18 (.d (.int .i64 2))) fun v19 => ifA v19 (drA true (optA (nilCkA v5) fun v20 => optA (fieldA ti68 v20 5) fun v21 => optA (ldV false 1 v21 H) fun v22 => apart (rsOf v10) v21 ∧ (noRsA (aggL v10) (frzLK [v10] H fun l24 H26 => ∃ r25, γ 39 l24 H26 (fun v H2 => v = r25 ∧ AHeap.le H26 H2) ∧ (optA (intA .eql v22 r25) fun v27 => retF [v27] H26 K))))) (optA (nilCkA v5) fun v28 => optA (fieldA ti68 v28 2) fun v29 => optA (ldV false 1 v29 H) fun v30 => optA (intA .eql v30 (.d (.int .i64 1))) fun v31 => ifA v31 (drA true (noRsA (aggL v5) (frzLK [v5] H fun l33 H35 => ∃ r34, γ 39 l33 H35 (fun v H2 => v = r34 ∧ AHeap.le H35 H2) ∧ (noRsA (aggL v10) (frzLK [v10] H35 fun l37 H39 => ∃ r38, γ 39 l37 H39 (fun v H2 => v = r38 ∧ AHeap.le H39 H2) ∧ (optA (intA .eql r34 r38) fun v40 => ifA v40 (optA (nilCkA v5) fun v41 => optA (fieldA ti68 v41 4) fun v42 => optA (ldV false 1 v42 H39) fun v43 => optA (nilCkA v10) fun v44 => optA (fieldA ti68 v44 4) fun v45 => optA (ldV false 1 v45 H39) fun v46 => optA (intA .gtr v43 v46) fun v47 => ifA v47 (retF [.d (.bool true)] H39 K) (optA (nilCkA v5) fun v48 => optA (fieldA ti68 v48 4) fun v49 => optA (ldV false 1 v49 H39) fun v50 => optA (nilCkA v10) fun v51 => optA (fieldA ti68 v51 4) fun v52 => optA (ldV false 1 v52 H39) fun v53 => optA (intA .eql v50 v53) fun v54 => ifA v54 (optA (intA .lss a1 a2) fun v55 => retF [v55] H39 K) (retF [.d (.bool false)] H39 K))) (retF [.d (.bool false)] H39 K))))))) (retF [.d (.bool false)] H K)))))
noncomputable def r37_0 : List Oper := regOps Try.f37 0
noncomputable def r37_1 : List Oper := regOps Try.f37 1
noncomputable def r37_2 : List Oper := regOps Try.f37 2
noncomputable def r37_3 : List Oper := regOps Try.f37 3
noncomputable def r37_4 : List Oper := regOps Try.f37 4
noncomputable def r37_5 : List Oper := regOps Try.f37 5
noncomputable def r37_6 : List Oper := regOps Try.f37 6
noncomputable def r37_7 : List Oper := regOps Try.f37 7
noncomputable def r37_8 : List Oper := regOps Try.f37 8
noncomputable def c37 : Code := (.seq (.region 0 #[opAt r37_0 0] false) (.seq (.region 1 #[opAt r37_1 0, opAt r37_1 1, opAt r37_1 2, opAt r37_1 3, opAt r37_1 4, opAt r37_1 5, opAt r37_1 6, opAt r37_1 7, opAt r37_1 8, opAt r37_1 9, opAt r37_1 10, opAt r37_1 11, opAt r37_1 12, opAt r37_1 13, opAt r37_1 14, opAt r37_1 15] true) (.seq (.block 0 (.seq (.region 2 #[opAt r37_2 0, opAt r37_2 1, opAt r37_2 2, opAt r37_2 3, opAt r37_2 4, opAt r37_2 5, opAt r37_2 6, opAt r37_2 7, opAt r37_2 8, opAt r37_2 9, opAt r37_2 10] false) (.cond (.tmp 23) (.seq (.region 3 #[opAt r37_3 0] false) .ret) (.seq (.region 4 #[opAt r37_4 0, opAt r37_4 1, opAt r37_4 2, opAt r37_4 3, opAt r37_4 4, opAt r37_4 5] false) (.cond (.tmp 34) (.seq (.region 5 #[opAt r37_5 0, opAt r37_5 1, opAt r37_5 2, opAt r37_5 3, opAt r37_5 4, opAt r37_5 5, opAt r37_5 6, opAt r37_5 7] true) .ret) (.seq (.region 6 #[opAt r37_6 0, opAt r37_6 1, opAt r37_6 2, opAt r37_6 3, opAt r37_6 4, opAt r37_6 5] false) (.cond (.tmp 47) (.seq (.region 7 #[opAt r37_7 0, opAt r37_7 1, opAt r37_7 2, opAt r37_7 3, opAt r37_7 4, opAt r37_7 5, opAt r37_7 6, opAt r37_7 7, opAt r37_7 8, opAt r37_7 9, opAt r37_7 10, opAt r37_7 11, opAt r37_7 12, opAt r37_7 13, opAt r37_7 14, opAt r37_7 15, opAt r37_7 16, opAt r37_7 17, opAt r37_7 18, opAt r37_7 19, opAt r37_7 20, opAt r37_7 21, opAt r37_7 22, opAt r37_7 23, opAt r37_7 24, opAt r37_7 25, opAt r37_7 26, opAt r37_7 27, opAt r37_7 28, opAt r37_7 29, opAt r37_7 30, opAt r37_7 31, opAt r37_7 32] true) .ret) .skip))))))) (.seq (.region 8 #[opAt r37_8 0] false) .ret))))
theorem c37_eq : Try.f37.body = some c37 := by kernel_rfl
theorem S37_eq (γ : Calld) (a0 a1 a2 : AV) (H : AHeap) (K : AV → AHeap → Prop) : execC Try.prog γ pol37 Try.f37 c37 [a0, a1, a2] H K = S37 γ a0 a1 a2 H K := by kernel_rfl
theorem C37 {a0 a1 a2 : AV} {H : AHeap} {K : AV → AHeap → Prop} (h : S37 (CallsA Try.prog) a0 a1 a2 H K) : CallsA Try.prog 37 [a0, a1, a2] H K :=
  calls_of Try.func37 (ne_of_beq_false (by kernel_rfl)) c37_eq (by kernel_rfl) (by rw [S37_eq]; exact h)
/-! (*tithing/bus.station).end -/
def pol38 : Pol := { lend := fun g => !([34, 57, 63] : List Nat).contains g, keep := [], frz := fun _ => [], perm := fun r => [], bf := fun r => [], ret := true }
def S38 (γ : Calld) (a0 a1 : AV) (H : AHeap) (K : AV → AHeap → Prop) : Prop :=
  ifA a1 (optA (nilCkA a0) fun v1 => optA (fieldA ti68 v1 3) fun v2 => optA (ldV false 1 v2 H) fun v3 => optA (intA .add v3 (.d (.int .i64 1))) fun v4 => optA (nilCkA a0) fun v5 => optA (fieldA ti68 v5 3) fun v6 => stepK (stoA false 1 v6 v4 H) H fun v7 H8 => optA (nilCkA a0) fun v9 => optA (fieldA ti68 v9 4) fun v10 => stepK (stoA false 1 v10 (.d (.int .i64 0)) H8) H8 fun v11 H12 => optA (nilCkA a0) fun v13 => optA (fieldA ti68 v13 3) fun v14 => optA (ldV false 1 v14 H12) fun v15 => optA (intA .eql v15 (.d (.int .i64 253))) fun v16 => ifA v16 (optA (nilCkA a0) fun v17 => optA (fieldA ti68 v17 2) fun v18 => stepK (stoA false 1 v18 (.d (.int .i64 0)) H12) H12 fun v19 H20 => retF [] H20 K) (retF [] H12 K)) (optA (nilCkA a0) fun v21 => optA (fieldA ti68 v21 4) fun v22 => optA (ldV false 1 v22 H) fun v23 => optA (intA .add v23 (.d (.int .i64 1))) fun v24 => optA (nilCkA a0) fun v25 => optA (fieldA ti68 v25 4) fun v26 => stepK (stoA false 1 v26 v24 H) H fun v27 H28 => optA (nilCkA a0) fun v29 => optA (fieldA ti68 v29 4) fun v30 => optA (ldV false 1 v30 H28) fun v31 => optA (intA .eql v31 (.d (.int .i64 8))) fun v32 => ifA v32 (frzLK [a0] H28 fun l35 H36 => γ 39 l35 H36 fun v33 H34 => optA (nilCkA a0) fun v37 => optA (fieldA ti68 v37 2) fun v38 => stepK (stoA false 1 v38 (.d (.int .i64 2)) H34) H34 fun v39 H40 => optA (nilCkA a0) fun v41 => optA (fieldA ti68 v41 5) fun v42 => stepK (stoA false 1 v42 v33 H40) H40 fun v43 H44 => retF [] H44 K) (retF [] H28 K))
noncomputable def r38_0 : List Oper := regOps Try.f38 0
noncomputable def r38_1 : List Oper := regOps Try.f38 1
noncomputable def r38_2 : List Oper := regOps Try.f38 2
noncomputable def r38_3 : List Oper := regOps Try.f38 3
noncomputable def r38_4 : List Oper := regOps Try.f38 4
noncomputable def r38_5 : List Oper := regOps Try.f38 5
noncomputable def r38_6 : List Oper := regOps Try.f38 6
noncomputable def r38_7 : List Oper := regOps Try.f38 7
noncomputable def c38 : Code := (.seq (.seq (.region 0 #[opAt r38_0 0] false) (.cond (.tmp 4) (.seq (.region 1 #[opAt r38_1 0, opAt r38_1 1, opAt r38_1 2, opAt r38_1 3, opAt r38_1 4, opAt r38_1 5, opAt r38_1 6, opAt r38_1 7] false) (.seq (.region 2 #[opAt r38_2 0, opAt r38_2 1, opAt r38_2 2, opAt r38_2 3] false) (.seq (.seq (.region 3 #[opAt r38_3 0, opAt r38_3 1, opAt r38_3 2, opAt r38_3 3, opAt r38_3 4] false) (.cond (.tmp 19) (.region 4 #[opAt r38_4 0, opAt r38_4 1, opAt r38_4 2, opAt r38_4 3] false) .skip)) .ret))) .skip)) (.seq (.region 5 #[opAt r38_5 0, opAt r38_5 1, opAt r38_5 2, opAt r38_5 3, opAt r38_5 4, opAt r38_5 5, opAt r38_5 6, opAt r38_5 7] false) (.seq (.region 6 #[opAt r38_6 0, opAt r38_6 1, opAt r38_6 2, opAt r38_6 3, opAt r38_6 4] false) (.cond (.tmp 34) (.region 7 #[opAt r38_7 0, opAt r38_7 1, opAt r38_7 2, opAt r38_7 3, opAt r38_7 4, opAt r38_7 5, opAt r38_7 6, opAt r38_7 7, opAt r38_7 8, opAt r38_7 9] false) .skip))))
theorem c38_eq : Try.f38.body = some c38 := by kernel_rfl
theorem S38_eq (γ : Calld) (a0 a1 : AV) (H : AHeap) (K : AV → AHeap → Prop) : execC Try.prog γ pol38 Try.f38 c38 [a0, a1] H K = S38 γ a0 a1 H K := by kernel_rfl
theorem C38 {a0 a1 : AV} {H : AHeap} {K : AV → AHeap → Prop} (h : S38 (CallsA Try.prog) a0 a1 H K) : CallsA Try.prog 38 [a0, a1] H K :=
  calls_of Try.func38 (ne_of_beq_false (by kernel_rfl)) c38_eq (by kernel_rfl) (by rw [S38_eq]; exact h)
/-! (*tithing/bus.station).guess -/
def pol39 : Pol := { lend := fun g => !([34, 57, 63] : List Nat).contains g, keep := [], frz := fun _ => [], perm := fun r => if r = 3 then [0, 1, 2, 3, 4, 5, 6, 7, 8, 9, 10, 11, 12, 13, 14, 15, 16, 17] else [], bf := fun r => if r = 3 then [0, 1, 3, 7, 0, 16, 48, 112, 0, 256, 768, 1792, 3840, 8176, 16383, 32767, 65535, 131071] else [], ret := true }
def S39 (γ : Calld) (a0 : AV) (H : AHeap) (K : AV → AHeap → Prop) : Prop :=
  optA (nilCkA a0) fun v1 => optA (fieldA ti68 v1 0) fun v2 => optA (ldV false 1 v2 H) fun v3 => optA (lenSl v3) fun v4 => optA (intA .eql v4 (.d (.int .i64 0))) fun v5 => ifA v5 (optA (nilCkA a0) fun v6 => optA (fieldA ti68 v6 3) fun v7 => optA (ldV false 1 v7 H) fun v8 => optA (intA .rem v8 (.d (.int .i64 253))) fun v9 => optA (intA .add (.d (.int .i64 1)) v9) fun v10 => retF [v10] H K) (drA true (optA (nilCkA a0) fun v11 => optA (fieldA ti68 v11 0) fun v12 => optA (ldV false 1 v12 H) fun v13 => optA (nilCkA a0) fun v14 => optA (fieldA ti68 v14 3) fun v15 => optA (ldV false 1 v15 H) fun v16 => optA (nilCkA a0) fun v17 => optA (fieldA ti68 v17 0) fun v18 => optA (ldV false 1 v18 H) fun v19 => optA (lenSl v19) fun v20 => optA (intA .rem v16 v20) fun v21 => optA (indexAddrA ti22 1 v13 v21) fun v22 => optA (ldV false 1 v22 H) fun v23 => optA (intA .rem v23 (.d (.int .i64 253))) fun v24 => optA (intA .add v24 (.d (.int .i64 253))) fun v25 => optA (intA .rem v25 (.d (.int .i64 253))) fun v26 => optA (intA .add (.d (.int .i64 1)) v26) fun v27 => retF [v27] H K))
noncomputable def r39_0 : List Oper := regOps Try.f39 0
noncomputable def r39_1 : List Oper := regOps Try.f39 1
noncomputable def r39_2 : List Oper := regOps Try.f39 2
noncomputable def r39_3 : List Oper := regOps Try.f39 3
noncomputable def r39_4 : List Oper := regOps Try.f39 4
noncomputable def c39 : Code := (.seq (.region 0 #[opAt r39_0 0] false) (.seq (.seq (.region 1 #[opAt r39_1 0, opAt r39_1 1, opAt r39_1 2, opAt r39_1 3, opAt r39_1 4, opAt r39_1 5] false) (.cond (.tmp 9) (.seq (.region 2 #[opAt r39_2 0, opAt r39_2 1, opAt r39_2 2, opAt r39_2 3, opAt r39_2 4, opAt r39_2 5, opAt r39_2 6] false) .ret) .skip)) (.seq (.region 3 #[opAt r39_3 0, opAt r39_3 1, opAt r39_3 2, opAt r39_3 3, opAt r39_3 4, opAt r39_3 5, opAt r39_3 6, opAt r39_3 7, opAt r39_3 8, opAt r39_3 9, opAt r39_3 10, opAt r39_3 11, opAt r39_3 12, opAt r39_3 13, opAt r39_3 14, opAt r39_3 15, opAt r39_3 16, opAt r39_3 17] true) (.seq (.region 4 #[opAt r39_4 0, opAt r39_4 1, opAt r39_4 2, opAt r39_4 3, opAt r39_4 4] false) .ret))))
theorem c39_eq : Try.f39.body = some c39 := by kernel_rfl
theorem S39_eq (γ : Calld) (a0 : AV) (H : AHeap) (K : AV → AHeap → Prop) : execC Try.prog γ pol39 Try.f39 c39 [a0] H K = S39 γ a0 H K := by kernel_rfl
theorem C39 {a0 : AV} {H : AHeap} {K : AV → AHeap → Prop} (h : S39 (CallsA Try.prog) a0 H K) : CallsA Try.prog 39 [a0] H K :=
  calls_of Try.func39 (ne_of_beq_false (by kernel_rfl)) c39_eq (by kernel_rfl) (by rw [S39_eq]; exact h)
/-! (*tithing/tithingref02.Bus).Add -/
def pol40 : Pol := { lend := fun g => !([34, 57, 63] : List Nat).contains g, keep := [], frz := fun _ => [], perm := fun r => if r = 3 then [0, 1, 2, 3, 4, 5, 6, 7, 8, 9, 10, 11, 12, 13] else [], bf := fun r => if r = 3 then [0, 0, 2, 6, 14, 0, 0, 96, 224, 480, 1022, 2047, 4095, 8191] else [], ret := true }
def S40 (γ : Calld) (a0 a1 : AV) (H : AHeap) (K : AV → AHeap → Prop) : Prop :=
  optA (nilCkA a0) fun v1 => optA (fieldA ti76 v1 1) fun v2 => optA (ldV false 1 v2 H) fun v3 => optA (lenSl v3) fun v4 => optA (intA .geq v4 (.d (.int .i64 40))) fun v5 => ifA v5 (retF [.d (.int .i64 0), .d (.int .i64 4)] H K) (drA true (optA (nilCkA a0) fun v6 => optA (fieldA ti76 v6 1) fun v7 => optA (ldV false 1 v7 H) fun v8 => newK H (fun n11 => bsA ti3 0 [] [] H n11) fun v9 H10 => apart v9 v7 ∧ (newK H10 (fun n14 => apA 1 8 v9 a1 H10 n14) fun v12 H13 => apart (rsOf v12) v7 ∧ (apart (rsOf (.d (.bool true))) v7 ∧ (noRsA (aggL v12) (noRsA (aggL (.d (.bool true))) (stepK (bdA Try.prog ti89 [0, 1] [v12, .d (.bool true)] H13) H13 fun v15 H16 => apart (rsOf v15) v7 ∧ (noRsA (aggL v15) (newK H16 (fun n19 => bsA ti89 1 [0] [v15] H16 n19) fun v17 H18 => newK H18 (fun n22 => apA 6 64 v8 v17 H18 n22) fun v20 H21 => optA (nilCkA a0) fun v23 => optA (fieldA ti76 v23 1) fun v24 => noRsA (aggL v20) (stepK (stoA false 1 v24 v20 H21) H21 fun v25 H26 => optA (nilCkA a0) fun v27 => optA (fieldA ti76 v27 1) fun v28 => optA (ldV false 1 v28 H26) fun v29 => optA (lenSl v29) fun v30 => optA (intA .sub v30 (.d (.int .i64 1))) fun v31 => retF [v31, .d (.int .i64 0)] H26 K))))))))))
noncomputable def r40_0 : List Oper := regOps Try.f40 0
noncomputable def r40_1 : List Oper := regOps Try.f40 1
noncomputable def r40_2 : List Oper := regOps Try.f40 2
noncomputable def r40_3 : List Oper := regOps Try.f40 3
noncomputable def r40_4 : List Oper := regOps Try.f40 4
noncomputable def c40 : Code := (.seq (.region 0 #[opAt r40_0 0, opAt r40_0 1] false) (.seq (.seq (.region 1 #[opAt r40_1 0, opAt r40_1 1, opAt r40_1 2, opAt r40_1 3, opAt r40_1 4, opAt r40_1 5] false) (.cond (.tmp 11) (.seq (.region 2 #[opAt r40_2 0, opAt r40_2 1] false) .ret) .skip)) (.seq (.region 3 #[opAt r40_3 0, opAt r40_3 1, opAt r40_3 2, opAt r40_3 3, opAt r40_3 4, opAt r40_3 5, opAt r40_3 6, opAt r40_3 7, opAt r40_3 8, opAt r40_3 9, opAt r40_3 10, opAt r40_3 11, opAt r40_3 12, opAt r40_3 13] true) (.seq (.region 4 #[opAt r40_4 0, opAt r40_4 1, opAt r40_4 2, opAt r40_4 3, opAt r40_4 4, opAt r40_4 5, opAt r40_4 6, opAt r40_4 7] false) .ret))))
theorem c40_eq : Try.f40.body = some c40 := by kernel_rfl
theorem S40_eq (γ : Calld) (a0 a1 : AV) (H : AHeap) (K : AV → AHeap → Prop) : execC Try.prog γ pol40 Try.f40 c40 [a0, a1] H K = S40 γ a0 a1 H K := by kernel_rfl
theorem C40 {a0 a1 : AV} {H : AHeap} {K : AV → AHeap → Prop} (h : S40 (CallsA Try.prog) a0 a1 H K) : CallsA Try.prog 40 [a0, a1] H K :=
  calls_of Try.func40 (ne_of_beq_false (by kernel_rfl)) c40_eq (by kernel_rfl) (by rw [S40_eq]; exact h)
/-! (*tithing/tithingref02.Bus).Turn -/
def pol41 : Pol := { lend := fun g => !([34, 57, 63] : List Nat).contains g, keep := [], frz := fun _ => [], perm := fun r => [], bf := fun r => [], ret := true }
def S41 (γ : Calld) (a0 a1 a2 : AV) (H : AHeap) (K : AV → AHeap → Prop) : Prop :=
  frzLK [a0, a1] H fun l3 H4 => γ 64 l3 H4 fun v1 H2 => optA (unA .not v1) fun v5 => ifA v5 (retF [.d (.int .i64 2)] H2 K) (optA (nilCkA a0) fun v6 => optA (fieldA ti76 v6 1) fun v7 => optA (ldV false 1 v7 H2) fun v8 => optA (indexAddrA ti74 6 v8 a1) fun v9 => optA (nilCkA v9) fun v10 => optA (fieldA ti89 v10 1) fun v11 => optA (ldV false 1 v11 H2) fun v12 => optA (boolA .neq v12 a2) fun v13 => ifA v13 (optA (nilCkA v9) fun v14 => optA (fieldA ti89 v14 1) fun v15 => stepK (stoA false 1 v15 a2 H2) H2 fun v16 H17 => optA (nilCkA v9) fun v18 => optA (fieldA ti89 v18 2) fun v19 => stepK (stoA false 1 v19 (.d (.int .i64 0)) H17) H17 fun v20 H21 => optA (nilCkA v9) fun v22 => optA (fieldA ti89 v22 5) fun v23 => stepK (stoA false 1 v23 (.d (.int .i64 0)) H21) H21 fun v24 H25 => retF [.d (.int .i64 0)] H25 K) (retF [.d (.int .i64 0)] H2 K))
noncomputable def r41_0 : List Oper := regOps Try.f41 0
noncomputable def r41_1 : List Oper := regOps Try.f41 1
noncomputable def r41_2 : List Oper := regOps Try.f41 2
noncomputable def r41_3 : List Oper := regOps Try.f41 3
noncomputable def r41_4 : List Oper := regOps Try.f41 4
noncomputable def r41_5 : List Oper := regOps Try.f41 5
noncomputable def r41_6 : List Oper := regOps Try.f41 6
noncomputable def c41 : Code := (.seq (.region 0 #[opAt r41_0 0] false) (.seq (.seq (.region 1 #[opAt r41_1 0, opAt r41_1 1, opAt r41_1 2, opAt r41_1 3] false) (.cond (.tmp 11) (.seq (.region 2 #[opAt r41_2 0] false) .ret) .skip)) (.seq (.region 3 #[opAt r41_3 0, opAt r41_3 1, opAt r41_3 2, opAt r41_3 3, opAt r41_3 4, opAt r41_3 5, opAt r41_3 6] false) (.seq (.seq (.region 4 #[opAt r41_4 0, opAt r41_4 1, opAt r41_4 2, opAt r41_4 3, opAt r41_4 4, opAt r41_4 5] false) (.cond (.tmp 23) (.region 5 #[opAt r41_5 0, opAt r41_5 1, opAt r41_5 2, opAt r41_5 3, opAt r41_5 4, opAt r41_5 5, opAt r41_5 6, opAt r41_5 7, opAt r41_5 8, opAt r41_5 9, opAt r41_5 10, opAt r41_5 11, opAt r41_5 12] false) .skip)) (.seq (.region 6 #[opAt r41_6 0] false) .ret)))))
theorem c41_eq : Try.f41.body = some c41 := by kernel_rfl
theorem S41_eq (γ : Calld) (a0 a1 a2 : AV) (H : AHeap) (K : AV → AHeap → Prop) : execC Try.prog γ pol41 Try.f41 c41 [a0, a1, a2] H K = S41 γ a0 a1 a2 H K := by kernel_rfl
theorem C41 {a0 a1 a2 : AV} {H : AHeap} {K : AV → AHeap → Prop} (h : S41 (CallsA Try.prog) a0 a1 a2 H K) : CallsA Try.prog 41 [a0, a1, a2] H K :=
  calls_of Try.func41 (ne_of_beq_false (by kernel_rfl)) c41_eq (by kernel_rfl) (by rw [S41_eq]; exact h)
/-! (*tithing/tithingref02.Bus).Guess -/
def pol42 : Pol := { lend := fun g => !([34, 57, 63] : List Nat).contains g, keep := [], frz := fun _ => [], perm := fun r => [], bf := fun r => [], ret := true }
def S42 (γ : Calld) (a0 a1 : AV) (H : AHeap) (K : AV → AHeap → Prop) : Prop :=
  frzLK [a0, a1] H fun l3 H4 => γ 64 l3 H4 fun v1 H2 => optA (unA .not v1) fun v5 => ifA v5 (retF [.d (.int .i64 2)] H2 K) (optA (nilCkA a0) fun v6 => optA (fieldA ti76 v6 1) fun v7 => optA (ldV false 1 v7 H2) fun v8 => optA (indexAddrA ti74 6 v8 a1) fun v9 => optA (fieldA ti89 v9 1) fun v10 => optA (ldV false 1 v10 H2) fun v11 => optA (unA .not v11) fun v12 => ifA v12 (retF [.d (.int .i64 2)] H2 K) (optA (nilCkA a0) fun v13 => optA (fieldA ti76 v13 1) fun v14 => optA (ldV false 1 v14 H2) fun v15 => optA (indexAddrA ti74 6 v15 a1) fun v16 => optA (nilCkA v16) fun v17 => optA (fieldA ti89 v17 2) fun v18 => optA (ldV false 1 v18 H2) fun v19 => optA (intA .neq v19 (.d (.int .i64 1))) fun v20 => ifA v20 (optA (nilCkA v16) fun v21 => optA (fieldA ti89 v21 0) fun v22 => optA (ldV false 1 v22 H2) fun v23 => frzLK [v23, .d (.int .i64 0)] H2 fun l26 H27 => γ 65 l26 H27 fun v24 H25 => optA (nilCkA v16) fun v28 => optA (fieldA ti89 v28 2) fun v29 => stepK (stoA false 1 v29 (.d (.int .i64 1)) H25) H25 fun v30 H31 => optA (nilCkA v16) fun v32 => optA (fieldA ti89 v32 3) fun v33 => stepK (stoA false 1 v33 (.d (.int .i64 0)) H31) H31 fun v34 H35 => optA (nilCkA v16) fun v36 => optA (fieldA ti89 v36 4) fun v37 => stepK (stoA false 1 v37 (.d (.int .i64 0)) H35) H35 fun v38 H39 => optA (nilCkA v16) fun v40 => optA (fieldA ti89 v40 5) fun v41 => stepK (stoA false 1 v41 v24 H39) H39 fun v42 H43 => retF [.d (.int .i64 0)] H43 K) (retF [.d (.int .i64 0)] H2 K)))
noncomputable def r42_0 : List Oper := regOps Try.f42 0
noncomputable def r42_1 : List Oper := regOps Try.f42 1
noncomputable def r42_2 : List Oper := regOps Try.f42 2
noncomputable def r42_3 : List Oper := regOps Try.f42 3
noncomputable def r42_4 : List Oper := regOps Try.f42 4
noncomputable def r42_5 : List Oper := regOps Try.f42 5
noncomputable def r42_6 : List Oper := regOps Try.f42 6
noncomputable def c42 : Code := (.seq (.region 0 #[opAt r42_0 0] false) (.seq (.seq (.region 1 #[opAt r42_1 0, opAt r42_1 1, opAt r42_1 2, opAt r42_1 3, opAt r42_1 4, opAt r42_1 5, opAt r42_1 6, opAt r42_1 7, opAt r42_1 8, opAt r42_1 9, opAt r42_1 10, opAt r42_1 11, opAt r42_1 12, opAt r42_1 13, opAt r42_1 14] false) (.cond (.tmp 20) (.seq (.region 2 #[opAt r42_2 0] false) .ret) .skip)) (.seq (.region 3 #[opAt r42_3 0, opAt r42_3 1, opAt r42_3 2, opAt r42_3 3, opAt r42_3 4, opAt r42_3 5, opAt r42_3 6] false) (.seq (.seq (.region 4 #[opAt r42_4 0, opAt r42_4 1, opAt r42_4 2, opAt r42_4 3, opAt r42_4 4] false) (.cond (.tmp 31) (.region 5 #[opAt r42_5 0, opAt r42_5 1, opAt r42_5 2, opAt r42_5 3, opAt r42_5 4, opAt r42_5 5, opAt r42_5 6, opAt r42_5 7, opAt r42_5 8, opAt r42_5 9, opAt r42_5 10, opAt r42_5 11, opAt r42_5 12, opAt r42_5 13, opAt r42_5 14, opAt r42_5 15, opAt r42_5 16, opAt r42_5 17, opAt r42_5 18, opAt r42_5 19, opAt r42_5 20] false) .skip)) (.seq (.region 6 #[opAt r42_6 0] false) .ret)))))
theorem c42_eq : Try.f42.body = some c42 := by kernel_rfl
theorem S42_eq (γ : Calld) (a0 a1 : AV) (H : AHeap) (K : AV → AHeap → Prop) : execC Try.prog γ pol42 Try.f42 c42 [a0, a1] H K = S42 γ a0 a1 H K := by kernel_rfl
theorem C42 {a0 a1 : AV} {H : AHeap} {K : AV → AHeap → Prop} (h : S42 (CallsA Try.prog) a0 a1 H K) : CallsA Try.prog 42 [a0, a1] H K :=
  calls_of Try.func42 (ne_of_beq_false (by kernel_rfl)) c42_eq (by kernel_rfl) (by rw [S42_eq]; exact h)
/-! (*tithing/tithingref02.Bus).Step -/
def pol43 : Pol := { lend := fun g => !([34, 57, 63] : List Nat).contains g, keep := [0, 2, 3, 4, 5, 6, 7, 8], frz := fun _ => [], perm := fun r => if r = 17 then [0, 1, 2, 3, 4, 5, 6, 7, 8, 9] else if r = 23 then [0, 1, 2, 3, 4, 5, 6, 7, 8, 9, 10, 11, 12, 13, 14, 15, 16] else [], bf := fun r => if r = 17 then [0, 1, 3, 7, 0, 16, 48, 112, 255, 511] else if r = 23 then [0, 1, 3, 7, 0, 0, 48, 112, 255, 0, 0, 0, 3072, 7168, 15872, 32256, 65535] else [], ret := true, tail := fun r => ([23] : List Nat).contains r }
def S43 (γ : Calld) (a0 : AV) (H : AHeap) (K : AV → AHeap → Prop) : Prop :=
  loopA (fun X1 l2 H3 => optA (nilCkA (l2.getD 0 .junk)) fun v4 => optA (fieldA ti76 v4 1) fun v5 => optA (ldV false 1 v5 H3) fun v6 => optA (lenSl v6) fun v7 => optA (intA .lss (l2.getD 2 .junk) v7) fun v8 => ifA v8 (optA (nilCkA (l2.getD 0 .junk)) fun v9 => optA (fieldA ti76 v9 1) fun v10 => optA (ldV false 1 v10 H3) fun v11 => optA (indexAddrA ti74 6 v11 (l2.getD 2 .junk)) fun v12 => optA (fieldA ti89 v12 1) fun v13 => optA (ldV false 1 v13 H3) fun v14 => ifA v14 (optA (nilCkA (l2.getD 0 .junk)) fun v15 => optA (fieldA ti76 v15 1) fun v16 => optA (ldV false 1 v16 H3) fun v17 => optA (indexAddrA ti74 6 v17 (l2.getD 2 .junk)) fun v18 => optA (fieldA ti89 v18 2) fun v19 => optA (ldV false 1 v19 H3) fun v20 => optA (intA .eql v20 (.d (.int .i64 1))) fun v21 => ifA v21 (newK H3 (fun n24 => bsA ti3 1 [0] [l2.getD 2 .junk] H3 n24) fun v22 H23 => newK H23 (fun n27 => apA 1 8 (l2.getD 1 .junk) v22 H23 n27) fun v25 H26 => optA (intA .add (l2.getD 2 .junk) (.d (.int .i64 1))) fun v28 => X1 [l2.getD 0 .junk, v25, v28, l2.getD 3 .junk, l2.getD 4 .junk, l2.getD 5 .junk, l2.getD 6 .junk, l2.getD 7 .junk] H26) (optA (intA .add (l2.getD 2 .junk) (.d (.int .i64 1))) fun v29 => X1 [l2.getD 0 .junk, l2.getD 1 .junk, v29, l2.getD 3 .junk, l2.getD 4 .junk, l2.getD 5 .junk, l2.getD 6 .junk, l2.getD 7 .junk] H3)) (optA (intA .add (l2.getD 2 .junk) (.d (.int .i64 1))) fun v30 => X1 [l2.getD 0 .junk, l2.getD 1 .junk, v30, l2.getD 3 .junk, l2.getD 4 .junk, l2.getD 5 .junk, l2.getD 6 .junk, l2.getD 7 .junk] H3)) (optA (nilCkA (l2.getD 0 .junk)) fun v31 => optA (fieldA ti76 v31 2) fun v32 => optA (ldV false 1 v32 H3) fun v33 => optA (nilCkA (l2.getD 0 .junk)) fun v34 => optA (fieldA ti76 v34 2) fun v35 => optA (ldV false 1 v35 H3) fun v36 => optA (lenSl (l2.getD 1 .junk)) fun v37 => optA (intA .add v36 v37) fun v38 => optA (nilCkA (l2.getD 0 .junk)) fun v39 => optA (fieldA ti76 v39 2) fun v40 => stepK (stoA false 1 v40 v38 H3) H3 fun v41 H42 => optA (nilCkA (l2.getD 0 .junk)) fun v43 => optA (fieldA ti76 v43 1) fun v44 => optA (ldV false 1 v44 H42) fun v45 => optA (lenSl v45) fun v46 => newK H42 (fun n49 => mkSlA ti4 v46 v46 n49) fun v47 H48 => loopA (fun X50 l51 H52 => optA (lenSl (l51.getD 1 .junk)) fun v53 => optA (intA .lss (l51.getD 5 .junk) v53) fun v54 => ifA v54 (optA (nilCkA (l51.getD 0 .junk)) fun v55 => optA (fieldA ti76 v55 0) fun v56 => optA (ldV false 1 v56 H52) fun v57 => optA (intA .add (l51.getD 3 .junk) (l51.getD 5 .junk)) fun v58 => frzLK [v57, v58] H52 fun l61 H62 => γ 66 l61 H62 fun v59 H60 => ifA v59 (optA (intA .add (l51.getD 5 .junk) (.d (.int .i64 1))) fun v63 => X50 [l51.getD 0 .junk, l51.getD 1 .junk, l51.getD 2 .junk, l51.getD 3 .junk, l51.getD 4 .junk, v63, l51.getD 6 .junk, l51.getD 7 .junk] H60) (loopA (fun X64 l65 H66 => optA (nilCkA (l65.getD 0 .junk)) fun v67 => optA (fieldA ti76 v67 1) fun v68 => optA (ldV false 1 v68 H66) fun v69 => optA (lenSl v69) fun v70 => optA (intA .lss (l65.getD 6 .junk) v70) fun v71 => ifA v71 (optA (indexAddrA ti22 1 (l65.getD 1 .junk) (l65.getD 5 .junk)) fun v72 => optA (ldV false 1 v72 H66) fun v73 => frzLK [l65.getD 0 .junk, l65.getD 6 .junk, v73] H66 fun l76 H77 => γ 67 l76 H77 fun v74 H75 => optA (unA .not v74) fun v78 => ifA v78 (optA (intA .add (l65.getD 6 .junk) (.d (.int .i64 1))) fun v79 => X64 [l65.getD 0 .junk, l65.getD 1 .junk, l65.getD 2 .junk, l65.getD 3 .junk, l65.getD 4 .junk, l65.getD 5 .junk, v79, l65.getD 7 .junk] H75) (drA true (optA (nilCkA (l65.getD 0 .junk)) fun v80 => optA (fieldA ti76 v80 0) fun v81 => optA (ldV false 1 v81 H75) fun v82 => optA (nilCkA (l65.getD 0 .junk)) fun v83 => optA (fieldA ti76 v83 2) fun v84 => optA (ldV false 1 v84 H75) fun v85 => noRsA (aggL v82) (noRsA (aggL v85) (frzLK [v82, v85] H75 fun l87 H89 => ∃ r88, γ 66 l87 H89 (fun v H2 => v = r88 ∧ AHeap.le H89 H2) ∧ (optA (unA .not r88) fun v90 => ifA v90 (optA (indexAddrA ti22 1 (l65.getD 1 .junk) (l65.getD 5 .junk)) fun v91 => optA (ldV false 1 v91 H89) fun v92 => optA (indexAddrA ti71 1 (l65.getD 4 .junk) v92) fun v93 => stepK (stoA false 1 v93 (.d (.bool true)) H89) H89 fun v94 H95 => optA (nilCkA (l65.getD 0 .junk)) fun v96 => optA (fieldA ti76 v96 2) fun v97 => optA (ldV false 1 v97 H95) fun v98 => optA (intA .add v98 (.d (.int .i64 1))) fun v99 => optA (nilCkA (l65.getD 0 .junk)) fun v100 => optA (fieldA ti76 v100 2) fun v101 => stepK (stoA false 1 v101 v99 H95) H95 fun v102 H103 => optA (intA .add (l65.getD 6 .junk) (.d (.int .i64 1))) fun v104 => X64 [l65.getD 0 .junk, l65.getD 1 .junk, l65.getD 2 .junk, l65.getD 3 .junk, l65.getD 4 .junk, l65.getD 5 .junk, v104, l65.getD 7 .junk] H103) (optA (nilCkA (l65.getD 0 .junk)) fun v105 => optA (fieldA ti76 v105 2) fun v106 => optA (ldV false 1 v106 H89) fun v107 => optA (intA .add v107 (.d (.int .i64 1))) fun v108 => optA (nilCkA (l65.getD 0 .junk)) fun v109 => optA (fieldA ti76 v109 2) fun v110 => stepK (stoA false 1 v110 v108 H89) H89 fun v111 H112 => optA (intA .add (l65.getD 6 .junk) (.d (.int .i64 1))) fun v113 => X64 [l65.getD 0 .junk, l65.getD 1 .junk, l65.getD 2 .junk, l65.getD 3 .junk, l65.getD 4 .junk, l65.getD 5 .junk, v113, l65.getD 7 .junk] H112))))))) (optA (intA .add (l65.getD 5 .junk) (.d (.int .i64 1))) fun v114 => X50 [l65.getD 0 .junk, l65.getD 1 .junk, l65.getD 2 .junk, l65.getD 3 .junk, l65.getD 4 .junk, v114, l65.getD 6 .junk, l65.getD 7 .junk] H66)) [l51.getD 0 .junk, l51.getD 1 .junk, l51.getD 2 .junk, l51.getD 3 .junk, l51.getD 4 .junk, l51.getD 5 .junk, .d (.int .i64 0), l51.getD 7 .junk] H60)) (loopA (fun X115 l116 H117 => optA (lenSl (l116.getD 1 .junk)) fun v118 => optA (intA .lss (l116.getD 7 .junk) v118) fun v119 => ifA v119 (drA true (optA (nilCkA (l116.getD 0 .junk)) fun v120 => optA (fieldA ti76 v120 1) fun v121 => optA (ldV false 1 v121 H117) fun v122 => optA (indexAddrA ti22 1 (l116.getD 1 .junk) (l116.getD 7 .junk)) fun v123 => optA (ldV false 1 v123 H117) fun v124 => optA (indexAddrA ti74 6 v122 v124) fun v125 => optA (indexAddrA ti22 1 (l116.getD 1 .junk) (l116.getD 7 .junk)) fun v126 => optA (ldV false 1 v126 H117) fun v127 => optA (indexAddrA ti71 1 (l116.getD 4 .junk) v127) fun v128 => optA (ldV false 1 v128 H117) fun v129 => frzLK [v125, v129] H117 fun l132 H133 => γ 68 l132 H133 fun v130 H131 => optA (intA .add (l116.getD 7 .junk) (.d (.int .i64 1))) fun v134 => X115 [l116.getD 0 .junk, l116.getD 1 .junk, l116.getD 2 .junk, l116.getD 3 .junk, l116.getD 4 .junk, l116.getD 5 .junk, l116.getD 6 .junk, v134] H131)) (retF [] H117 K)) [l51.getD 0 .junk, l51.getD 1 .junk, l51.getD 2 .junk, l51.getD 3 .junk, l51.getD 4 .junk, l51.getD 5 .junk, l51.getD 6 .junk, .d (.int .i64 0)] H52)) [l2.getD 0 .junk, l2.getD 1 .junk, l2.getD 2 .junk, v33, v47, .d (.int .i64 0), l2.getD 6 .junk, l2.getD 7 .junk] H48)) [a0, .d (.sl true []), .d (.int .i64 0), .junk, .junk, .junk, .junk, .junk] H
noncomputable def r43_0 : List Oper := regOps Try.f43 0
noncomputable def r43_1 : List Oper := regOps Try.f43 1
noncomputable def r43_2 : List Oper := regOps Try.f43 2
noncomputable def r43_3 : List Oper := regOps Try.f43 3
noncomputable def r43_4 : List Oper := regOps Try.f43 4
noncomputable def r43_5 : List Oper := regOps Try.f43 5
noncomputable def r43_6 : List Oper := regOps Try.f43 6
noncomputable def r43_7 : List Oper := regOps Try.f43 7
noncomputable def r43_8 : List Oper := regOps Try.f43 8
noncomputable def r43_9 : List Oper := regOps Try.f43 9
noncomputable def r43_10 : List Oper := regOps Try.f43 10
noncomputable def r43_11 : List Oper := regOps Try.f43 11
noncomputable def r43_12 : List Oper := regOps Try.f43 12
noncomputable def r43_13 : List Oper := regOps Try.f43 13
noncomputable def r43_14 : List Oper := regOps Try.f43 14
noncomputable def r43_15 : List Oper := regOps Try.f43 15
noncomputable def r43_16 : List Oper := regOps Try.f43 16
noncomputable def r43_17 : List Oper := regOps Try.f43 17
noncomputable def r43_18 : List Oper := regOps Try.f43 18
noncomputable def r43_19 : List Oper := regOps Try.f43 19
noncomputable def r43_20 : List Oper := regOps Try.f43 20
noncomputable def r43_21 : List Oper := regOps Try.f43 21
noncomputable def r43_22 : List Oper := regOps Try.f43 22
noncomputable def r43_23 : List Oper := regOps Try.f43 23
noncomputable def c43 : Code := (.seq (.region 0 #[opAt r43_0 0] false) (.seq (.seq (.region 1 #[opAt r43_1 0] false) (.block 0 (.loop (.seq (.seq (.region 2 #[opAt r43_2 0, opAt r43_2 1, opAt r43_2 2, opAt r43_2 3, opAt r43_2 4, opAt r43_2 5, opAt r43_2 6] false) (.cond (.tmp 15) .skip (.exit 0))) (.seq (.block 1 (.seq (.region 4 #[opAt r43_3 0, opAt r43_3 1, opAt r43_3 2, opAt r43_3 3, opAt r43_3 4, opAt r43_3 5, opAt r43_3 6, opAt r43_3 7, opAt r43_3 8, opAt r43_3 9, opAt r43_3 10, opAt r43_3 11, opAt r43_3 12, opAt r43_3 13, opAt r43_3 14, opAt r43_3 15, opAt r43_3 16, opAt r43_3 17, opAt r43_3 18] false) (.cond (.tmp 36) (.region 5 #[opAt r43_4 0, opAt r43_4 1, opAt r43_4 2, opAt r43_4 3, opAt r43_4 4] false) .skip))) (.region 3 #[opAt r43_5 0, opAt r43_5 1, opAt r43_5 2] false)))))) (.seq (.region 6 #[opAt r43_6 0, opAt r43_6 1, opAt r43_6 2, opAt r43_6 3, opAt r43_6 4] false) (.seq (.region 7 #[opAt r43_7 0, opAt r43_7 1, opAt r43_7 2, opAt r43_7 3, opAt r43_7 4, opAt r43_7 5, opAt r43_7 6, opAt r43_7 7, opAt r43_7 8, opAt r43_7 9] false) (.seq (.region 8 #[opAt r43_8 0, opAt r43_8 1, opAt r43_8 2, opAt r43_8 3, opAt r43_8 4, opAt r43_8 5, opAt r43_8 6] false) (.seq (.seq (.region 9 #[opAt r43_9 0] false) (.block 2 (.loop (.seq (.seq (.region 10 #[opAt r43_10 0, opAt r43_10 1, opAt r43_10 2, opAt r43_10 3] false) (.cond (.tmp 63) .skip (.exit 2))) (.seq (.block 3 (.seq (.seq (.region 12 #[opAt r43_11 0, opAt r43_11 1, opAt r43_11 2, opAt r43_11 3, opAt r43_11 4, opAt r43_11 5, opAt r43_11 6, opAt r43_11 7] false) (.cond (.tmp 73) (.exit 3) .skip)) (.seq (.region 13 #[opAt r43_12 0] false) (.block 4 (.loop (.seq (.seq (.region 14 #[opAt r43_13 0, opAt r43_13 1, opAt r43_13 2, opAt r43_13 3, opAt r43_13 4, opAt r43_13 5, opAt r43_13 6] false) (.cond (.tmp 80) .skip (.exit 4))) (.seq (.block 5 (.seq (.seq (.region 16 #[opAt r43_14 0, opAt r43_14 1, opAt r43_14 2, opAt r43_14 3, opAt r43_14 4, opAt r43_14 5, opAt r43_14 6, opAt r43_14 7] false) (.cond (.tmp 90) (.exit 5) .skip)) (.seq (.seq (.region 17 #[opAt r43_15 0, opAt r43_15 1, opAt r43_15 2, opAt r43_15 3, opAt r43_15 4, opAt r43_15 5, opAt r43_15 6, opAt r43_15 7, opAt r43_15 8, opAt r43_15 9] true) (.cond (.tmp 100) (.region 18 #[opAt r43_16 0, opAt r43_16 1, opAt r43_16 2, opAt r43_16 3, opAt r43_16 4, opAt r43_16 5, opAt r43_16 6] false) .skip)) (.region 19 #[opAt r43_17 0, opAt r43_17 1, opAt r43_17 2, opAt r43_17 3, opAt r43_17 4, opAt r43_17 5, opAt r43_17 6, opAt r43_17 7] false)))) (.region 15 #[opAt r43_18 0, opAt r43_18 1, opAt r43_18 2] false)))))))) (.region 11 #[opAt r43_19 0, opAt r43_19 1, opAt r43_19 2] false)))))) (.seq (.region 20 #[opAt r43_20 0] false) (.block 6 (.loop (.seq (.seq (.region 21 #[opAt r43_21 0, opAt r43_21 1, opAt r43_21 2, opAt r43_21 3] false) (.cond (.tmp 117) .skip (.exit 6))) (.seq (.block 7 (.region 23 #[opAt r43_22 0, opAt r43_22 1, opAt r43_22 2, opAt r43_22 3, opAt r43_22 4, opAt r43_22 5, opAt r43_22 6, opAt r43_22 7, opAt r43_22 8, opAt r43_22 9, opAt r43_22 10, opAt r43_22 11, opAt r43_22 12, opAt r43_22 13, opAt r43_22 14, opAt r43_22 15, opAt r43_22 16] true)) (.region 22 #[opAt r43_23 0, opAt r43_23 1, opAt r43_23 2] false))))))))))))
theorem c43_eq : Try.f43.body = some c43 := by kernel_rfl
theorem S43_eq (γ : Calld) (a0 : AV) (H : AHeap) (K : AV → AHeap → Prop) : execC Try.prog γ pol43 Try.f43 c43 [a0] H K = S43 γ a0 H K := by kernel_rfl
theorem C43 {a0 : AV} {H : AHeap} {K : AV → AHeap → Prop} (h : S43 (CallsA Try.prog) a0 H K) : CallsA Try.prog 43 [a0] H K :=
  calls_of Try.func43 (ne_of_beq_false (by kernel_rfl)) c43_eq (by kernel_rfl) (by rw [S43_eq]; exact h)
/-! (*tithing/tithingref02.Bus).Node -/
def pol44 : Pol := { lend := fun g => !([34, 57, 63] : List Nat).contains g, keep := [], frz := fun _ => [], perm := fun r => [], bf := fun r => [], ret := true }
def S44 (γ : Calld) (a0 a1 : AV) (H : AHeap) (K : AV → AHeap → Prop) : Prop :=
  frzLK [a0, a1] H fun l3 H4 => γ 64 l3 H4 fun v1 H2 => optA (unA .not v1) fun v5 => ifA v5 (retF [.d (.int .i64 0)] H2 K) (optA (nilCkA a0) fun v6 => optA (fieldA ti76 v6 1) fun v7 => optA (ldV false 1 v7 H2) fun v8 => optA (indexAddrA ti74 6 v8 a1) fun v9 => optA (fieldA ti89 v9 5) fun v10 => optA (ldV false 1 v10 H2) fun v11 => retF [v11] H2 K)
noncomputable def r44_0 : List Oper := regOps Try.f44 0
noncomputable def r44_1 : List Oper := regOps Try.f44 1
noncomputable def r44_2 : List Oper := regOps Try.f44 2
noncomputable def r44_3 : List Oper := regOps Try.f44 3
noncomputable def c44 : Code := (.seq (.region 0 #[opAt r44_0 0] false) (.seq (.seq (.region 1 #[opAt r44_1 0, opAt r44_1 1, opAt r44_1 2, opAt r44_1 3] false) (.cond (.tmp 8) (.seq (.region 2 #[opAt r44_2 0] false) .ret) .skip)) (.seq (.region 3 #[opAt r44_3 0, opAt r44_3 1, opAt r44_3 2, opAt r44_3 3, opAt r44_3 4, opAt r44_3 5, opAt r44_3 6, opAt r44_3 7, opAt r44_3 8] false) .ret)))
theorem c44_eq : Try.f44.body = some c44 := by kernel_rfl
theorem S44_eq (γ : Calld) (a0 a1 : AV) (H : AHeap) (K : AV → AHeap → Prop) : execC Try.prog γ pol44 Try.f44 c44 [a0, a1] H K = S44 γ a0 a1 H K := by kernel_rfl
theorem C44 {a0 a1 : AV} {H : AHeap} {K : AV → AHeap → Prop} (h : S44 (CallsA Try.prog) a0 a1 H K) : CallsA Try.prog 44 [a0, a1] H K :=
  calls_of Try.func44 (ne_of_beq_false (by kernel_rfl)) c44_eq (by kernel_rfl) (by rw [S44_eq]; exact h)
/-! (*tithing/tithingref02.Bus).State -/
def pol45 : Pol := { lend := fun g => !([34, 57, 63] : List Nat).contains g, keep := [], frz := fun _ => [], perm := fun r => [], bf := fun r => [], ret := true }
def S45 (γ : Calld) (a0 a1 : AV) (H : AHeap) (K : AV → AHeap → Prop) : Prop :=
  frzLK [a0, a1] H fun l3 H4 => γ 64 l3 H4 fun v1 H2 => optA (unA .not v1) fun v5 => ifA v5 (retF [.d (.int .i64 (-1))] H2 K) (optA (nilCkA a0) fun v6 => optA (fieldA ti76 v6 1) fun v7 => optA (ldV false 1 v7 H2) fun v8 => optA (indexAddrA ti74 6 v8 a1) fun v9 => optA (fieldA ti89 v9 2) fun v10 => optA (ldV false 1 v10 H2) fun v11 => retF [v11] H2 K)
noncomputable def r45_0 : List Oper := regOps Try.f45 0
noncomputable def r45_1 : List Oper := regOps Try.f45 1
noncomputable def r45_2 : List Oper := regOps Try.f45 2
noncomputable def r45_3 : List Oper := regOps Try.f45 3
noncomputable def c45 : Code := (.seq (.region 0 #[opAt r45_0 0] false) (.seq (.seq (.region 1 #[opAt r45_1 0, opAt r45_1 1, opAt r45_1 2, opAt r45_1 3] false) (.cond (.tmp 8) (.seq (.region 2 #[opAt r45_2 0] false) .ret) .skip)) (.seq (.region 3 #[opAt r45_3 0, opAt r45_3 1, opAt r45_3 2, opAt r45_3 3, opAt r45_3 4, opAt r45_3 5, opAt r45_3 6, opAt r45_3 7, opAt r45_3 8] false) .ret)))
theorem c45_eq : Try.f45.body = some c45 := by kernel_rfl
theorem S45_eq (γ : Calld) (a0 a1 : AV) (H : AHeap) (K : AV → AHeap → Prop) : execC Try.prog γ pol45 Try.f45 c45 [a0, a1] H K = S45 γ a0 a1 H K := by kernel_rfl
theorem C45 {a0 a1 : AV} {H : AHeap} {K : AV → AHeap → Prop} (h : S45 (CallsA Try.prog) a0 a1 H K) : CallsA Try.prog 45 [a0, a1] H K :=
  calls_of Try.func45 (ne_of_beq_false (by kernel_rfl)) c45_eq (by kernel_rfl) (by rw [S45_eq]; exact h)
/-! (*tithing/tithingref02.Bus).Quiet -/
def pol46 : Pol := { lend := fun g => !([34, 57, 63] : List Nat).contains g, keep := [0, 3], frz := fun _ => [], perm := fun r => [], bf := fun r => [], ret := true }
def S46 (γ : Calld) (a0 : AV) (H : AHeap) (K : AV → AHeap → Prop) : Prop :=
  loopA (fun X1 l2 H3 => optA (nilCkA (l2.getD 0 .junk)) fun v4 => optA (fieldA ti76 v4 1) fun v5 => optA (ldV false 1 v5 H3) fun v6 => optA (lenSl v6) fun v7 => optA (intA .lss (l2.getD 1 .junk) v7) fun v8 => ifA v8 (optA (nilCkA (l2.getD 0 .junk)) fun v9 => optA (fieldA ti76 v9 1) fun v10 => optA (ldV false 1 v10 H3) fun v11 => optA (indexAddrA ti74 6 v11 (l2.getD 1 .junk)) fun v12 => optA (fieldA ti89 v12 2) fun v13 => optA (ldV false 1 v13 H3) fun v14 => optA (intA .eql v14 (.d (.int .i64 1))) fun v15 => ifA v15 (retF [.d (.bool false)] H3 K) (optA (intA .add (l2.getD 1 .junk) (.d (.int .i64 1))) fun v16 => X1 [l2.getD 0 .junk, v16] H3)) (retF [.d (.bool true)] H3 K)) [a0, .d (.int .i64 0)] H
noncomputable def r46_0 : List Oper := regOps Try.f46 0
noncomputable def r46_1 : List Oper := regOps Try.f46 1
noncomputable def r46_2 : List Oper := regOps Try.f46 2
noncomputable def r46_3 : List Oper := regOps Try.f46 3
noncomputable def r46_4 : List Oper := regOps Try.f46 4
noncomputable def r46_5 : List Oper := regOps Try.f46 5
noncomputable def r46_6 : List Oper := regOps Try.f46 6
noncomputable def c46 : Code := (.seq (.region 0 #[opAt r46_0 0] false) (.seq (.seq (.region 1 #[opAt r46_1 0] false) (.block 0 (.loop (.seq (.seq (.region 2 #[opAt r46_2 0, opAt r46_2 1, opAt r46_2 2, opAt r46_2 3, opAt r46_2 4, opAt r46_2 5, opAt r46_2 6] false) (.cond (.tmp 10) .skip (.exit 0))) (.seq (.block 1 (.seq (.region 4 #[opAt r46_3 0, opAt r46_3 1, opAt r46_3 2, opAt r46_3 3, opAt r46_3 4, opAt r46_3 5, opAt r46_3 6, opAt r46_3 7, opAt r46_3 8] false) (.cond (.tmp 21) (.seq (.region 5 #[opAt r46_4 0] false) .ret) .skip))) (.region 3 #[opAt r46_5 0, opAt r46_5 1, opAt r46_5 2] false)))))) (.seq (.region 6 #[opAt r46_6 0] false) .ret)))
theorem c46_eq : Try.f46.body = some c46 := by kernel_rfl
theorem S46_eq (γ : Calld) (a0 : AV) (H : AHeap) (K : AV → AHeap → Prop) : execC Try.prog γ pol46 Try.f46 c46 [a0] H K = S46 γ a0 H K := by kernel_rfl
theorem C46 {a0 : AV} {H : AHeap} {K : AV → AHeap → Prop} (h : S46 (CallsA Try.prog) a0 H K) : CallsA Try.prog 46 [a0] H K :=
  calls_of Try.func46 (ne_of_beq_false (by kernel_rfl)) c46_eq (by kernel_rfl) (by rw [S46_eq]; exact h)
/-! tithing/tithinglaw02.pairs -/
def pol47 : Pol := { lend := fun g => !([34, 57, 63] : List Nat).contains g, keep := [0, 1, 5], frz := fun _ => [], perm := fun r => if r = 6 then [0, 1, 2, 3, 4, 5, 6, 7, 8] else [], bf := fun r => if r = 6 then [0, 0, 3, 7, 0, 0, 48, 112, 255] else [], ret := true }
def S47 (γ : Calld) (a0 a1 : AV) (H : AHeap) (K : AV → AHeap → Prop) : Prop :=
  optA (lenSl a0) fun v1 => optA (lenSl a1) fun v2 => optA (intA .neq v1 v2) fun v3 => ifA v3 (retF [.d (.bool false)] H K) (loopA (fun X4 l5 H6 => optA (lenSl (l5.getD 0 .junk)) fun v7 => optA (intA .lss (l5.getD 2 .junk) v7) fun v8 => ifA v8 (drA true (optA (indexAddrA ti43 2 (l5.getD 0 .junk) (l5.getD 2 .junk)) fun v9 => optA (ldV true 2 v9 H6) fun v10 => optA (indexAddrA ti43 2 (l5.getD 1 .junk) (l5.getD 2 .junk)) fun v11 => optA (ldV true 2 v11 H6) fun v12 => optA (aggA Try.prog .neq 77 v10 v12) fun v13 => ifA v13 (retF [.d (.bool false)] H6 K) (optA (intA .add (l5.getD 2 .junk) (.d (.int .i64 1))) fun v14 => X4 [l5.getD 0 .junk, l5.getD 1 .junk, v14] H6))) (retF [.d (.bool true)] H6 K)) [a0, a1, .d (.int .i64 0)] H)
noncomputable def r47_0 : List Oper := regOps Try.f47 0
noncomputable def r47_1 : List Oper := regOps Try.f47 1
noncomputable def r47_2 : List Oper := regOps Try.f47 2
noncomputable def r47_3 : List Oper := regOps Try.f47 3
noncomputable def r47_4 : List Oper := regOps Try.f47 4
noncomputable def r47_5 : List Oper := regOps Try.f47 5
noncomputable def r47_6 : List Oper := regOps Try.f47 6
noncomputable def r47_7 : List Oper := regOps Try.f47 7
noncomputable def r47_8 : List Oper := regOps Try.f47 8
noncomputable def c47 : Code := (.seq (.region 0 #[opAt r47_0 0] false) (.seq (.seq (.region 1 #[opAt r47_1 0, opAt r47_1 1, opAt r47_1 2, opAt r47_1 3, opAt r47_1 4] false) (.cond (.tmp 10) (.seq (.region 2 #[opAt r47_2 0] false) .ret) .skip)) (.seq (.seq (.region 3 #[opAt r47_3 0] false) (.block 0 (.loop (.seq (.seq (.region 4 #[opAt r47_4 0, opAt r47_4 1, opAt r47_4 2, opAt r47_4 3] false) (.cond (.tmp 14) .skip (.exit 0))) (.seq (.block 1 (.seq (.region 6 #[opAt r47_5 0, opAt r47_5 1, opAt r47_5 2, opAt r47_5 3, opAt r47_5 4, opAt r47_5 5, opAt r47_5 6, opAt r47_5 7, opAt r47_5 8] true) (.cond (.tmp 25) (.seq (.region 7 #[opAt r47_6 0] false) .ret) .skip))) (.region 5 #[opAt r47_7 0, opAt r47_7 1, opAt r47_7 2] false)))))) (.seq (.region 8 #[opAt r47_8 0] false) .ret))))
theorem c47_eq : Try.f47.body = some c47 := by kernel_rfl
theorem S47_eq (γ : Calld) (a0 a1 : AV) (H : AHeap) (K : AV → AHeap → Prop) : execC Try.prog γ pol47 Try.f47 c47 [a0, a1] H K = S47 γ a0 a1 H K := by kernel_rfl
theorem C47 {a0 a1 : AV} {H : AHeap} {K : AV → AHeap → Prop} (h : S47 (CallsA Try.prog) a0 a1 H K) : CallsA Try.prog 47 [a0, a1] H K :=
  calls_of Try.func47 (ne_of_beq_false (by kernel_rfl)) c47_eq (by kernel_rfl) (by rw [S47_eq]; exact h)
/-! (*tithing/tithingref02.Bus).Clashes -/
def pol48 : Pol := { lend := fun g => !([34, 57, 63] : List Nat).contains g, keep := [0, 3, 4, 5], frz := fun _ => [], perm := fun r => if r = 8 then [0, 1, 2, 3, 4, 5, 6, 7, 8, 9, 10, 11, 12, 13, 14, 15, 16, 17, 18, 19, 20, 21, 22, 23, 24, 25, 26, 27, 28, 29, 30, 31, 32, 33, 34, 35, 36, 37, 38] else [], bf := fun r => if r = 8 then [0, 1, 3, 7, 0, 31, 63, 127, 255, 511, 1023, 2047, 4095, 8191, 1023, 32767, 65535, 131071, 262143, 524287, 1048575, 2097151, 4194303, 8388607, 16777215, 2097151, 67108863, 134217727, 268435455, 2097151, 538968063, 1612709887, 3760193535, 2097151, 16645095423, 33824964607, 68184702975, 137438953471, 274877906943] else [], ret := true }
def S48 (γ : Calld) (a0 : AV) (H : AHeap) (K : AV → AHeap → Prop) : Prop :=
  loopA (fun X1 l2 H3 => optA (nilCkA (l2.getD 0 .junk)) fun v4 => optA (fieldA ti76 v4 1) fun v5 => optA (ldV false 1 v5 H3) fun v6 => optA (lenSl v6) fun v7 => optA (intA .lss (l2.getD 2 .junk) v7) fun v8 => ifA v8 (optA (intA .add (l2.getD 2 .junk) (.d (.int .i64 1))) fun v9 => loopA (fun X10 l11 H12 => optA (nilCkA (l11.getD 0 .junk)) fun v13 => optA (fieldA ti76 v13 1) fun v14 => optA (ldV false 1 v14 H12) fun v15 => optA (lenSl v15) fun v16 => optA (intA .lss (l11.getD 3 .junk) v16) fun v17 => ifA v17 (drA true (optA (nilCkA (l11.getD 0 .junk)) fun v18 => optA (fieldA ti76 v18 1) fun v19 => optA (ldV false 1 v19 H12) fun v20 => optA (indexAddrA ti74 6 v20 (l11.getD 2 .junk)) fun v21 => optA (fieldA ti89 v21 2) fun v22 => optA (ldV false 1 v22 H12) fun v23 => optA (intA .eql v23 (.d (.int .i64 2))) fun v24 => ifA v24 (optA (nilCkA (l11.getD 0 .junk)) fun v25 => optA (fieldA ti76 v25 1) fun v26 => optA (ldV false 1 v26 H12) fun v27 => optA (indexAddrA ti74 6 v27 (l11.getD 3 .junk)) fun v28 => optA (fieldA ti89 v28 2) fun v29 => optA (ldV false 1 v29 H12) fun v30 => optA (intA .eql v30 (.d (.int .i64 2))) fun v31 => ifA v31 (optA (nilCkA (l11.getD 0 .junk)) fun v32 => optA (fieldA ti76 v32 1) fun v33 => optA (ldV false 1 v33 H12) fun v34 => optA (indexAddrA ti74 6 v34 (l11.getD 2 .junk)) fun v35 => optA (fieldA ti89 v35 5) fun v36 => optA (ldV false 1 v36 H12) fun v37 => optA (nilCkA (l11.getD 0 .junk)) fun v38 => optA (fieldA ti76 v38 1) fun v39 => optA (ldV false 1 v39 H12) fun v40 => optA (indexAddrA ti74 6 v40 (l11.getD 3 .junk)) fun v41 => optA (fieldA ti89 v41 5) fun v42 => optA (ldV false 1 v42 H12) fun v43 => optA (intA .eql v37 v43) fun v44 => ifA v44 (stepK (bdA Try.prog ti77 [0, 1] [l11.getD 2 .junk, l11.getD 3 .junk] H12) H12 fun v45 H46 => newK H46 (fun n49 => bsA ti77 1 [0] [v45] H46 n49) fun v47 H48 => newK H48 (fun n52 => apA 2 16 (l11.getD 1 .junk) v47 H48 n52) fun v50 H51 => optA (intA .add (l11.getD 3 .junk) (.d (.int .i64 1))) fun v53 => X10 [l11.getD 0 .junk, v50, l11.getD 2 .junk, v53] H51) (optA (intA .add (l11.getD 3 .junk) (.d (.int .i64 1))) fun v54 => X10 [l11.getD 0 .junk, l11.getD 1 .junk, l11.getD 2 .junk, v54] H12)) (optA (intA .add (l11.getD 3 .junk) (.d (.int .i64 1))) fun v55 => X10 [l11.getD 0 .junk, l11.getD 1 .junk, l11.getD 2 .junk, v55] H12)) (optA (intA .add (l11.getD 3 .junk) (.d (.int .i64 1))) fun v56 => X10 [l11.getD 0 .junk, l11.getD 1 .junk, l11.getD 2 .junk, v56] H12))) (optA (intA .add (l11.getD 2 .junk) (.d (.int .i64 1))) fun v57 => X1 [l11.getD 0 .junk, l11.getD 1 .junk, v57, l11.getD 3 .junk] H12)) [l2.getD 0 .junk, l2.getD 1 .junk, l2.getD 2 .junk, v9] H3) (retF [l2.getD 1 .junk] H3 K)) [a0, .d (.sl true []), .d (.int .i64 0), .junk] H
noncomputable def r48_0 : List Oper := regOps Try.f48 0
noncomputable def r48_1 : List Oper := regOps Try.f48 1
noncomputable def r48_2 : List Oper := regOps Try.f48 2
noncomputable def r48_3 : List Oper := regOps Try.f48 3
noncomputable def r48_4 : List Oper := regOps Try.f48 4
noncomputable def r48_5 : List Oper := regOps Try.f48 5
noncomputable def r48_6 : List Oper := regOps Try.f48 6
noncomputable def r48_7 : List Oper := regOps Try.f48 7
noncomputable def r48_8 : List Oper := regOps Try.f48 8
noncomputable def r48_9 : List Oper := regOps Try.f48 9
noncomputable def r48_10 : List Oper := regOps Try.f48 10
noncomputable def c48 : Code := (.seq (.region 0 #[opAt r48_0 0] false) (.seq (.region 1 #[opAt r48_1 0] false) (.seq (.seq (.region 2 #[opAt r48_2 0] false) (.block 0 (.loop (.seq (.seq (.region 3 #[opAt r48_3 0, opAt r48_3 1, opAt r48_3 2, opAt r48_3 3, opAt r48_3 4, opAt r48_3 5, opAt r48_3 6] false) (.cond (.tmp 12) .skip (.exit 0))) (.seq (.block 1 (.seq (.region 5 #[opAt r48_4 0, opAt r48_4 1, opAt r48_4 2] false) (.block 2 (.loop (.seq (.seq (.region 6 #[opAt r48_5 0, opAt r48_5 1, opAt r48_5 2, opAt r48_5 3, opAt r48_5 4, opAt r48_5 5, opAt r48_5 6] false) (.cond (.tmp 23) .skip (.exit 2))) (.seq (.block 3 (.seq (.region 8 #[opAt r48_6 0, opAt r48_6 1, opAt r48_6 2, opAt r48_6 3, opAt r48_6 4, opAt r48_6 5, opAt r48_6 6, opAt r48_6 7, opAt r48_6 8, opAt r48_6 9, opAt r48_6 10, opAt r48_6 11, opAt r48_6 12, opAt r48_6 13, opAt r48_6 14, opAt r48_6 15, opAt r48_6 16, opAt r48_6 17, opAt r48_6 18, opAt r48_6 19, opAt r48_6 20, opAt r48_6 21, opAt r48_6 22, opAt r48_6 23, opAt r48_6 24, opAt r48_6 25, opAt r48_6 26, opAt r48_6 27, opAt r48_6 28, opAt r48_6 29, opAt r48_6 30, opAt r48_6 31, opAt r48_6 32, opAt r48_6 33, opAt r48_6 34, opAt r48_6 35, opAt r48_6 36, opAt r48_6 37, opAt r48_6 38] true) (.cond (.tmp 64) (.region 9 #[opAt r48_7 0, opAt r48_7 1, opAt r48_7 2, opAt r48_7 3, opAt r48_7 4, opAt r48_7 5, opAt r48_7 6] false) .skip))) (.region 7 #[opAt r48_8 0, opAt r48_8 1, opAt r48_8 2] false))))))) (.region 4 #[opAt r48_9 0, opAt r48_9 1, opAt r48_9 2] false)))))) (.seq (.region 10 #[opAt r48_10 0, opAt r48_10 1] false) .ret))))
theorem c48_eq : Try.f48.body = some c48 := by kernel_rfl
theorem S48_eq (γ : Calld) (a0 : AV) (H : AHeap) (K : AV → AHeap → Prop) : execC Try.prog γ pol48 Try.f48 c48 [a0] H K = S48 γ a0 H K := by kernel_rfl
theorem C48 {a0 : AV} {H : AHeap} {K : AV → AHeap → Prop} (h : S48 (CallsA Try.prog) a0 H K) : CallsA Try.prog 48 [a0] H K :=
  calls_of Try.func48 (ne_of_beq_false (by kernel_rfl)) c48_eq (by kernel_rfl) (by rw [S48_eq]; exact h)
/-! tithing/bus.Contend$1 -/
def pol49 : Pol := { lend := fun g => !([34, 57, 63] : List Nat).contains g, keep := [], frz := fun _ => [], perm := fun r => [], bf := fun r => [], ret := true }
def S49 (γ : Calld) (a0 : AV) (H : AHeap) (K : AV → AHeap → Prop) : Prop :=
  optA (intA .lss a0 (.d (.int .i64 0))) fun v1 => retF [v1] H K
noncomputable def r49_0 : List Oper := regOps Try.f49 0
noncomputable def r49_1 : List Oper := regOps Try.f49 1
noncomputable def c49 : Code := (.seq (.region 0 #[opAt r49_0 0] false) (.seq (.region 1 #[opAt r49_1 0, opAt r49_1 1, opAt r49_1 2] false) .ret))
theorem c49_eq : Try.f49.body = some c49 := by kernel_rfl
theorem S49_eq (γ : Calld) (a0 : AV) (H : AHeap) (K : AV → AHeap → Prop) : execC Try.prog γ pol49 Try.f49 c49 [a0] H K = S49 γ a0 H K := by kernel_rfl
theorem C49 {a0 : AV} {H : AHeap} {K : AV → AHeap → Prop} (h : S49 (CallsA Try.prog) a0 H K) : CallsA Try.prog 49 [a0] H K :=
  calls_of Try.func49 (ne_of_beq_false (by kernel_rfl)) c49_eq (by kernel_rfl) (by rw [S49_eq]; exact h)
/-! slices.ContainsFunc[[]int,int] -/
def pol50 : Pol := { lend := fun g => !([34, 57, 63] : List Nat).contains g, keep := [], frz := fun _ => [], perm := fun r => [], bf := fun r => [], ret := true }
def S50 (γ : Calld) (a0 a1 : AV) (H : AHeap) (K : AV → AHeap → Prop) : Prop :=
  frzLK [a0, a1] H fun l3 H4 => γ 69 l3 H4 fun v1 H2 => optA (intA .geq v1 (.d (.int .i64 0))) fun v5 => retF [v5] H2 K
noncomputable def r50_0 : List Oper := regOps Try.f50 0
noncomputable def r50_1 : List Oper := regOps Try.f50 1
noncomputable def c50 : Code := (.seq (.region 0 #[opAt r50_0 0] false) (.seq (.region 1 #[opAt r50_1 0, opAt r50_1 1, opAt r50_1 2, opAt r50_1 3, opAt r50_1 4] false) .ret))
theorem c50_eq : Try.f50.body = some c50 := by kernel_rfl
theorem S50_eq (γ : Calld) (a0 a1 : AV) (H : AHeap) (K : AV → AHeap → Prop) : execC Try.prog γ pol50 Try.f50 c50 [a0, a1] H K = S50 γ a0 a1 H K := by kernel_rfl
theorem C50 {a0 a1 : AV} {H : AHeap} {K : AV → AHeap → Prop} (h : S50 (CallsA Try.prog) a0 a1 H K) : CallsA Try.prog 50 [a0, a1] H K :=
  calls_of Try.func50 (ne_of_beq_false (by kernel_rfl)) c50_eq (by kernel_rfl) (by rw [S50_eq]; exact h)
/-! tithing/bus.rest -/
def pol52 : Pol := { lend := fun g => !([34, 57, 63] : List Nat).contains g, keep := [], frz := fun _ => [], perm := fun r => [], bf := fun r => [], ret := true }
def S52 (γ : Calld) (a0 a1 : AV) (H : AHeap) (K : AV → AHeap → Prop) : Prop :=
  optA (intA .rem a0 a1) fun v1 => optA (intA .add v1 a1) fun v2 => optA (intA .rem v2 a1) fun v3 => retF [v3] H K
noncomputable def r52_0 : List Oper := regOps Try.f52 0
noncomputable def r52_1 : List Oper := regOps Try.f52 1
noncomputable def c52 : Code := (.seq (.region 0 #[opAt r52_0 0] false) (.seq (.region 1 #[opAt r52_1 0, opAt r52_1 1, opAt r52_1 2, opAt r52_1 3, opAt r52_1 4, opAt r52_1 5, opAt r52_1 6, opAt r52_1 7] false) .ret))
theorem c52_eq : Try.f52.body = some c52 := by kernel_rfl
theorem S52_eq (γ : Calld) (a0 a1 : AV) (H : AHeap) (K : AV → AHeap → Prop) : execC Try.prog γ pol52 Try.f52 c52 [a0, a1] H K = S52 γ a0 a1 H K := by kernel_rfl
theorem C52 {a0 a1 : AV} {H : AHeap} {K : AV → AHeap → Prop} (h : S52 (CallsA Try.prog) a0 a1 H K) : CallsA Try.prog 52 [a0, a1] H K :=
  calls_of Try.func52 (ne_of_beq_false (by kernel_rfl)) c52_eq (by kernel_rfl) (by rw [S52_eq]; exact h)
/-! slices.BinarySearch[[]int,int] -/
def pol54 : Pol := { lend := fun g => !([34, 57, 63] : List Nat).contains g, keep := [0, 1, 6, 7, 8], frz := fun _ => [], perm := fun r => [], bf := fun r => [], ret := true }
def S54 (γ : Calld) (a0 a1 : AV) (H : AHeap) (K : AV → AHeap → Prop) : Prop :=
  optA (lenSl a0) fun v1 => loopA (fun X2 l3 H4 => optA (intA .lss (l3.getD 3 .junk) (l3.getD 4 .junk)) fun v5 => ifA v5 (optA (intA .add (l3.getD 3 .junk) (l3.getD 4 .junk)) fun v6 => optA (cvI .u64 v6) fun v7 => optA (intA .shr v7 (.d (.int .u64 1))) fun v8 => optA (cvI .i64 v8) fun v9 => optA (indexAddrA ti22 1 (l3.getD 0 .junk) v9) fun v10 => optA (ldV false 1 v10 H4) fun v11 => frzLK [v11, l3.getD 1 .junk] H4 fun l14 H15 => γ 71 l14 H15 fun v12 H13 => ifA v12 (optA (intA .add v9 (.d (.int .i64 1))) fun v16 => X2 [l3.getD 0 .junk, l3.getD 1 .junk, l3.getD 2 .junk, v16, l3.getD 4 .junk] H13) (X2 [l3.getD 0 .junk, l3.getD 1 .junk, l3.getD 2 .junk, l3.getD 3 .junk, v9] H13)) (optA (intA .lss (l3.getD 3 .junk) (l3.getD 2 .junk)) fun v17 => ifA v17 (optA (indexAddrA ti22 1 (l3.getD 0 .junk) (l3.getD 3 .junk)) fun v18 => optA (ldV false 1 v18 H4) fun v19 => optA (intA .eql v19 (l3.getD 1 .junk)) fun v20 => ifA v20 (retF [l3.getD 3 .junk, .d (.bool true)] H4 K) (optA (indexAddrA ti22 1 (l3.getD 0 .junk) (l3.getD 3 .junk)) fun v21 => optA (ldV false 1 v21 H4) fun v22 => frzLK [v22] H4 fun l25 H26 => γ 72 l25 H26 fun v23 H24 => ifA v23 (frzLK [l3.getD 1 .junk] H24 fun l29 H30 => γ 72 l29 H30 fun v27 H28 => retF [l3.getD 3 .junk, v27] H28 K) (retF [l3.getD 3 .junk, .d (.bool false)] H24 K))) (retF [l3.getD 3 .junk, .d (.bool false)] H4 K))) [a0, a1, v1, .d (.int .i64 0), v1] H
noncomputable def r54_0 : List Oper := regOps Try.f54 0
noncomputable def r54_1 : List Oper := regOps Try.f54 1
noncomputable def r54_2 : List Oper := regOps Try.f54 2
noncomputable def r54_3 : List Oper := regOps Try.f54 3
noncomputable def r54_4 : List Oper := regOps Try.f54 4
noncomputable def r54_5 : List Oper := regOps Try.f54 5
noncomputable def r54_6 : List Oper := regOps Try.f54 6
noncomputable def r54_7 : List Oper := regOps Try.f54 7
noncomputable def r54_8 : List Oper := regOps Try.f54 8
noncomputable def c54 : Code := (.seq (.region 0 #[opAt r54_0 0, opAt r54_0 1] false) (.seq (.region 1 #[opAt r54_1 0, opAt r54_1 1, opAt r54_1 2] false) (.seq (.region 2 #[opAt r54_2 0, opAt r54_2 1, opAt r54_2 2] false) (.seq (.block 0 (.loop (.seq (.seq (.region 3 #[opAt r54_3 0, opAt r54_3 1, opAt r54_3 2] false) (.cond (.tmp 15) .skip (.exit 0))) (.block 1 (.seq (.region 4 #[opAt r54_4 0, opAt r54_4 1, opAt r54_4 2, opAt r54_4 3, opAt r54_4 4, opAt r54_4 5, opAt r54_4 6] false) (.seq (.region 5 #[opAt r54_5 0, opAt r54_5 1, opAt r54_5 2, opAt r54_5 3, opAt r54_5 4, opAt r54_5 5] false) (.cond (.tmp 27) (.region 6 #[opAt r54_6 0, opAt r54_6 1, opAt r54_6 2] false) (.region 7 #[opAt r54_7 0, opAt r54_7 1] false)))))))) (.seq (.region 8 #[opAt r54_8 0, opAt r54_8 1, opAt r54_8 2, opAt r54_8 3, opAt r54_8 4, opAt r54_8 5, opAt r54_8 6, opAt r54_8 7, opAt r54_8 8, opAt r54_8 9, opAt r54_8 10, opAt r54_8 11, opAt r54_8 12, opAt r54_8 13, opAt r54_8 14, opAt r54_8 15, opAt r54_8 16, opAt r54_8 17, opAt r54_8 18, opAt r54_8 19, opAt r54_8 20, opAt r54_8 21, opAt r54_8 22, opAt r54_8 23, opAt r54_8 24] false) .ret)))))
theorem c54_eq : Try.f54.body = some c54 := by kernel_rfl
theorem S54_eq (γ : Calld) (a0 a1 : AV) (H : AHeap) (K : AV → AHeap → Prop) : execC Try.prog γ pol54 Try.f54 c54 [a0, a1] H K = S54 γ a0 a1 H K := by kernel_rfl
theorem C54 {a0 a1 : AV} {H : AHeap} {K : AV → AHeap → Prop} (h : S54 (CallsA Try.prog) a0 a1 H K) : CallsA Try.prog 54 [a0, a1] H K :=
  calls_of Try.func54 (ne_of_beq_false (by kernel_rfl)) c54_eq (by kernel_rfl) (by rw [S54_eq]; exact h)
/-! slices.Equal[[]int,int] -/
def pol56 : Pol := { lend := fun g => !([34, 57, 63] : List Nat).contains g, keep := [0, 1, 12, 13], frz := fun _ => [], perm := fun r => if r = 6 then [0, 1, 2, 3, 4, 5, 6, 7, 8] else [], bf := fun r => if r = 6 then [0, 0, 3, 7, 0, 0, 48, 112, 255] else [], ret := true }
def S56 (γ : Calld) (a0 a1 : AV) (H : AHeap) (K : AV → AHeap → Prop) : Prop :=
  optA (lenSl a0) fun v1 => optA (lenSl a1) fun v2 => optA (intA .neq v1 v2) fun v3 => ifA v3 (retF [.d (.bool false)] H K) (optA (lenSl a0) fun v4 => loopA (fun X5 l6 H7 => optA (intA .lss (l6.getD 3 .junk) (l6.getD 2 .junk)) fun v8 => ifA v8 (drA true (optA (indexAddrA ti22 1 (l6.getD 0 .junk) (l6.getD 3 .junk)) fun v9 => optA (ldV false 1 v9 H7) fun v10 => optA (indexAddrA ti22 1 (l6.getD 1 .junk) (l6.getD 3 .junk)) fun v11 => optA (ldV false 1 v11 H7) fun v12 => optA (intA .neq v10 v12) fun v13 => ifA v13 (retF [.d (.bool false)] H7 K) (optA (intA .add (l6.getD 3 .junk) (.d (.int .i64 1))) fun v14 => X5 [l6.getD 0 .junk, l6.getD 1 .junk, l6.getD 2 .junk, v14] H7))) (retF [.d (.bool true)] H7 K)) [a0, a1, v4, .d (.int .i64 0)] H)
noncomputable def r56_0 : List Oper := regOps Try.f56 0
noncomputable def r56_1 : List Oper := regOps Try.f56 1
noncomputable def r56_2 : List Oper := regOps Try.f56 2
noncomputable def r56_3 : List Oper := regOps Try.f56 3
noncomputable def r56_4 : List Oper := regOps Try.f56 4
noncomputable def r56_5 : List Oper := regOps Try.f56 5
noncomputable def r56_6 : List Oper := regOps Try.f56 6
noncomputable def r56_7 : List Oper := regOps Try.f56 7
noncomputable def r56_8 : List Oper := regOps Try.f56 8
noncomputable def r56_9 : List Oper := regOps Try.f56 9
noncomputable def c56 : Code := (.seq (.region 0 #[opAt r56_0 0] false) (.seq (.seq (.region 1 #[opAt r56_1 0, opAt r56_1 1, opAt r56_1 2, opAt r56_1 3, opAt r56_1 4] false) (.cond (.tmp 10) (.seq (.region 2 #[opAt r56_2 0] false) .ret) .skip)) (.seq (.seq (.region 3 #[opAt r56_3 0, opAt r56_3 1, opAt r56_3 2] false) (.block 0 (.loop (.seq (.region 4 #[opAt r56_4 0] false) (.seq (.cond (.tmp 14) .skip (.exit 0)) (.seq (.block 1 (.seq (.region 5 #[opAt r56_5 0, opAt r56_5 1] false) (.seq (.region 6 #[opAt r56_6 0, opAt r56_6 1, opAt r56_6 2, opAt r56_6 3, opAt r56_6 4, opAt r56_6 5, opAt r56_6 6, opAt r56_6 7, opAt r56_6 8] true) (.cond (.tmp 24) (.seq (.region 7 #[opAt r56_7 0] false) .ret) .skip)))) (.region 8 #[opAt r56_8 0, opAt r56_8 1] false))))))) (.seq (.region 9 #[opAt r56_9 0] false) .ret))))
theorem c56_eq : Try.f56.body = some c56 := by kernel_rfl
theorem S56_eq (γ : Calld) (a0 a1 : AV) (H : AHeap) (K : AV → AHeap → Prop) : execC Try.prog γ pol56 Try.f56 c56 [a0, a1] H K = S56 γ a0 a1 H K := by kernel_rfl
theorem C56 {a0 a1 : AV} {H : AHeap} {K : AV → AHeap → Prop} (h : S56 (CallsA Try.prog) a0 a1 H K) : CallsA Try.prog 56 [a0, a1] H K :=
  calls_of Try.func56 (ne_of_beq_false (by kernel_rfl)) c56_eq (by kernel_rfl) (by rw [S56_eq]; exact h)
/-! slices.EqualFunc[[]*tithing/bus.station,[]*tithing/bus.station,*tithing/bus.station,*tithing/bus.station] -/
def pol57 : Pol := { lend := fun g => !([34, 57, 63] : List Nat).contains g, keep := [1, 2, 15, 16, 17], frz := fun _ => [], perm := fun r => [], bf := fun r => [], ret := true }
def S57 (γ : Calld) (a0 a1 a2 : AV) (H : AHeap) (K : AV → AHeap → Prop) : Prop :=
  optA (lenSl a0) fun v1 => optA (lenSl a1) fun v2 => optA (intA .neq v1 v2) fun v3 => ifA v3 (retF [.d (.bool false)] H K) (optA (lenSl a0) fun v4 => loopA (fun X5 l6 H7 => optA (intA .lss (l6.getD 4 .junk) (l6.getD 3 .junk)) fun v8 => ifA v8 (optA (indexAddrA ti50 1 (l6.getD 2 .junk) (l6.getD 4 .junk)) fun v9 => optA (ldV false 1 v9 H7) fun v10 => optA (indexAddrA ti50 1 (l6.getD 0 .junk) (l6.getD 4 .junk)) fun v11 => optA (ldV false 1 v11 H7) fun v12 => callA γ pol57 (l6.getD 1 .junk) [v10, v12] H7 fun v13 H14 => optA (unA .not v13) fun v15 => ifA v15 (retF [.d (.bool false)] H14 K) (optA (intA .add (l6.getD 4 .junk) (.d (.int .i64 1))) fun v16 => X5 [l6.getD 0 .junk, l6.getD 1 .junk, l6.getD 2 .junk, l6.getD 3 .junk, v16] H14)) (retF [.d (.bool true)] H7 K)) [a1, a2, a0, v4, .d (.int .i64 0)] H)
noncomputable def r57_0 : List Oper := regOps Try.f57 0
noncomputable def r57_1 : List Oper := regOps Try.f57 1
noncomputable def r57_2 : List Oper := regOps Try.f57 2
noncomputable def r57_3 : List Oper := regOps Try.f57 3
noncomputable def r57_4 : List Oper := regOps Try.f57 4
noncomputable def r57_5 : List Oper := regOps Try.f57 5
noncomputable def r57_6 : List Oper := regOps Try.f57 6
noncomputable def r57_7 : List Oper := regOps Try.f57 7
noncomputable def r57_8 : List Oper := regOps Try.f57 8
noncomputable def r57_9 : List Oper := regOps Try.f57 9
noncomputable def r57_10 : List Oper := regOps Try.f57 10
noncomputable def c57 : Code := (.seq (.region 0 #[opAt r57_0 0] false) (.seq (.seq (.region 1 #[opAt r57_1 0, opAt r57_1 1, opAt r57_1 2, opAt r57_1 3, opAt r57_1 4] false) (.cond (.tmp 14) (.seq (.region 2 #[opAt r57_2 0] false) .ret) .skip)) (.seq (.seq (.region 3 #[opAt r57_3 0, opAt r57_3 1, opAt r57_3 2] false) (.block 0 (.loop (.seq (.region 4 #[opAt r57_4 0] false) (.seq (.cond (.tmp 18) .skip (.exit 0)) (.seq (.block 1 (.seq (.region 5 #[opAt r57_5 0, opAt r57_5 1, opAt r57_5 2, opAt r57_5 3, opAt r57_5 4] false) (.seq (.region 6 #[opAt r57_6 0, opAt r57_6 1, opAt r57_6 2, opAt r57_6 3, opAt r57_6 4] false) (.seq (.region 7 #[opAt r57_7 0, opAt r57_7 1, opAt r57_7 2, opAt r57_7 3, opAt r57_7 4] false) (.cond (.tmp 30) (.seq (.region 8 #[opAt r57_8 0] false) .ret) .skip))))) (.region 9 #[opAt r57_9 0, opAt r57_9 1] false))))))) (.seq (.region 10 #[opAt r57_10 0] false) .ret))))
theorem c57_eq : Try.f57.body = some c57 := by kernel_rfl
theorem S57_eq (γ : Calld) (a0 a1 a2 : AV) (H : AHeap) (K : AV → AHeap → Prop) : execC Try.prog γ pol57 Try.f57 c57 [a0, a1, a2] H K = S57 γ a0 a1 a2 H K := by kernel_rfl
theorem C57 {a0 a1 a2 : AV} {H : AHeap} {K : AV → AHeap → Prop} (h : S57 (CallsA Try.prog) a0 a1 a2 H K) : CallsA Try.prog 57 [a0, a1, a2] H K :=
  calls_of Try.func57 (ne_of_beq_false (by kernel_rfl)) c57_eq (by kernel_rfl) (by rw [S57_eq]; exact h)
/-! tithing/bus.same -/
def pol58 : Pol := { lend := fun g => !([34, 57, 63] : List Nat).contains g, keep := [], frz := fun _ => [], perm := fun r => if r = 1 then [0, 1, 2, 3, 4, 5, 6, 7, 8, 9, 10, 11, 12, 13, 14, 15, 16, 17, 18, 19] else if r = 5 then [0, 1, 2, 3, 4, 5, 6, 7, 8, 9, 10, 11, 12, 13, 14, 15, 16, 17, 18, 19, 20, 21, 22, 23, 24, 25, 26, 27, 28, 29] else if r = 7 then [0, 1, 2, 3, 4, 5, 6, 7, 8, 9, 10, 11, 12, 13, 14] else [], bf := fun r => if r = 1 then [0, 1, 3, 7, 0, 16, 48, 112, 255, 511, 1023, 2047, 4095, 8191, 1023, 17407, 50175, 115711, 262143, 524287] else if r = 5 then [0, 1, 3, 7, 0, 16, 48, 112, 255, 511, 1023, 2047, 4095, 8191, 1023, 17407, 50175, 115711, 262143, 524287, 1048575, 2097151, 2097151, 2097151, 10485759, 27262975, 60817407, 134217727, 268435455, 536870911] else if r = 7 then [0, 1, 3, 7, 0, 16, 48, 112, 255, 511, 1023, 1023, 4095, 8191, 16383] else [], ret := true }
def S58 (γ : Calld) (a0 a1 : AV) (H : AHeap) (K : AV → AHeap → Prop) : Prop :=
  drA true (optA (nilCkA a0) fun v1 => optA (fieldA ti68 v1 1) fun v2 => optA (ldV false 1 v2 H) fun v3 => optA (nilCkA a1) fun v4 => optA (fieldA ti68 v4 1) fun v5 => optA (ldV false 1 v5 H) fun v6 => optA (boolA .neq v3 v6) fun v7 => ifA v7 (retF [.d (.bool false)] H K) (optA (nilCkA a0) fun v8 => optA (fieldA ti68 v8 2) fun v9 => optA (ldV false 1 v9 H) fun v10 => optA (nilCkA a1) fun v11 => optA (fieldA ti68 v11 2) fun v12 => optA (ldV false 1 v12 H) fun v13 => optA (intA .neq v10 v13) fun v14 => ifA v14 (retF [.d (.bool false)] H K) (optA (nilCkA a0) fun v15 => optA (fieldA ti68 v15 2) fun v16 => optA (ldV false 1 v16 H) fun v17 => optA (intA .eql v17 (.d (.int .i64 1))) fun v18 => ifA v18 (drA true (optA (nilCkA a0) fun v19 => optA (fieldA ti68 v19 3) fun v20 => optA (ldV false 1 v20 H) fun v21 => optA (nilCkA a1) fun v22 => optA (fieldA ti68 v22 3) fun v23 => optA (ldV false 1 v23 H) fun v24 => optA (intA .eql v21 v24) fun v25 => ifA v25 (optA (nilCkA a0) fun v26 => optA (fieldA ti68 v26 4) fun v27 => optA (ldV false 1 v27 H) fun v28 => optA (nilCkA a1) fun v29 => optA (fieldA ti68 v29 4) fun v30 => optA (ldV false 1 v30 H) fun v31 => optA (intA .eql v28 v31) fun v32 => ifA v32 (optA (nilCkA a0) fun v33 => optA (fieldA ti68 v33 3) fun v34 => optA (ldV false 1 v34 H) fun v35 => noRsA (aggL a0) (noRsA (aggL a1) (noRsA (aggL v35) (frzLK [a0, a1, v35] H fun l37 H39 => ∃ r38, γ 73 l37 H39 (fun v H2 => v = r38 ∧ AHeap.le H39 H2) ∧ (retF [r38] H39 K))))) (retF [.d (.bool false)] H K)) (retF [.d (.bool false)] H K))) (optA (intA .eql v17 (.d (.int .i64 2))) fun v40 => ifA v40 (drA true (optA (nilCkA a0) fun v41 => optA (fieldA ti68 v41 5) fun v42 => optA (ldV false 1 v42 H) fun v43 => optA (nilCkA a1) fun v44 => optA (fieldA ti68 v44 5) fun v45 => optA (ldV false 1 v45 H) fun v46 => optA (intA .eql v43 v46) fun v47 => ifA v47 (noRsA (aggL a0) (noRsA (aggL a1) (noRsA (aggL (.d (.int .i64 0))) (frzLK [a0, a1, .d (.int .i64 0)] H fun l49 H51 => ∃ r50, γ 73 l49 H51 (fun v H2 => v = r50 ∧ AHeap.le H51 H2) ∧ (retF [r50] H51 K))))) (retF [.d (.bool false)] H K))) (frzLK [a0, a1, .d (.int .i64 0)] H fun l54 H55 => γ 73 l54 H55 fun v52 H53 => retF [v52] H53 K)))))
noncomputable def r58_0 : List Oper := regOps Try.f58 0
noncomputable def r58_1 : List Oper := regOps Try.f58 1
noncomputable def r58_2 : List Oper := regOps Try.f58 2
noncomputable def r58_3 : List Oper := regOps Try.f58 3
noncomputable def r58_4 : List Oper := regOps Try.f58 4
noncomputable def r58_5 : List Oper := regOps Try.f58 5
noncomputable def r58_6 : List Oper := regOps Try.f58 6
noncomputable def r58_7 : List Oper := regOps Try.f58 7
noncomputable def r58_8 : List Oper := regOps Try.f58 8
noncomputable def c58 : Code := (.seq (.region 0 #[opAt r58_0 0] false) (.seq (.seq (.region 1 #[opAt r58_1 0, opAt r58_1 1, opAt r58_1 2, opAt r58_1 3, opAt r58_1 4, opAt r58_1 5, opAt r58_1 6, opAt r58_1 7, opAt r58_1 8, opAt r58_1 9, opAt r58_1 10, opAt r58_1 11, opAt r58_1 12, opAt r58_1 13, opAt r58_1 14, opAt r58_1 15, opAt r58_1 16, opAt r58_1 17, opAt r58_1 18, opAt r58_1 19] true) (.cond (.tmp 24) (.seq (.region 2 #[opAt r58_2 0] false) .ret) .skip)) (.seq (.seq (.region 3 #[opAt r58_3 0, opAt r58_3 1, opAt r58_3 2, opAt r58_3 3] false) (.block 0 (.seq (.region 4 #[opAt r58_4 0, opAt r58_4 1] false) (.cond (.tmp 29) (.seq (.region 5 #[opAt r58_5 0, opAt r58_5 1, opAt r58_5 2, opAt r58_5 3, opAt r58_5 4, opAt r58_5 5, opAt r58_5 6, opAt r58_5 7, opAt r58_5 8, opAt r58_5 9, opAt r58_5 10, opAt r58_5 11, opAt r58_5 12, opAt r58_5 13, opAt r58_5 14, opAt r58_5 15, opAt r58_5 16, opAt r58_5 17, opAt r58_5 18, opAt r58_5 19, opAt r58_5 20, opAt r58_5 21, opAt r58_5 22, opAt r58_5 23, opAt r58_5 24, opAt r58_5 25, opAt r58_5 26, opAt r58_5 27, opAt r58_5 28, opAt r58_5 29] true) .ret) (.seq (.region 6 #[opAt r58_6 0, opAt r58_6 1] false) (.cond (.tmp 60) (.seq (.region 7 #[opAt r58_7 0, opAt r58_7 1, opAt r58_7 2, opAt r58_7 3, opAt r58_7 4, opAt r58_7 5, opAt r58_7 6, opAt r58_7 7, opAt r58_7 8, opAt r58_7 9, opAt r58_7 10, opAt r58_7 11, opAt r58_7 12, opAt r58_7 13, opAt r58_7 14] true) .ret) .skip)))))) (.seq (.region 8 #[opAt r58_8 0, opAt r58_8 1, opAt r58_8 2, opAt r58_8 3] false) .ret))))
theorem c58_eq : Try.f58.body = some c58 := by kernel_rfl
theorem S58_eq (γ : Calld) (a0 a1 : AV) (H : AHeap) (K : AV → AHeap → Prop) : execC Try.prog γ pol58 Try.f58 c58 [a0, a1] H K = S58 γ a0 a1 H K := by kernel_rfl
theorem C58 {a0 a1 : AV} {H : AHeap} {K : AV → AHeap → Prop} (h : S58 (CallsA Try.prog) a0 a1 H K) : CallsA Try.prog 58 [a0, a1] H K :=
  calls_of Try.func58 (ne_of_beq_false (by kernel_rfl)) c58_eq (by kernel_rfl) (by rw [S58_eq]; exact h)
/-! slices.Collect[int] -/
def pol59 : Pol := { lend := fun g => !([34, 57, 63] : List Nat).contains g, keep := [], frz := fun _ => [], perm := fun r => [], bf := fun r => [], ret := true }
def S59 (γ : Calld) (a0 : AV) (H : AHeap) (K : AV → AHeap → Prop) : Prop :=
  frzLK [.d (.sl true []), a0] H fun l3 H4 => γ 74 l3 H4 fun v1 H2 => retF [v1] H2 K
noncomputable def r59_0 : List Oper := regOps Try.f59 0
noncomputable def r59_1 : List Oper := regOps Try.f59 1
noncomputable def c59 : Code := (.seq (.region 0 #[opAt r59_0 0] false) (.seq (.region 1 #[opAt r59_1 0, opAt r59_1 1, opAt r59_1 2] false) .ret))
theorem c59_eq : Try.f59.body = some c59 := by kernel_rfl
theorem S59_eq (γ : Calld) (a0 : AV) (H : AHeap) (K : AV → AHeap → Prop) : execC Try.prog γ pol59 Try.f59 c59 [a0] H K = S59 γ a0 H K := by kernel_rfl
theorem C59 {a0 : AV} {H : AHeap} {K : AV → AHeap → Prop} (h : S59 (CallsA Try.prog) a0 H K) : CallsA Try.prog 59 [a0] H K :=
  calls_of Try.func59 (ne_of_beq_false (by kernel_rfl)) c59_eq (by kernel_rfl) (by rw [S59_eq]; exact h)
/-! slices.Sort[[]int,int] -/
def pol60 : Pol := { lend := fun g => !([34, 57, 63] : List Nat).contains g, keep := [], frz := fun _ => [], perm := fun r => [], bf := fun r => [], ret := true }
def S60 (γ : Calld) (a0 : AV) (H : AHeap) (K : AV → AHeap → Prop) : Prop :=
  optA (lenSl a0) fun v1 => optA (cvI .u64 v1) fun v2 => frzLK [v2] H fun l5 H6 => γ 76 l5 H6 fun v3 H4 => frzLK [a0, .d (.int .i64 0), v1, v3] H4 fun l9 H10 => γ 75 l9 H10 fun v7 H8 => retF [] H8 K
noncomputable def r60_0 : List Oper := regOps Try.f60 0
noncomputable def r60_1 : List Oper := regOps Try.f60 1
noncomputable def c60 : Code := (.seq (.region 0 #[opAt r60_0 0, opAt r60_0 1, opAt r60_0 2] false) (.region 1 #[opAt r60_1 0, opAt r60_1 1, opAt r60_1 2, opAt r60_1 3, opAt r60_1 4, opAt r60_1 5] false))
theorem c60_eq : Try.f60.body = some c60 := by kernel_rfl
theorem S60_eq (γ : Calld) (a0 : AV) (H : AHeap) (K : AV → AHeap → Prop) : execC Try.prog γ pol60 Try.f60 c60 [a0] H K = S60 γ a0 H K := by kernel_rfl
theorem C60 {a0 : AV} {H : AHeap} {K : AV → AHeap → Prop} (h : S60 (CallsA Try.prog) a0 H K) : CallsA Try.prog 60 [a0] H K :=
  calls_of Try.func60 (ne_of_beq_false (by kernel_rfl)) c60_eq (by kernel_rfl) (by rw [S60_eq]; exact h)
/-! slices.Values[[]int,int]$1 -/
def pol61 : Pol := { lend := fun g => !([34, 57, 63] : List Nat).contains g, keep := [0, 5, 6, 7], frz := fun _ => [], perm := fun r => [], bf := fun r => [], ret := true }
def S61 (γ : Calld) (a0 a1 : AV) (H : AHeap) (K : AV → AHeap → Prop) : Prop :=
  optA (ldV false 1 a1 H) fun v1 => optA (lenSl v1) fun v2 => loopA (fun X3 l4 H5 => optA (intA .lss (l4.getD 3 .junk) (l4.getD 2 .junk)) fun v6 => ifA v6 (optA (indexAddrA ti22 1 (l4.getD 1 .junk) (l4.getD 3 .junk)) fun v7 => optA (ldV false 1 v7 H5) fun v8 => callA γ pol61 (l4.getD 0 .junk) [v8] H5 fun v9 H10 => optA (unA .not v9) fun v11 => ifA v11 (retF [] H10 K) (optA (intA .add (l4.getD 3 .junk) (.d (.int .i64 1))) fun v12 => X3 [l4.getD 0 .junk, l4.getD 1 .junk, l4.getD 2 .junk, v12] H10)) (retF [] H5 K)) [a0, v1, v2, .d (.int .i64 0)] H
noncomputable def r61_0 : List Oper := regOps Try.f61 0
noncomputable def r61_1 : List Oper := regOps Try.f61 1
noncomputable def r61_2 : List Oper := regOps Try.f61 2
noncomputable def r61_3 : List Oper := regOps Try.f61 3
noncomputable def r61_4 : List Oper := regOps Try.f61 4
noncomputable def c61 : Code := (.seq (.region 0 #[opAt r61_0 0, opAt r61_0 1, opAt r61_0 2] false) (.block 0 (.loop (.seq (.region 1 #[opAt r61_1 0] false) (.seq (.cond (.tmp 8) .skip (.exit 0)) (.seq (.block 1 (.seq (.region 2 #[opAt r61_2 0, opAt r61_2 1, opAt r61_2 2] false) (.seq (.region 3 #[opAt r61_3 0, opAt r61_3 1, opAt r61_3 2, opAt r61_3 3] false) (.cond (.tmp 14) .ret .skip)))) (.region 4 #[opAt r61_4 0, opAt r61_4 1] false)))))))
theorem c61_eq : Try.f61.body = some c61 := by kernel_rfl
theorem S61_eq (γ : Calld) (a0 a1 : AV) (H : AHeap) (K : AV → AHeap → Prop) : execC Try.prog γ pol61 Try.f61 c61 [a0, a1] H K = S61 γ a0 a1 H K := by kernel_rfl
theorem C61 {a0 a1 : AV} {H : AHeap} {K : AV → AHeap → Prop} (h : S61 (CallsA Try.prog) a0 a1 H K) : CallsA Try.prog 61 [a0, a1] H K :=
  calls_of Try.func61 (ne_of_beq_false (by kernel_rfl)) c61_eq (by kernel_rfl) (by rw [S61_eq]; exact h)
/-! (*tithing/bus.Bus).has -/
def pol62 : Pol := { lend := fun g => !([34, 57, 63] : List Nat).contains g, keep := [], frz := fun _ => [], perm := fun r => [], bf := fun r => [], ret := true }
def S62 (γ : Calld) (a0 a1 : AV) (H : AHeap) (K : AV → AHeap → Prop) : Prop :=
  optA (intA .geq a1 (.d (.int .i64 0))) fun v1 => ifA v1 (optA (nilCkA a0) fun v2 => optA (fieldA ti52 v2 2) fun v3 => optA (ldV false 1 v3 H) fun v4 => optA (lenSl v4) fun v5 => optA (intA .lss a1 v5) fun v6 => retF [v6] H K) (retF [.d (.bool false)] H K)
noncomputable def r62_0 : List Oper := regOps Try.f62 0
noncomputable def r62_1 : List Oper := regOps Try.f62 1
noncomputable def c62 : Code := (.seq (.region 0 #[opAt r62_0 0] false) (.seq (.region 1 #[opAt r62_1 0, opAt r62_1 1, opAt r62_1 2, opAt r62_1 3, opAt r62_1 4, opAt r62_1 5, opAt r62_1 6, opAt r62_1 7, opAt r62_1 8, opAt r62_1 9, opAt r62_1 10, opAt r62_1 11] false) .ret))
theorem c62_eq : Try.f62.body = some c62 := by kernel_rfl
theorem S62_eq (γ : Calld) (a0 a1 : AV) (H : AHeap) (K : AV → AHeap → Prop) : execC Try.prog γ pol62 Try.f62 c62 [a0, a1] H K = S62 γ a0 a1 H K := by kernel_rfl
theorem C62 {a0 a1 : AV} {H : AHeap} {K : AV → AHeap → Prop} (h : S62 (CallsA Try.prog) a0 a1 H K) : CallsA Try.prog 62 [a0, a1] H K :=
  calls_of Try.func62 (ne_of_beq_false (by kernel_rfl)) c62_eq (by kernel_rfl) (by rw [S62_eq]; exact h)
/-! slices.IndexFunc[[]*tithing/bus.station,*tithing/bus.station] -/
def pol63 : Pol := { lend := fun g => !([34, 57, 63] : List Nat).contains g, keep := [0, 1, 7, 8], frz := fun _ => [], perm := fun r => [], bf := fun r => [], ret := true }
def S63 (γ : Calld) (a0 a1 : AV) (H : AHeap) (K : AV → AHeap → Prop) : Prop :=
  optA (lenSl a0) fun v1 => loopA (fun X2 l3 H4 => optA (intA .lss (l3.getD 3 .junk) (l3.getD 2 .junk)) fun v5 => ifA v5 (optA (indexAddrA ti50 1 (l3.getD 0 .junk) (l3.getD 3 .junk)) fun v6 => optA (ldV false 1 v6 H4) fun v7 => callA γ pol63 (l3.getD 1 .junk) [v7] H4 fun v8 H9 => ifA v8 (retF [l3.getD 3 .junk] H9 K) (optA (intA .add (l3.getD 3 .junk) (.d (.int .i64 1))) fun v10 => X2 [l3.getD 0 .junk, l3.getD 1 .junk, l3.getD 2 .junk, v10] H9)) (retF [.d (.int .i64 (-1))] H4 K)) [a0, a1, v1, .d (.int .i64 0)] H
noncomputable def r63_0 : List Oper := regOps Try.f63 0
noncomputable def r63_1 : List Oper := regOps Try.f63 1
noncomputable def r63_2 : List Oper := regOps Try.f63 2
noncomputable def r63_3 : List Oper := regOps Try.f63 3
noncomputable def r63_4 : List Oper := regOps Try.f63 4
noncomputable def r63_5 : List Oper := regOps Try.f63 5
noncomputable def r63_6 : List Oper := regOps Try.f63 6
noncomputable def r63_7 : List Oper := regOps Try.f63 7
noncomputable def c63 : Code := (.seq (.region 0 #[opAt r63_0 0] false) (.seq (.seq (.region 1 #[opAt r63_1 0, opAt r63_1 1, opAt r63_1 2] false) (.block 0 (.loop (.seq (.region 2 #[opAt r63_2 0] false) (.seq (.cond (.tmp 9) .skip (.exit 0)) (.seq (.block 1 (.seq (.region 3 #[opAt r63_3 0, opAt r63_3 1] false) (.seq (.region 4 #[opAt r63_4 0, opAt r63_4 1, opAt r63_4 2, opAt r63_4 3, opAt r63_4 4, opAt r63_4 5] false) (.cond (.tmp 16) (.seq (.region 5 #[opAt r63_5 0, opAt r63_5 1] false) .ret) .skip)))) (.region 6 #[opAt r63_6 0, opAt r63_6 1] false))))))) (.seq (.region 7 #[opAt r63_7 0] false) .ret)))
theorem c63_eq : Try.f63.body = some c63 := by kernel_rfl
theorem S63_eq (γ : Calld) (a0 a1 : AV) (H : AHeap) (K : AV → AHeap → Prop) : execC Try.prog γ pol63 Try.f63 c63 [a0, a1] H K = S63 γ a0 a1 H K := by kernel_rfl
theorem C63 {a0 a1 : AV} {H : AHeap} {K : AV → AHeap → Prop} (h : S63 (CallsA Try.prog) a0 a1 H K) : CallsA Try.prog 63 [a0, a1] H K :=
  calls_of Try.func63 (ne_of_beq_false (by kernel_rfl)) c63_eq (by kernel_rfl) (by rw [S63_eq]; exact h)
/-! (*tithing/tithingref02.Bus).is -/
def pol64 : Pol := { lend := fun g => !([34, 57, 63] : List Nat).contains g, keep := [], frz := fun _ => [], perm := fun r => [], bf := fun r => [], ret := true }
def S64 (γ : Calld) (a0 a1 : AV) (H : AHeap) (K : AV → AHeap → Prop) : Prop :=
  optA (intA .geq a1 (.d (.int .i64 0))) fun v1 => ifA v1 (optA (nilCkA a0) fun v2 => optA (fieldA ti76 v2 1) fun v3 => optA (ldV false 1 v3 H) fun v4 => optA (lenSl v4) fun v5 => optA (intA .lss a1 v5) fun v6 => retF [v6] H K) (retF [.d (.bool false)] H K)
noncomputable def r64_0 : List Oper := regOps Try.f64 0
noncomputable def r64_1 : List Oper := regOps Try.f64 1
noncomputable def c64 : Code := (.seq (.region 0 #[opAt r64_0 0] false) (.seq (.region 1 #[opAt r64_1 0, opAt r64_1 1, opAt r64_1 2, opAt r64_1 3, opAt r64_1 4, opAt r64_1 5, opAt r64_1 6, opAt r64_1 7, opAt r64_1 8, opAt r64_1 9, opAt r64_1 10, opAt r64_1 11] false) .ret))
theorem c64_eq : Try.f64.body = some c64 := by kernel_rfl
theorem S64_eq (γ : Calld) (a0 a1 : AV) (H : AHeap) (K : AV → AHeap → Prop) : execC Try.prog γ pol64 Try.f64 c64 [a0, a1] H K = S64 γ a0 a1 H K := by kernel_rfl
theorem C64 {a0 a1 : AV} {H : AHeap} {K : AV → AHeap → Prop} (h : S64 (CallsA Try.prog) a0 a1 H K) : CallsA Try.prog 64 [a0, a1] H K :=
  calls_of Try.func64 (ne_of_beq_false (by kernel_rfl)) c64_eq (by kernel_rfl) (by rw [S64_eq]; exact h)
/-! tithing/tithingref02.guess -/
def pol65 : Pol := { lend := fun g => !([34, 57, 63] : List Nat).contains g, keep := [], frz := fun _ => [], perm := fun r => [], bf := fun r => [], ret := true }
def S65 (γ : Calld) (a0 a1 : AV) (H : AHeap) (K : AV → AHeap → Prop) : Prop :=
  optA (lenSl a0) fun v1 => optA (intA .eql v1 (.d (.int .i64 0))) fun v2 => ifA v2 (optA (intA .rem a1 (.d (.int .i64 253))) fun v3 => optA (intA .add (.d (.int .i64 1)) v3) fun v4 => retF [v4] H K) (optA (lenSl a0) fun v5 => optA (intA .rem a1 v5) fun v6 => optA (indexAddrA ti22 1 a0 v6) fun v7 => optA (ldV false 1 v7 H) fun v8 => optA (intA .rem v8 (.d (.int .i64 253))) fun v9 => optA (intA .lss v9 (.d (.int .i64 0))) fun v10 => ifA v10 (optA (intA .add v9 (.d (.int .i64 253))) fun v11 => optA (intA .add (.d (.int .i64 1)) v11) fun v12 => retF [v12] H K) (optA (intA .add (.d (.int .i64 1)) v9) fun v13 => retF [v13] H K))
noncomputable def r65_0 : List Oper := regOps Try.f65 0
noncomputable def r65_1 : List Oper := regOps Try.f65 1
noncomputable def r65_2 : List Oper := regOps Try.f65 2
noncomputable def r65_3 : List Oper := regOps Try.f65 3
noncomputable def r65_4 : List Oper := regOps Try.f65 4
noncomputable def r65_5 : List Oper := regOps Try.f65 5
noncomputable def r65_6 : List Oper := regOps Try.f65 6
noncomputable def c65 : Code := (.seq (.region 0 #[opAt r65_0 0] false) (.seq (.seq (.region 1 #[opAt r65_1 0, opAt r65_1 1, opAt r65_1 2] false) (.cond (.tmp 8) (.seq (.region 2 #[opAt r65_2 0, opAt r65_2 1, opAt r65_2 2, opAt r65_2 3] false) .ret) .skip)) (.seq (.region 3 #[opAt r65_3 0, opAt r65_3 1, opAt r65_3 2, opAt r65_3 3, opAt r65_3 4, opAt r65_3 5, opAt r65_3 6, opAt r65_3 7, opAt r65_3 8] false) (.seq (.seq (.region 4 #[opAt r65_4 0, opAt r65_4 1] false) (.cond (.tmp 21) (.region 5 #[opAt r65_5 0, opAt r65_5 1, opAt r65_5 2] false) .skip)) (.seq (.region 6 #[opAt r65_6 0, opAt r65_6 1, opAt r65_6 2] false) .ret)))))
theorem c65_eq : Try.f65.body = some c65 := by kernel_rfl
theorem S65_eq (γ : Calld) (a0 a1 : AV) (H : AHeap) (K : AV → AHeap → Prop) : execC Try.prog γ pol65 Try.f65 c65 [a0, a1] H K = S65 γ a0 a1 H K := by kernel_rfl
theorem C65 {a0 a1 : AV} {H : AHeap} {K : AV → AHeap → Prop} (h : S65 (CallsA Try.prog) a0 a1 H K) : CallsA Try.prog 65 [a0, a1] H K :=
  calls_of Try.func65 (ne_of_beq_false (by kernel_rfl)) c65_eq (by kernel_rfl) (by rw [S65_eq]; exact h)
/-! tithing/tithingref02.has -/
def pol66 : Pol := { lend := fun g => !([34, 57, 63] : List Nat).contains g, keep := [0, 1, 5], frz := fun _ => [], perm := fun r => [], bf := fun r => [], ret := true }
def S66 (γ : Calld) (a0 a1 : AV) (H : AHeap) (K : AV → AHeap → Prop) : Prop :=
  loopA (fun X1 l2 H3 => optA (lenSl (l2.getD 0 .junk)) fun v4 => optA (intA .lss (l2.getD 2 .junk) v4) fun v5 => ifA v5 (optA (indexAddrA ti22 1 (l2.getD 0 .junk) (l2.getD 2 .junk)) fun v6 => optA (ldV false 1 v6 H3) fun v7 => optA (intA .eql v7 (l2.getD 1 .junk)) fun v8 => ifA v8 (retF [.d (.bool true)] H3 K) (optA (intA .add (l2.getD 2 .junk) (.d (.int .i64 1))) fun v9 => X1 [l2.getD 0 .junk, l2.getD 1 .junk, v9] H3)) (retF [.d (.bool false)] H3 K)) [a0, a1, .d (.int .i64 0)] H
noncomputable def r66_0 : List Oper := regOps Try.f66 0
noncomputable def r66_1 : List Oper := regOps Try.f66 1
noncomputable def r66_2 : List Oper := regOps Try.f66 2
noncomputable def r66_3 : List Oper := regOps Try.f66 3
noncomputable def r66_4 : List Oper := regOps Try.f66 4
noncomputable def r66_5 : List Oper := regOps Try.f66 5
noncomputable def r66_6 : List Oper := regOps Try.f66 6
noncomputable def c66 : Code := (.seq (.region 0 #[opAt r66_0 0] false) (.seq (.seq (.region 1 #[opAt r66_1 0] false) (.block 0 (.loop (.seq (.seq (.region 2 #[opAt r66_2 0, opAt r66_2 1, opAt r66_2 2, opAt r66_2 3] false) (.cond (.tmp 9) .skip (.exit 0))) (.seq (.block 1 (.seq (.region 4 #[opAt r66_3 0, opAt r66_3 1, opAt r66_3 2, opAt r66_3 3, opAt r66_3 4, opAt r66_3 5] false) (.cond (.tmp 17) (.seq (.region 5 #[opAt r66_4 0] false) .ret) .skip))) (.region 3 #[opAt r66_5 0, opAt r66_5 1, opAt r66_5 2] false)))))) (.seq (.region 6 #[opAt r66_6 0] false) .ret)))
theorem c66_eq : Try.f66.body = some c66 := by kernel_rfl
theorem S66_eq (γ : Calld) (a0 a1 : AV) (H : AHeap) (K : AV → AHeap → Prop) : execC Try.prog γ pol66 Try.f66 c66 [a0, a1] H K = S66 γ a0 a1 H K := by kernel_rfl
theorem C66 {a0 a1 : AV} {H : AHeap} {K : AV → AHeap → Prop} (h : S66 (CallsA Try.prog) a0 a1 H K) : CallsA Try.prog 66 [a0, a1] H K :=
  calls_of Try.func66 (ne_of_beq_false (by kernel_rfl)) c66_eq (by kernel_rfl) (by rw [S66_eq]; exact h)
/-! tithing/tithingref02.answers -/
def pol67 : Pol := { lend := fun g => !([34, 57, 63] : List Nat).contains g, keep := [], frz := fun _ => [], perm := fun r => if r = 1 then [0, 1, 2, 3, 4, 5, 6, 7, 8, 9, 10, 11, 12, 13, 14, 15, 16, 17] else [], bf := fun r => if r = 1 then [0, 1, 3, 7, 0, 31, 63, 0, 128, 384, 896, 0, 3968, 8064, 0, 0, 49279, 131071] else [], ret := true }
def S67 (γ : Calld) (a0 a1 a2 : AV) (H : AHeap) (K : AV → AHeap → Prop) : Prop :=
  drA true (optA (nilCkA a0) fun v1 => optA (fieldA ti76 v1 1) fun v2 => optA (ldV false 1 v2 H) fun v3 => optA (indexAddrA ti74 6 v3 a1) fun v4 => optA (ldV true 6 v4 H) fun v5 => optA (nilCkA a0) fun v6 => optA (fieldA ti76 v6 1) fun v7 => optA (ldV false 1 v7 H) fun v8 => optA (indexAddrA ti74 6 v8 a2) fun v9 => optA (ldV true 6 v9 H) fun v10 => newK H (fun n13 => some (.ptr n13 0 0 0, [(n13, .mem 0 0 6 [[.d (.sl true []), .d (.bool false), .d (.int .i64 0), .d (.int .i64 0), .d (.int .i64 0), .d (.int .i64 0)]])])) fun v11 H12 => newK H12 (fun n16 => some (.ptr n16 0 0 0, [(n16, .mem 0 0 6 [[.d (.sl true []), .d (.bool false), .d (.int .i64 0), .d (.int .i64 0), .d (.int .i64 0), .d (.int .i64 0)]])])) fun v14 H15 => apart v11 v9 ∧ (apart v11 v7 ∧ (noRsA (aggL v5) (stepK (stoA true 6 v11 v5 H15) H15 fun v17 H18 => noRsA (aggL v10) (stepK (stoA true 6 v14 v10 H18) H18 fun v19 H20 => optA (intA .eql a1 a2) fun v21 => ifA v21 (retF [.d (.bool false)] H20 K) (optA (fieldA ti89 v11 1) fun v22 => optA (ldV false 1 v22 H20) fun v23 => optA (unA .not v23) fun v24 => ifA v24 (retF [.d (.bool false)] H20 K) (optA (fieldA ti89 v11 2) fun v25 => optA (ldV false 1 v25 H20) fun v26 => optA (intA .eql v26 (.d (.int .i64 0))) fun v27 => ifA v27 (retF [.d (.bool false)] H20 K) (optA (fieldA ti89 v11 5) fun v28 => optA (ldV false 1 v28 H20) fun v29 => optA (fieldA ti89 v14 5) fun v30 => optA (ldV false 1 v30 H20) fun v31 => optA (intA .neq v29 v31) fun v32 => ifA v32 (retF [.d (.bool false)] H20 K) (optA (fieldA ti89 v11 2) fun v33 => optA (ldV false 1 v33 H20) fun v34 => optA (intA .eql v34 (.d (.int .i64 2))) fun v35 => ifA v35 (retF [.d (.bool true)] H20 K) (optA (fieldA ti89 v11 4) fun v36 => optA (ldV false 1 v36 H20) fun v37 => optA (fieldA ti89 v14 4) fun v38 => optA (ldV false 1 v38 H20) fun v39 => optA (intA .gtr v37 v39) fun v40 => ifA v40 (retF [.d (.bool true)] H20 K) (optA (fieldA ti89 v11 4) fun v41 => optA (ldV false 1 v41 H20) fun v42 => optA (fieldA ti89 v14 4) fun v43 => optA (ldV false 1 v43 H20) fun v44 => optA (intA .eql v42 v44) fun v45 => ifA v45 (optA (intA .lss a1 a2) fun v46 => retF [v46] H20 K) (retF [.d (.bool false)] H20 K))))))))))))
noncomputable def r67_0 : List Oper := regOps Try.f67 0
noncomputable def r67_1 : List Oper := regOps Try.f67 1
noncomputable def r67_2 : List Oper := regOps Try.f67 2
noncomputable def r67_3 : List Oper := regOps Try.f67 3
noncomputable def r67_4 : List Oper := regOps Try.f67 4
noncomputable def c67 : Code := (.seq (.region 0 #[opAt r67_0 0] false) (.seq (.region 1 #[opAt r67_1 0, opAt r67_1 1, opAt r67_1 2, opAt r67_1 3, opAt r67_1 4, opAt r67_1 5, opAt r67_1 6, opAt r67_1 7, opAt r67_1 8, opAt r67_1 9, opAt r67_1 10, opAt r67_1 11, opAt r67_1 12, opAt r67_1 13, opAt r67_1 14, opAt r67_1 15, opAt r67_1 16, opAt r67_1 17] true) (.seq (.seq (.region 2 #[opAt r67_2 0, opAt r67_2 1, opAt r67_2 2, opAt r67_2 3, opAt r67_2 4, opAt r67_2 5, opAt r67_2 6, opAt r67_2 7, opAt r67_2 8, opAt r67_2 9, opAt r67_2 10, opAt r67_2 11, opAt r67_2 12, opAt r67_2 13, opAt r67_2 14, opAt r67_2 15, opAt r67_2 16, opAt r67_2 17, opAt r67_2 18, opAt r67_2 19] false) (.cond (.tmp 42) (.seq (.region 3 #[opAt r67_3 0] false) .ret) .skip)) (.seq (.region 4 #[opAt r67_4 0, opAt r67_4 1, opAt r67_4 2, opAt r67_4 3, opAt r67_4 4, opAt r67_4 5, opAt r67_4 6, opAt r67_4 7, opAt r67_4 8, opAt r67_4 9, opAt r67_4 10, opAt r67_4 11, opAt r67_4 12, opAt r67_4 13, opAt r67_4 14, opAt r67_4 15, opAt r67_4 16, opAt r67_4 17, opAt r67_4 18, opAt r67_4 19, opAt r67_4 20, opAt r67_4 21, opAt r67_4 22] false) .ret))))
theorem c67_eq : Try.f67.body = some c67 := by kernel_rfl
theorem S67_eq (γ : Calld) (a0 a1 a2 : AV) (H : AHeap) (K : AV → AHeap → Prop) : execC Try.prog γ pol67 Try.f67 c67 [a0, a1, a2] H K = S67 γ a0 a1 a2 H K := by kernel_rfl
theorem C67 {a0 a1 a2 : AV} {H : AHeap} {K : AV → AHeap → Prop} (h : S67 (CallsA Try.prog) a0 a1 a2 H K) : CallsA Try.prog 67 [a0, a1, a2] H K :=
  calls_of Try.func67 (ne_of_beq_false (by kernel_rfl)) c67_eq (by kernel_rfl) (by rw [S67_eq]; exact h)
/-! (*tithing/tithingref02.Station).goOn -/
def pol68 : Pol := { lend := fun g => !([34, 57, 63] : List Nat).contains g, keep := [], frz := fun _ => [], perm := fun r => if r = 8 then [0, 1, 2, 3, 4, 5, 6, 7, 8, 9, 10, 11, 12] else [], bf := fun r => if r = 8 then [0, 0, 2, 6, 14, 0, 32, 96, 224, 510, 1023, 2047, 4095] else [], ret := true }
def S68 (γ : Calld) (a0 a1 : AV) (H : AHeap) (K : AV → AHeap → Prop) : Prop :=
  optA (unA .not a1) fun v1 => ifA v1 (optA (nilCkA a0) fun v2 => optA (fieldA ti89 v2 4) fun v3 => optA (ldV false 1 v3 H) fun v4 => optA (intA .add v4 (.d (.int .i64 1))) fun v5 => optA (nilCkA a0) fun v6 => optA (fieldA ti89 v6 4) fun v7 => stepK (stoA false 1 v7 v5 H) H fun v8 H9 => optA (nilCkA a0) fun v10 => optA (fieldA ti89 v10 4) fun v11 => optA (ldV false 1 v11 H9) fun v12 => optA (intA .eql v12 (.d (.int .i64 8))) fun v13 => ifA v13 (optA (nilCkA a0) fun v14 => optA (fieldA ti89 v14 2) fun v15 => stepK (stoA false 1 v15 (.d (.int .i64 2)) H9) H9 fun v16 H17 => retF [] H17 K) (retF [] H9 K)) (optA (nilCkA a0) fun v18 => optA (fieldA ti89 v18 3) fun v19 => optA (ldV false 1 v19 H) fun v20 => optA (intA .add v20 (.d (.int .i64 1))) fun v21 => optA (nilCkA a0) fun v22 => optA (fieldA ti89 v22 3) fun v23 => stepK (stoA false 1 v23 v21 H) H fun v24 H25 => optA (nilCkA a0) fun v26 => optA (fieldA ti89 v26 4) fun v27 => stepK (stoA false 1 v27 (.d (.int .i64 0)) H25) H25 fun v28 H29 => optA (nilCkA a0) fun v30 => optA (fieldA ti89 v30 3) fun v31 => optA (ldV false 1 v31 H29) fun v32 => optA (intA .eql v32 (.d (.int .i64 253))) fun v33 => ifA v33 (optA (nilCkA a0) fun v34 => optA (fieldA ti89 v34 2) fun v35 => stepK (stoA false 1 v35 (.d (.int .i64 0)) H29) H29 fun v36 H37 => optA (nilCkA a0) fun v38 => optA (fieldA ti89 v38 5) fun v39 => stepK (stoA false 1 v39 (.d (.int .i64 0)) H37) H37 fun v40 H41 => retF [] H41 K) (drA true (optA (nilCkA a0) fun v42 => optA (fieldA ti89 v42 0) fun v43 => optA (ldV false 1 v43 H29) fun v44 => optA (nilCkA a0) fun v45 => optA (fieldA ti89 v45 3) fun v46 => optA (ldV false 1 v46 H29) fun v47 => noRsA (aggL v44) (noRsA (aggL v47) (frzLK [v44, v47] H29 fun l49 H51 => ∃ r50, γ 65 l49 H51 (fun v H2 => v = r50 ∧ AHeap.le H51 H2) ∧ (optA (nilCkA a0) fun v52 => optA (fieldA ti89 v52 5) fun v53 => noRsA (aggL r50) (stepK (stoA false 1 v53 r50 H51) H51 fun v54 H55 => retF [] H55 K)))))))
noncomputable def r68_0 : List Oper := regOps Try.f68 0
noncomputable def r68_1 : List Oper := regOps Try.f68 1
noncomputable def r68_2 : List Oper := regOps Try.f68 2
noncomputable def r68_3 : List Oper := regOps Try.f68 3
noncomputable def r68_4 : List Oper := regOps Try.f68 4
noncomputable def r68_5 : List Oper := regOps Try.f68 5
noncomputable def r68_6 : List Oper := regOps Try.f68 6
noncomputable def r68_7 : List Oper := regOps Try.f68 7
noncomputable def r68_8 : List Oper := regOps Try.f68 8
noncomputable def c68 : Code := (.seq (.seq (.region 0 #[opAt r68_0 0, opAt r68_0 1] false) (.cond (.tmp 5) (.seq (.region 1 #[opAt r68_1 0, opAt r68_1 1, opAt r68_1 2, opAt r68_1 3, opAt r68_1 4, opAt r68_1 5, opAt r68_1 6, opAt r68_1 7] false) (.seq (.seq (.region 2 #[opAt r68_2 0, opAt r68_2 1, opAt r68_2 2, opAt r68_2 3, opAt r68_2 4] false) (.cond (.tmp 17) (.region 3 #[opAt r68_3 0, opAt r68_3 1, opAt r68_3 2, opAt r68_3 3] false) .skip)) .ret)) .skip)) (.seq (.region 4 #[opAt r68_4 0, opAt r68_4 1, opAt r68_4 2, opAt r68_4 3, opAt r68_4 4, opAt r68_4 5, opAt r68_4 6, opAt r68_4 7] false) (.seq (.region 5 #[opAt r68_5 0, opAt r68_5 1, opAt r68_5 2, opAt r68_5 3] false) (.seq (.seq (.region 6 #[opAt r68_6 0, opAt r68_6 1, opAt r68_6 2, opAt r68_6 3, opAt r68_6 4] false) (.cond (.tmp 35) (.seq (.region 7 #[opAt r68_7 0, opAt r68_7 1, opAt r68_7 2, opAt r68_7 3, opAt r68_7 4, opAt r68_7 5, opAt r68_7 6, opAt r68_7 7] false) .ret) .skip)) (.region 8 #[opAt r68_8 0, opAt r68_8 1, opAt r68_8 2, opAt r68_8 3, opAt r68_8 4, opAt r68_8 5, opAt r68_8 6, opAt r68_8 7, opAt r68_8 8, opAt r68_8 9, opAt r68_8 10, opAt r68_8 11, opAt r68_8 12] true)))))
theorem c68_eq : Try.f68.body = some c68 := by kernel_rfl
theorem S68_eq (γ : Calld) (a0 a1 : AV) (H : AHeap) (K : AV → AHeap → Prop) : execC Try.prog γ pol68 Try.f68 c68 [a0, a1] H K = S68 γ a0 a1 H K := by kernel_rfl
theorem C68 {a0 a1 : AV} {H : AHeap} {K : AV → AHeap → Prop} (h : S68 (CallsA Try.prog) a0 a1 H K) : CallsA Try.prog 68 [a0, a1] H K :=
  calls_of Try.func68 (ne_of_beq_false (by kernel_rfl)) c68_eq (by kernel_rfl) (by rw [S68_eq]; exact h)
/-! slices.IndexFunc[[]int,int] -/
def pol69 : Pol := { lend := fun g => !([34, 57, 63] : List Nat).contains g, keep := [0, 1, 7, 8], frz := fun _ => [], perm := fun r => [], bf := fun r => [], ret := true }
def S69 (γ : Calld) (a0 a1 : AV) (H : AHeap) (K : AV → AHeap → Prop) : Prop :=
  optA (lenSl a0) fun v1 => loopA (fun X2 l3 H4 => optA (intA .lss (l3.getD 3 .junk) (l3.getD 2 .junk)) fun v5 => ifA v5 (optA (indexAddrA ti22 1 (l3.getD 0 .junk) (l3.getD 3 .junk)) fun v6 => optA (ldV false 1 v6 H4) fun v7 => callA γ pol69 (l3.getD 1 .junk) [v7] H4 fun v8 H9 => ifA v8 (retF [l3.getD 3 .junk] H9 K) (optA (intA .add (l3.getD 3 .junk) (.d (.int .i64 1))) fun v10 => X2 [l3.getD 0 .junk, l3.getD 1 .junk, l3.getD 2 .junk, v10] H9)) (retF [.d (.int .i64 (-1))] H4 K)) [a0, a1, v1, .d (.int .i64 0)] H
noncomputable def r69_0 : List Oper := regOps Try.f69 0
noncomputable def r69_1 : List Oper := regOps Try.f69 1
noncomputable def r69_2 : List Oper := regOps Try.f69 2
noncomputable def r69_3 : List Oper := regOps Try.f69 3
noncomputable def r69_4 : List Oper := regOps Try.f69 4
noncomputable def r69_5 : List Oper := regOps Try.f69 5
noncomputable def r69_6 : List Oper := regOps Try.f69 6
noncomputable def r69_7 : List Oper := regOps Try.f69 7
noncomputable def c69 : Code := (.seq (.region 0 #[opAt r69_0 0] false) (.seq (.seq (.region 1 #[opAt r69_1 0, opAt r69_1 1, opAt r69_1 2] false) (.block 0 (.loop (.seq (.region 2 #[opAt r69_2 0] false) (.seq (.cond (.tmp 9) .skip (.exit 0)) (.seq (.block 1 (.seq (.region 3 #[opAt r69_3 0, opAt r69_3 1] false) (.seq (.region 4 #[opAt r69_4 0, opAt r69_4 1, opAt r69_4 2, opAt r69_4 3, opAt r69_4 4, opAt r69_4 5] false) (.cond (.tmp 16) (.seq (.region 5 #[opAt r69_5 0, opAt r69_5 1] false) .ret) .skip)))) (.region 6 #[opAt r69_6 0, opAt r69_6 1] false))))))) (.seq (.region 7 #[opAt r69_7 0] false) .ret)))
theorem c69_eq : Try.f69.body = some c69 := by kernel_rfl
theorem S69_eq (γ : Calld) (a0 a1 : AV) (H : AHeap) (K : AV → AHeap → Prop) : execC Try.prog γ pol69 Try.f69 c69 [a0, a1] H K = S69 γ a0 a1 H K := by kernel_rfl
theorem C69 {a0 a1 : AV} {H : AHeap} {K : AV → AHeap → Prop} (h : S69 (CallsA Try.prog) a0 a1 H K) : CallsA Try.prog 69 [a0, a1] H K :=
  calls_of Try.func69 (ne_of_beq_false (by kernel_rfl)) c69_eq (by kernel_rfl) (by rw [S69_eq]; exact h)
/-! cmp.Less[int] -/
def pol71 : Pol := { lend := fun g => !([34, 57, 63] : List Nat).contains g, keep := [], frz := fun _ => [], perm := fun r => [], bf := fun r => [], ret := true }
def S71 (γ : Calld) (a0 a1 : AV) (H : AHeap) (K : AV → AHeap → Prop) : Prop :=
  frzLK [a0] H fun l3 H4 => γ 79 l3 H4 fun v1 H2 => ifA v1 (frzLK [a1] H2 fun l7 H8 => γ 79 l7 H8 fun v5 H6 => optA (unA .not v5) fun v9 => ifA v9 (retF [.d (.bool true)] H6 K) (optA (intA .lss a0 a1) fun v10 => retF [v10] H6 K)) (optA (intA .lss a0 a1) fun v11 => retF [v11] H2 K)
noncomputable def r71_0 : List Oper := regOps Try.f71 0
noncomputable def r71_1 : List Oper := regOps Try.f71 1
noncomputable def c71 : Code := (.seq (.region 0 #[opAt r71_0 0] false) (.seq (.region 1 #[opAt r71_1 0, opAt r71_1 1, opAt r71_1 2, opAt r71_1 3, opAt r71_1 4, opAt r71_1 5, opAt r71_1 6, opAt r71_1 7, opAt r71_1 8, opAt r71_1 9, opAt r71_1 10, opAt r71_1 11, opAt r71_1 12] false) .ret))
theorem c71_eq : Try.f71.body = some c71 := by kernel_rfl
theorem S71_eq (γ : Calld) (a0 a1 : AV) (H : AHeap) (K : AV → AHeap → Prop) : execC Try.prog γ pol71 Try.f71 c71 [a0, a1] H K = S71 γ a0 a1 H K := by kernel_rfl
theorem C71 {a0 a1 : AV} {H : AHeap} {K : AV → AHeap → Prop} (h : S71 (CallsA Try.prog) a0 a1 H K) : CallsA Try.prog 71 [a0, a1] H K :=
  calls_of Try.func71 (ne_of_beq_false (by kernel_rfl)) c71_eq (by kernel_rfl) (by rw [S71_eq]; exact h)
/-! slices.isNaN[int] -/
def pol72 : Pol := { lend := fun g => !([34, 57, 63] : List Nat).contains g, keep := [], frz := fun _ => [], perm := fun r => [], bf := fun r => [], ret := true }
def S72 (γ : Calld) (a0 : AV) (H : AHeap) (K : AV → AHeap → Prop) : Prop :=
  optA (intA .neq a0 a0) fun v1 => retF [v1] H K
noncomputable def r72_0 : List Oper := regOps Try.f72 0
noncomputable def r72_1 : List Oper := regOps Try.f72 1
noncomputable def c72 : Code := (.seq (.region 0 #[opAt r72_0 0] false) (.seq (.region 1 #[opAt r72_1 0, opAt r72_1 1, opAt r72_1 2, opAt r72_1 3] false) .ret))
theorem c72_eq : Try.f72.body = some c72 := by kernel_rfl
theorem S72_eq (γ : Calld) (a0 : AV) (H : AHeap) (K : AV → AHeap → Prop) : execC Try.prog γ pol72 Try.f72 c72 [a0] H K = S72 γ a0 H K := by kernel_rfl
theorem C72 {a0 : AV} {H : AHeap} {K : AV → AHeap → Prop} (h : S72 (CallsA Try.prog) a0 H K) : CallsA Try.prog 72 [a0] H K :=
  calls_of Try.func72 (ne_of_beq_false (by kernel_rfl)) c72_eq (by kernel_rfl) (by rw [S72_eq]; exact h)
/-! tithing/bus.guesses -/
def pol73 : Pol := { lend := fun g => !([34, 57, 63] : List Nat).contains g, keep := [2, 7, 8, 9], frz := fun _ => [], perm := fun r => if r = 1 then [0, 1, 2, 3, 4, 5, 6, 7, 8, 9] else [], bf := fun r => if r = 1 then [0, 1, 3, 0, 8, 24, 0, 0, 255, 511] else [], ret := true }
def S73 (γ : Calld) (a0 a1 a2 : AV) (H : AHeap) (K : AV → AHeap → Prop) : Prop :=
  drA true (optA (nilCkA a0) fun v1 => optA (ldV true 6 v1 H) fun v2 => optA (nilCkA a1) fun v3 => optA (ldV true 6 v3 H) fun v4 => newK H (fun n7 => some (.ptr n7 0 0 0, [(n7, .mem 0 0 6 [[.d (.sl true []), .d (.bool false), .d (.int .i64 0), .d (.int .i64 0), .d (.int .i64 0), .d (.int .i64 0)]])])) fun v5 H6 => newK H6 (fun n10 => some (.ptr n10 0 0 0, [(n10, .mem 0 0 6 [[.d (.sl true []), .d (.bool false), .d (.int .i64 0), .d (.int .i64 0), .d (.int .i64 0), .d (.int .i64 0)]])])) fun v8 H9 => noRsA (aggL v2) (stepK (stoA true 6 v5 v2 H9) H9 fun v11 H12 => noRsA (aggL v4) (stepK (stoA true 6 v8 v4 H12) H12 fun v13 H14 => loopA (fun X15 l16 H17 => optA (intA .leq (l16.getD 3 .junk) (.d (.int .i64 253))) fun v18 => ifA v18 (optA (fieldA ti68 (l16.getD 1 .junk) 3) fun v19 => stepK (stoA false 1 v19 (l16.getD 3 .junk) H17) H17 fun v20 H21 => optA (fieldA ti68 (l16.getD 2 .junk) 3) fun v22 => stepK (stoA false 1 v22 (l16.getD 3 .junk) H21) H21 fun v23 H24 => frzLK [l16.getD 1 .junk] H24 fun l27 H28 => γ 39 l27 H28 fun v25 H26 => frzLK [l16.getD 2 .junk] H26 fun l31 H32 => γ 39 l31 H32 fun v29 H30 => optA (intA .neq v25 v29) fun v33 => ifA v33 (retF [.d (.bool false)] H30 K) (optA (intA .add (l16.getD 3 .junk) (.d (.int .i64 1))) fun v34 => X15 [l16.getD 0 .junk, l16.getD 1 .junk, l16.getD 2 .junk, v34] H30)) (optA (intA .geq (l16.getD 0 .junk) (.d (.int .i64 0))) fun v35 => retF [v35] H17 K)) [a2, v5, v8, .d (.int .i64 0)] H14)))
noncomputable def r73_0 : List Oper := regOps Try.f73 0
noncomputable def r73_1 : List Oper := regOps Try.f73 1
noncomputable def r73_2 : List Oper := regOps Try.f73 2
noncomputable def r73_3 : List Oper := regOps Try.f73 3
noncomputable def r73_4 : List Oper := regOps Try.f73 4
noncomputable def r73_5 : List Oper := regOps Try.f73 5
noncomputable def r73_6 : List Oper := regOps Try.f73 6
noncomputable def r73_7 : List Oper := regOps Try.f73 7
noncomputable def r73_8 : List Oper := regOps Try.f73 8
noncomputable def c73 : Code := (.seq (.region 0 #[opAt r73_0 0] false) (.seq (.region 1 #[opAt r73_1 0, opAt r73_1 1, opAt r73_1 2, opAt r73_1 3, opAt r73_1 4, opAt r73_1 5, opAt r73_1 6, opAt r73_1 7, opAt r73_1 8, opAt r73_1 9] true) (.seq (.seq (.region 2 #[opAt r73_2 0] false) (.block 0 (.loop (.seq (.seq (.region 3 #[opAt r73_3 0, opAt r73_3 1] false) (.cond (.tmp 17) .skip (.exit 0))) (.seq (.block 1 (.seq (.region 5 #[opAt r73_4 0, opAt r73_4 1, opAt r73_4 2, opAt r73_4 3, opAt r73_4 4, opAt r73_4 5] false) (.seq (.region 6 #[opAt r73_5 0, opAt r73_5 1, opAt r73_5 2] false) (.cond (.tmp 26) (.seq (.region 7 #[opAt r73_6 0] false) .ret) .skip)))) (.region 4 #[opAt r73_7 0, opAt r73_7 1, opAt r73_7 2] false)))))) (.seq (.region 8 #[opAt r73_8 0, opAt r73_8 1, opAt r73_8 2] false) .ret))))
theorem c73_eq : Try.f73.body = some c73 := by kernel_rfl
theorem S73_eq (γ : Calld) (a0 a1 a2 : AV) (H : AHeap) (K : AV → AHeap → Prop) : execC Try.prog γ pol73 Try.f73 c73 [a0, a1, a2] H K = S73 γ a0 a1 a2 H K := by kernel_rfl
theorem C73 {a0 a1 a2 : AV} {H : AHeap} {K : AV → AHeap → Prop} (h : S73 (CallsA Try.prog) a0 a1 a2 H K) : CallsA Try.prog 73 [a0, a1, a2] H K :=
  calls_of Try.func73 (ne_of_beq_false (by kernel_rfl)) c73_eq (by kernel_rfl) (by rw [S73_eq]; exact h)
/-! cmp.isNaN[int] -/
def pol79 : Pol := { lend := fun g => !([34, 57, 63] : List Nat).contains g, keep := [], frz := fun _ => [], perm := fun r => [], bf := fun r => [], ret := true }
def S79 (γ : Calld) (a0 : AV) (H : AHeap) (K : AV → AHeap → Prop) : Prop :=
  optA (intA .neq a0 a0) fun v1 => retF [v1] H K
noncomputable def r79_0 : List Oper := regOps Try.f79 0
noncomputable def r79_1 : List Oper := regOps Try.f79 1
noncomputable def c79 : Code := (.seq (.region 0 #[opAt r79_0 0] false) (.seq (.region 1 #[opAt r79_1 0, opAt r79_1 1, opAt r79_1 2, opAt r79_1 3] false) .ret))
theorem c79_eq : Try.f79.body = some c79 := by kernel_rfl
theorem S79_eq (γ : Calld) (a0 : AV) (H : AHeap) (K : AV → AHeap → Prop) : execC Try.prog γ pol79 Try.f79 c79 [a0] H K = S79 γ a0 H K := by kernel_rfl
theorem C79 {a0 : AV} {H : AHeap} {K : AV → AHeap → Prop} (h : S79 (CallsA Try.prog) a0 H K) : CallsA Try.prog 79 [a0] H K :=
  calls_of Try.func79 (ne_of_beq_false (by kernel_rfl)) c79_eq (by kernel_rfl) (by rw [S79_eq]; exact h)
end Go.Proofs.Ytadpakkenokilaa

/- What the functions do, printed by a program of mine out of their code; Lean checks each equation. -/
import Derived.Test.YtofjhihigmimbaaA26
import Derived.Test.YtofjhihigmimbaaProg
import Derived.KernelRfl
set_option maxRecDepth 100000
set_option linter.unusedVariables false
namespace Go.Proofs.Ytofjhihigmimbaa
open Go Go.AM Go.Proofs
def opL (l : List Oper) : Nat → List Oper → List Oper
 | 0, acc => acc
 | n + 1, acc => opL l n (opAt l n :: acc)
def opArr (l : List Oper) (n : Nat) : Array Oper := ⟨opL l n []⟩
def ti4 : TI := { agg := false, size := 1, bytes := 1, zero := [.d (.bool false)], k := .bool }
def ti5 : TI := { agg := false, size := 1, bytes := 1, zero := [.d (.int .u8 0)], k := .int .u8 }
def ti22 : TI := { agg := false, size := 1, bytes := 24, zero := [.d (.sl true [])], k := .slice 5 }
def ti24 : TI := { agg := true, size := 8, bytes := 64, zero := [.d (.int .i64 0), .d (.int .i64 0), .d (.int .i64 0), .d (.int .i64 0), .d (.bool false), .d (.bool false), .d (.bool false), .d (.sl true [])], k := .struct [(0, 3), (1, 3), (2, 3), (3, 3), (4, 4), (5, 4), (6, 4), (7, 22)] }
theorem ti24_f0 {i v e o : Nat} : fieldA ti24 (.ptr i v e o) 0 = some (.ptr i v e (o + 0)) := rfl
theorem ti24_v0 {cs : List Dat} {o : Nat} : fieldA ti24 (.vptr cs o) 0 = some (.vptr cs (o + 0)) := rfl
theorem ti24_f1 {i v e o : Nat} : fieldA ti24 (.ptr i v e o) 1 = some (.ptr i v e (o + 1)) := rfl
theorem ti24_v1 {cs : List Dat} {o : Nat} : fieldA ti24 (.vptr cs o) 1 = some (.vptr cs (o + 1)) := rfl
theorem ti24_f2 {i v e o : Nat} : fieldA ti24 (.ptr i v e o) 2 = some (.ptr i v e (o + 2)) := rfl
theorem ti24_v2 {cs : List Dat} {o : Nat} : fieldA ti24 (.vptr cs o) 2 = some (.vptr cs (o + 2)) := rfl
theorem ti24_f3 {i v e o : Nat} : fieldA ti24 (.ptr i v e o) 3 = some (.ptr i v e (o + 3)) := rfl
theorem ti24_v3 {cs : List Dat} {o : Nat} : fieldA ti24 (.vptr cs o) 3 = some (.vptr cs (o + 3)) := rfl
theorem ti24_f4 {i v e o : Nat} : fieldA ti24 (.ptr i v e o) 4 = some (.ptr i v e (o + 4)) := rfl
theorem ti24_v4 {cs : List Dat} {o : Nat} : fieldA ti24 (.vptr cs o) 4 = some (.vptr cs (o + 4)) := rfl
theorem ti24_f5 {i v e o : Nat} : fieldA ti24 (.ptr i v e o) 5 = some (.ptr i v e (o + 5)) := rfl
theorem ti24_v5 {cs : List Dat} {o : Nat} : fieldA ti24 (.vptr cs o) 5 = some (.vptr cs (o + 5)) := rfl
theorem ti24_f6 {i v e o : Nat} : fieldA ti24 (.ptr i v e o) 6 = some (.ptr i v e (o + 6)) := rfl
theorem ti24_v6 {cs : List Dat} {o : Nat} : fieldA ti24 (.vptr cs o) 6 = some (.vptr cs (o + 6)) := rfl
theorem ti24_f7 {i v e o : Nat} : fieldA ti24 (.ptr i v e o) 7 = some (.ptr i v e (o + 7)) := rfl
theorem ti24_v7 {cs : List Dat} {o : Nat} : fieldA ti24 (.vptr cs o) 7 = some (.vptr cs (o + 7)) := rfl
def ti29 : TI := { agg := false, size := 1, bytes := 8, zero := [.nilptr], k := .ptr 73 }
def ti43 : TI := { agg := false, size := 1, bytes := 8, zero := [.nilptr], k := .ptr 89 }
def ti51 : TI := { agg := false, size := 1, bytes := 24, zero := [.d (.sl true [])], k := .slice 22 }
def ti55 : TI := { agg := false, size := 1, bytes := 24, zero := [.d (.sl true [])], k := .slice 3 }
def ti73 : TI := { agg := true, size := 3, bytes := 24, zero := [.d (.bool false), .d (.int .i64 0), .nilmap], k := .struct [(0, 4), (1, 3), (2, 71)] }
theorem ti73_f0 {i v e o : Nat} : fieldA ti73 (.ptr i v e o) 0 = some (.ptr i v e (o + 0)) := rfl
theorem ti73_v0 {cs : List Dat} {o : Nat} : fieldA ti73 (.vptr cs o) 0 = some (.vptr cs (o + 0)) := rfl
theorem ti73_f1 {i v e o : Nat} : fieldA ti73 (.ptr i v e o) 1 = some (.ptr i v e (o + 1)) := rfl
theorem ti73_v1 {cs : List Dat} {o : Nat} : fieldA ti73 (.vptr cs o) 1 = some (.vptr cs (o + 1)) := rfl
theorem ti73_f2 {i v e o : Nat} : fieldA ti73 (.ptr i v e o) 2 = some (.ptr i v e (o + 2)) := rfl
theorem ti73_v2 {cs : List Dat} {o : Nat} : fieldA ti73 (.vptr cs o) 2 = some (.vptr cs (o + 2)) := rfl
def ti74 : TI := { agg := false, size := 1, bytes := 24, zero := [.d (.sl true [])], k := .slice 29 }
def ti89 : TI := { agg := true, size := 2, bytes := 16, zero := [.nilmap, .nilmap], k := .struct [(0, 86), (1, 87)] }
theorem ti89_f0 {i v e o : Nat} : fieldA ti89 (.ptr i v e o) 0 = some (.ptr i v e (o + 0)) := rfl
theorem ti89_v0 {cs : List Dat} {o : Nat} : fieldA ti89 (.vptr cs o) 0 = some (.vptr cs (o + 0)) := rfl
theorem ti89_f1 {i v e o : Nat} : fieldA ti89 (.ptr i v e o) 1 = some (.ptr i v e (o + 1)) := rfl
theorem ti89_v1 {cs : List Dat} {o : Nat} : fieldA ti89 (.vptr cs o) 1 = some (.vptr cs (o + 1)) := rfl
def ti90 : TI := { agg := false, size := 1, bytes := 24, zero := [.d (.sl true [])], k := .slice 43 }
def ti108 : TI := { agg := true, size := 8, bytes := 8, zero := [.d (.bool false), .d (.bool false), .d (.bool false), .d (.bool false), .d (.bool false), .d (.bool false), .d (.bool false), .d (.bool false)], k := .array 8 4 }
def ti109 : TI := { agg := true, size := 8, bytes := 192, zero := [.d (.sl true []), .d (.sl true []), .d (.sl true []), .d (.sl true []), .d (.sl true []), .d (.sl true []), .d (.sl true []), .d (.sl true [])], k := .array 8 22 }
def ti129 : TI := { agg := true, size := 23, bytes := 272, zero := [.d (.sl true []), .d (.bool false), .d (.int .i64 0), .d (.int .i64 0), .d (.int .i64 0), .d (.int .i64 0), .d (.int .i64 0), .d (.sl true []), .d (.sl true []), .d (.sl true []), .d (.sl true []), .d (.sl true []), .d (.sl true []), .d (.sl true []), .d (.sl true []), .d (.bool false), .d (.bool false), .d (.bool false), .d (.bool false), .d (.bool false), .d (.bool false), .d (.bool false), .d (.bool false)], k := .struct [(0, 22), (1, 4), (2, 3), (3, 3), (4, 3), (5, 3), (6, 3), (7, 109), (15, 108)] }
theorem ti129_f0 {i v e o : Nat} : fieldA ti129 (.ptr i v e o) 0 = some (.ptr i v e (o + 0)) := rfl
theorem ti129_v0 {cs : List Dat} {o : Nat} : fieldA ti129 (.vptr cs o) 0 = some (.vptr cs (o + 0)) := rfl
theorem ti129_f1 {i v e o : Nat} : fieldA ti129 (.ptr i v e o) 1 = some (.ptr i v e (o + 1)) := rfl
theorem ti129_v1 {cs : List Dat} {o : Nat} : fieldA ti129 (.vptr cs o) 1 = some (.vptr cs (o + 1)) := rfl
theorem ti129_f2 {i v e o : Nat} : fieldA ti129 (.ptr i v e o) 2 = some (.ptr i v e (o + 2)) := rfl
theorem ti129_v2 {cs : List Dat} {o : Nat} : fieldA ti129 (.vptr cs o) 2 = some (.vptr cs (o + 2)) := rfl
theorem ti129_f3 {i v e o : Nat} : fieldA ti129 (.ptr i v e o) 3 = some (.ptr i v e (o + 3)) := rfl
theorem ti129_v3 {cs : List Dat} {o : Nat} : fieldA ti129 (.vptr cs o) 3 = some (.vptr cs (o + 3)) := rfl
theorem ti129_f4 {i v e o : Nat} : fieldA ti129 (.ptr i v e o) 4 = some (.ptr i v e (o + 4)) := rfl
theorem ti129_v4 {cs : List Dat} {o : Nat} : fieldA ti129 (.vptr cs o) 4 = some (.vptr cs (o + 4)) := rfl
theorem ti129_f5 {i v e o : Nat} : fieldA ti129 (.ptr i v e o) 5 = some (.ptr i v e (o + 5)) := rfl
theorem ti129_v5 {cs : List Dat} {o : Nat} : fieldA ti129 (.vptr cs o) 5 = some (.vptr cs (o + 5)) := rfl
theorem ti129_f6 {i v e o : Nat} : fieldA ti129 (.ptr i v e o) 6 = some (.ptr i v e (o + 6)) := rfl
theorem ti129_v6 {cs : List Dat} {o : Nat} : fieldA ti129 (.vptr cs o) 6 = some (.vptr cs (o + 6)) := rfl
theorem ti129_f7 {i v e o : Nat} : fieldA ti129 (.ptr i v e o) 7 = some (.ptr i v e (o + 7)) := rfl
theorem ti129_v7 {cs : List Dat} {o : Nat} : fieldA ti129 (.vptr cs o) 7 = some (.vptr cs (o + 7)) := rfl
theorem ti129_f8 {i v e o : Nat} : fieldA ti129 (.ptr i v e o) 8 = some (.ptr i v e (o + 15)) := rfl
theorem ti129_v8 {cs : List Dat} {o : Nat} : fieldA ti129 (.vptr cs o) 8 = some (.vptr cs (o + 15)) := rfl
def ti133 : TI := { agg := true, size := 2, bytes := 16, zero := [.d (.int .i64 0), .d (.int .i64 0)], k := .struct [(0, 3), (1, 3)] }
theorem ti133_f0 {i v e o : Nat} : fieldA ti133 (.ptr i v e o) 0 = some (.ptr i v e (o + 0)) := rfl
theorem ti133_v0 {cs : List Dat} {o : Nat} : fieldA ti133 (.vptr cs o) 0 = some (.vptr cs (o + 0)) := rfl
theorem ti133_f1 {i v e o : Nat} : fieldA ti133 (.ptr i v e o) 1 = some (.ptr i v e (o + 1)) := rfl
theorem ti133_v1 {cs : List Dat} {o : Nat} : fieldA ti133 (.vptr cs o) 1 = some (.vptr cs (o + 1)) := rfl
def ti135 : TI := { agg := true, size := 4, bytes := 48, zero := [.d (.int .i64 0), .d (.int .i64 0), .d (.sl true []), .d (.int .i64 0)], k := .struct [(0, 3), (1, 3), (2, 51), (3, 3)] }
theorem ti135_f0 {i v e o : Nat} : fieldA ti135 (.ptr i v e o) 0 = some (.ptr i v e (o + 0)) := rfl
theorem ti135_v0 {cs : List Dat} {o : Nat} : fieldA ti135 (.vptr cs o) 0 = some (.vptr cs (o + 0)) := rfl
theorem ti135_f1 {i v e o : Nat} : fieldA ti135 (.ptr i v e o) 1 = some (.ptr i v e (o + 1)) := rfl
theorem ti135_v1 {cs : List Dat} {o : Nat} : fieldA ti135 (.vptr cs o) 1 = some (.vptr cs (o + 1)) := rfl
theorem ti135_f2 {i v e o : Nat} : fieldA ti135 (.ptr i v e o) 2 = some (.ptr i v e (o + 2)) := rfl
theorem ti135_v2 {cs : List Dat} {o : Nat} : fieldA ti135 (.vptr cs o) 2 = some (.vptr cs (o + 2)) := rfl
theorem ti135_f3 {i v e o : Nat} : fieldA ti135 (.ptr i v e o) 3 = some (.ptr i v e (o + 3)) := rfl
theorem ti135_v3 {cs : List Dat} {o : Nat} : fieldA ti135 (.vptr cs o) 3 = some (.vptr cs (o + 3)) := rfl
theorem bd24 {parts : List (Nat × AV)} : buildA Try.prog ti24 parts = (fillA (fun i => (([(0, 3), (1, 3), (2, 3), (3, 3), (4, 4), (5, 4), (6, 4), (7, 22)] : List (Nat × TypeId))[i]?).map fun f => (f.1, Try.prog.cellsOf f.2)) [.d (.int .i64 0), .d (.int .i64 0), .d (.int .i64 0), .d (.int .i64 0), .d (.bool false), .d (.bool false), .d (.bool false), .d (.sl true [])] parts).map AV.agg := rfl
theorem bd73 {parts : List (Nat × AV)} : buildA Try.prog ti73 parts = (fillA (fun i => (([(0, 4), (1, 3), (2, 71)] : List (Nat × TypeId))[i]?).map fun f => (f.1, Try.prog.cellsOf f.2)) [.d (.bool false), .d (.int .i64 0), .nilmap] parts).map AV.agg := rfl
theorem bd89 {parts : List (Nat × AV)} : buildA Try.prog ti89 parts = (fillA (fun i => (([(0, 86), (1, 87)] : List (Nat × TypeId))[i]?).map fun f => (f.1, Try.prog.cellsOf f.2)) [.nilmap, .nilmap] parts).map AV.agg := rfl
theorem bd108 {parts : List (Nat × AV)} : buildA Try.prog ti108 parts = (fillA (fun i => some (i * Try.prog.cellsOf 4, Try.prog.cellsOf 4)) [.d (.bool false), .d (.bool false), .d (.bool false), .d (.bool false), .d (.bool false), .d (.bool false), .d (.bool false), .d (.bool false)] parts).map AV.agg := rfl
theorem bd109 {parts : List (Nat × AV)} : buildA Try.prog ti109 parts = (fillA (fun i => some (i * Try.prog.cellsOf 22, Try.prog.cellsOf 22)) [.d (.sl true []), .d (.sl true []), .d (.sl true []), .d (.sl true []), .d (.sl true []), .d (.sl true []), .d (.sl true []), .d (.sl true [])] parts).map AV.agg := rfl
theorem bd129 {parts : List (Nat × AV)} : buildA Try.prog ti129 parts = (fillA (fun i => (([(0, 22), (1, 4), (2, 3), (3, 3), (4, 3), (5, 3), (6, 3), (7, 109), (15, 108)] : List (Nat × TypeId))[i]?).map fun f => (f.1, Try.prog.cellsOf f.2)) [.d (.sl true []), .d (.bool false), .d (.int .i64 0), .d (.int .i64 0), .d (.int .i64 0), .d (.int .i64 0), .d (.int .i64 0), .d (.sl true []), .d (.sl true []), .d (.sl true []), .d (.sl true []), .d (.sl true []), .d (.sl true []), .d (.sl true []), .d (.sl true []), .d (.bool false), .d (.bool false), .d (.bool false), .d (.bool false), .d (.bool false), .d (.bool false), .d (.bool false), .d (.bool false)] parts).map AV.agg := rfl
theorem bd133 {parts : List (Nat × AV)} : buildA Try.prog ti133 parts = (fillA (fun i => (([(0, 3), (1, 3)] : List (Nat × TypeId))[i]?).map fun f => (f.1, Try.prog.cellsOf f.2)) [.d (.int .i64 0), .d (.int .i64 0)] parts).map AV.agg := rfl
theorem bd135 {parts : List (Nat × AV)} : buildA Try.prog ti135 parts = (fillA (fun i => (([(0, 3), (1, 3), (2, 51), (3, 3)] : List (Nat × TypeId))[i]?).map fun f => (f.1, Try.prog.cellsOf f.2)) [.d (.int .i64 0), .d (.int .i64 0), .d (.sl true []), .d (.int .i64 0)] parts).map AV.agg := rfl
theorem cell3 : Try.prog.cellsOf 3 = 1 := by kernel_rfl
theorem cell4 : Try.prog.cellsOf 4 = 1 := by kernel_rfl
theorem cell5 : Try.prog.cellsOf 5 = 1 := by kernel_rfl
theorem cell22 : Try.prog.cellsOf 22 = 1 := by kernel_rfl
theorem cell29 : Try.prog.cellsOf 29 = 1 := by kernel_rfl
theorem cell43 : Try.prog.cellsOf 43 = 1 := by kernel_rfl
theorem cell51 : Try.prog.cellsOf 51 = 1 := by kernel_rfl
theorem cell71 : Try.prog.cellsOf 71 = 1 := by kernel_rfl
theorem cell86 : Try.prog.cellsOf 86 = 1 := by kernel_rfl
theorem cell87 : Try.prog.cellsOf 87 = 1 := by kernel_rfl
theorem cell108 : Try.prog.cellsOf 108 = 8 := by kernel_rfl
theorem cell109 : Try.prog.cellsOf 109 = 8 := by kernel_rfl
def pol11 : Pol := { lend := fun _ => true, keep := [], frz := fun _ => [], perm := fun r => [], bf := fun r => [], ret := true }
def S11 (γ : Calld) (a0 : AV) (H : AHeap) (K : AV → AHeap → Prop) : Prop :=
 newK H (fun n3 => boxA a0 n3) fun v1 H2 => optA (fieldA ti24 v1 1) fun v4 => optA (ldV false 1 v4 H2) fun v5 => frzLK [v5, .d (.int .i64 0), .d (.int .i64 65535)] H2 fun l8 H9 => γ 46 l8 H9 fun v6 H7 => optA (unA .not v6) fun v10 => ifA v10 (retF [.d (.bool false)] H7 K) (optA (fieldA ti24 v1 0) fun v11 => optA (ldV false 1 v11 H7) fun v12 => optA (intA .eql v12 (.d (.int .i64 0))) fun v13 => ifA v13 (optA (fieldA ti24 v1 2) fun v14 => optA (ldV false 1 v14 H7) fun v15 => frzLK [v15, .d (.int .i64 1), .d (.int .i64 255)] H7 fun l18 H19 => γ 46 l18 H19 fun v16 H17 => ifA v16 (optA (fieldA ti24 v1 3) fun v20 => optA (ldV false 1 v20 H17) fun v21 => optA (intA .eql v21 (.d (.int .i64 0))) fun v22 => ifA v22 (optA (fieldA ti24 v1 5) fun v23 => optA (ldV false 1 v23 H17) fun v24 => optA (unA .not v24) fun v25 => ifA v25 (optA (fieldA ti24 v1 6) fun v26 => optA (ldV false 1 v26 H17) fun v27 => optA (unA .not v27) fun v28 => ifA v28 (optA (fieldA ti24 v1 7) fun v29 => optA (ldV false 1 v29 H17) fun v30 => optA (lenSl v30) fun v31 => optA (intA .leq v31 (.d (.int .i64 64))) fun v32 => retF [v32] H17 K) (retF [.d (.bool false)] H17 K)) (retF [.d (.bool false)] H17 K)) (retF [.d (.bool false)] H17 K)) (retF [.d (.bool false)] H17 K)) (optA (intA .eql v12 (.d (.int .i64 1))) fun v33 => ifA v33 (optA (fieldA ti24 v1 2) fun v34 => optA (ldV false 1 v34 H7) fun v35 => optA (intA .eql v35 (.d (.int .i64 0))) fun v36 => ifA v36 (optA (fieldA ti24 v1 3) fun v37 => optA (ldV false 1 v37 H7) fun v38 => frzLK [v38, .d (.int .i64 0), .d (.int .i64 7)] H7 fun l41 H42 => γ 46 l41 H42 fun v39 H40 => ifA v39 (optA (fieldA ti24 v1 4) fun v43 => optA (ldV false 1 v43 H40) fun v44 => optA (unA .not v44) fun v45 => ifA v45 (optA (fieldA ti24 v1 7) fun v46 => optA (ldV false 1 v46 H40) fun v47 => optA (lenSl v47) fun v48 => optA (intA .leq v48 (.d (.int .i64 64))) fun v49 => retF [v49] H40 K) (retF [.d (.bool false)] H40 K)) (retF [.d (.bool false)] H40 K)) (retF [.d (.bool false)] H7 K)) (optA (intA .eql v12 (.d (.int .i64 2))) fun v50 => ifA v50 (optA (fieldA ti24 v1 2) fun v51 => optA (ldV false 1 v51 H7) fun v52 => optA (intA .eql v52 (.d (.int .i64 0))) fun v53 => ifA v53 (optA (fieldA ti24 v1 3) fun v54 => optA (ldV false 1 v54 H7) fun v55 => optA (intA .eql v55 (.d (.int .i64 0))) fun v56 => ifA v56 (optA (fieldA ti24 v1 4) fun v57 => optA (ldV false 1 v57 H7) fun v58 => optA (unA .not v58) fun v59 => ifA v59 (optA (fieldA ti24 v1 5) fun v60 => optA (ldV false 1 v60 H7) fun v61 => optA (unA .not v61) fun v62 => ifA v62 (optA (fieldA ti24 v1 6) fun v63 => optA (ldV false 1 v63 H7) fun v64 => optA (unA .not v64) fun v65 => ifA v65 (optA (fieldA ti24 v1 7) fun v66 => optA (ldV false 1 v66 H7) fun v67 => optA (lenSl v67) fun v68 => optA (intA .eql v68 (.d (.int .i64 0))) fun v69 => retF [v69] H7 K) (retF [.d (.bool false)] H7 K)) (retF [.d (.bool false)] H7 K)) (retF [.d (.bool false)] H7 K)) (retF [.d (.bool false)] H7 K)) (retF [.d (.bool false)] H7 K)) (retF [.d (.bool false)] H7 K))))
noncomputable def r11_0 : List Oper := regOps Try.f11 0
noncomputable def r11_1 : List Oper := regOps Try.f11 1
noncomputable def r11_2 : List Oper := regOps Try.f11 2
noncomputable def r11_3 : List Oper := regOps Try.f11 3
noncomputable def r11_4 : List Oper := regOps Try.f11 4
noncomputable def r11_5 : List Oper := regOps Try.f11 5
noncomputable def r11_6 : List Oper := regOps Try.f11 6
noncomputable def r11_7 : List Oper := regOps Try.f11 7
noncomputable def r11_8 : List Oper := regOps Try.f11 8
noncomputable def r11_9 : List Oper := regOps Try.f11 9
noncomputable def r11_10 : List Oper := regOps Try.f11 10
noncomputable def c11 : Code := (.seq (.region 0 (opArr r11_0 2) false) (.seq (.seq (.region 1 (opArr r11_1 4) false) (.cond (.tmp 6) (.seq (.region 2 (opArr r11_2 1) false) .ret) .skip)) (.seq (.seq (.region 3 (opArr r11_3 2) false) (.block 0 (.seq (.region 4 (opArr r11_4 2) false) (.cond (.tmp 9) (.seq (.region 5 (opArr r11_5 25) false) .ret) (.seq (.region 6 (opArr r11_6 2) false) (.cond (.tmp 35) (.seq (.region 7 (opArr r11_7 20) false) .ret) (.seq (.region 8 (opArr r11_8 2) false) (.cond (.tmp 56) (.seq (.region 9 (opArr r11_9 30) false) .ret) .skip)))))))) (.seq (.region 10 (opArr r11_10 1) false) .ret))))
theorem c11_eq : Try.f11.body = some c11 := by kernel_rfl
theorem S11_eq (γ : Calld) (a0 : AV) (H : AHeap) (K : AV → AHeap → Prop) : execC Try.prog γ pol11 Try.f11 c11 [a0] H K = S11 γ a0 H K := by kernel_rfl
theorem C11 {a0 : AV} {H : AHeap} {K : AV → AHeap → Prop} (h : S11 (CallsA Try.prog) a0 H K) : CallsA Try.prog 11 [a0] H K :=
 calls_of Try.func11 (ne_of_beq_false (by kernel_rfl)) c11_eq (by kernel_rfl) (by rw [S11_eq]; exact h)
def pol12 : Pol := { lend := fun _ => true, keep := [], frz := fun _ => [], perm := fun r => [], bf := fun r => [], ret := true }
def S12 (γ : Calld) (a0 : AV) (H : AHeap) (K : AV → AHeap → Prop) : Prop :=
 newK H (fun n3 => boxA a0 n3) fun v1 H2 => optA (fieldA ti24 v1 1) fun v4 => optA (ldV false 1 v4 H2) fun v5 => optA (intA .lss v5 (.d (.int .i64 0))) fun v6 => ifA v6 (retF [.d (.bool false)] H2 K) (optA (fieldA ti24 v1 1) fun v7 => optA (ldV false 1 v7 H2) fun v8 => optA (intA .gtr v8 (.d (.int .i64 65535))) fun v9 => ifA v9 (retF [.d (.bool false)] H2 K) (optA (fieldA ti24 v1 7) fun v10 => optA (ldV false 1 v10 H2) fun v11 => optA (lenSl v11) fun v12 => optA (intA .gtr v12 (.d (.int .i64 64))) fun v13 => ifA v13 (retF [.d (.bool false)] H2 K) (optA (fieldA ti24 v1 0) fun v14 => optA (ldV false 1 v14 H2) fun v15 => optA (intA .eql v15 (.d (.int .i64 0))) fun v16 => ifA v16 (optA (fieldA ti24 v1 2) fun v17 => optA (ldV false 1 v17 H2) fun v18 => optA (intA .geq v18 (.d (.int .i64 1))) fun v19 => ifA v19 (optA (fieldA ti24 v1 2) fun v20 => optA (ldV false 1 v20 H2) fun v21 => optA (intA .leq v21 (.d (.int .i64 255))) fun v22 => ifA v22 (optA (fieldA ti24 v1 3) fun v23 => optA (ldV false 1 v23 H2) fun v24 => optA (intA .eql v24 (.d (.int .i64 0))) fun v25 => ifA v25 (optA (fieldA ti24 v1 5) fun v26 => optA (ldV false 1 v26 H2) fun v27 => optA (unA .not v27) fun v28 => ifA v28 (optA (fieldA ti24 v1 6) fun v29 => optA (ldV false 1 v29 H2) fun v30 => optA (unA .not v30) fun v31 => retF [v31] H2 K) (retF [.d (.bool false)] H2 K)) (retF [.d (.bool false)] H2 K)) (retF [.d (.bool false)] H2 K)) (retF [.d (.bool false)] H2 K)) (optA (intA .eql v15 (.d (.int .i64 1))) fun v32 => ifA v32 (optA (fieldA ti24 v1 2) fun v33 => optA (ldV false 1 v33 H2) fun v34 => optA (intA .eql v34 (.d (.int .i64 0))) fun v35 => ifA v35 (optA (fieldA ti24 v1 3) fun v36 => optA (ldV false 1 v36 H2) fun v37 => optA (intA .geq v37 (.d (.int .i64 0))) fun v38 => ifA v38 (optA (fieldA ti24 v1 3) fun v39 => optA (ldV false 1 v39 H2) fun v40 => optA (intA .leq v40 (.d (.int .i64 7))) fun v41 => ifA v41 (optA (fieldA ti24 v1 4) fun v42 => optA (ldV false 1 v42 H2) fun v43 => optA (unA .not v43) fun v44 => retF [v44] H2 K) (retF [.d (.bool false)] H2 K)) (retF [.d (.bool false)] H2 K)) (retF [.d (.bool false)] H2 K)) (optA (intA .eql v15 (.d (.int .i64 2))) fun v45 => ifA v45 (optA (fieldA ti24 v1 2) fun v46 => optA (ldV false 1 v46 H2) fun v47 => optA (intA .eql v47 (.d (.int .i64 0))) fun v48 => ifA v48 (optA (fieldA ti24 v1 3) fun v49 => optA (ldV false 1 v49 H2) fun v50 => optA (intA .eql v50 (.d (.int .i64 0))) fun v51 => ifA v51 (optA (fieldA ti24 v1 4) fun v52 => optA (ldV false 1 v52 H2) fun v53 => optA (unA .not v53) fun v54 => ifA v54 (optA (fieldA ti24 v1 5) fun v55 => optA (ldV false 1 v55 H2) fun v56 => optA (unA .not v56) fun v57 => ifA v57 (optA (fieldA ti24 v1 6) fun v58 => optA (ldV false 1 v58 H2) fun v59 => optA (unA .not v59) fun v60 => ifA v60 (optA (fieldA ti24 v1 7) fun v61 => optA (ldV false 1 v61 H2) fun v62 => optA (lenSl v62) fun v63 => optA (intA .eql v63 (.d (.int .i64 0))) fun v64 => retF [v64] H2 K) (retF [.d (.bool false)] H2 K)) (retF [.d (.bool false)] H2 K)) (retF [.d (.bool false)] H2 K)) (retF [.d (.bool false)] H2 K)) (retF [.d (.bool false)] H2 K)) (retF [.d (.bool false)] H2 K))))))
noncomputable def r12_0 : List Oper := regOps Try.f12 0
noncomputable def r12_1 : List Oper := regOps Try.f12 1
noncomputable def r12_2 : List Oper := regOps Try.f12 2
noncomputable def r12_3 : List Oper := regOps Try.f12 3
noncomputable def r12_4 : List Oper := regOps Try.f12 4
noncomputable def r12_5 : List Oper := regOps Try.f12 5
noncomputable def r12_6 : List Oper := regOps Try.f12 6
noncomputable def r12_7 : List Oper := regOps Try.f12 7
noncomputable def r12_8 : List Oper := regOps Try.f12 8
noncomputable def r12_9 : List Oper := regOps Try.f12 9
noncomputable def r12_10 : List Oper := regOps Try.f12 10
noncomputable def c12 : Code := (.seq (.region 0 (opArr r12_0 2) false) (.seq (.seq (.region 1 (opArr r12_1 14) false) (.cond (.tmp 16) (.seq (.region 2 (opArr r12_2 1) false) .ret) .skip)) (.seq (.seq (.region 3 (opArr r12_3 2) false) (.block 0 (.seq (.region 4 (opArr r12_4 2) false) (.cond (.tmp 19) (.seq (.region 5 (opArr r12_5 24) false) .ret) (.seq (.region 6 (opArr r12_6 2) false) (.cond (.tmp 44) (.seq (.region 7 (opArr r12_7 19) false) .ret) (.seq (.region 8 (opArr r12_8 2) false) (.cond (.tmp 64) (.seq (.region 9 (opArr r12_9 30) false) .ret) .skip)))))))) (.seq (.region 10 (opArr r12_10 1) false) .ret))))
theorem c12_eq : Try.f12.body = some c12 := by kernel_rfl
theorem S12_eq (γ : Calld) (a0 : AV) (H : AHeap) (K : AV → AHeap → Prop) : execC Try.prog γ pol12 Try.f12 c12 [a0] H K = S12 γ a0 H K := by kernel_rfl
theorem C12 {a0 : AV} {H : AHeap} {K : AV → AHeap → Prop} (h : S12 (CallsA Try.prog) a0 H K) : CallsA Try.prog 12 [a0] H K :=
 calls_of Try.func12 (ne_of_beq_false (by kernel_rfl)) c12_eq (by kernel_rfl) (by rw [S12_eq]; exact h)
def pol13 : Pol := { lend := fun _ => true, keep := [], frz := fun _ => [], perm := fun r => [], bf := fun r => [], ret := true }
def S13 (γ : Calld) (H : AHeap) (K : AV → AHeap → Prop) : Prop :=
 frzLK [.d (.int .i64 0)] H fun l3 H4 => γ 15 l3 H4 fun v1 H2 => optA (extractA v1 0) fun v5 => optA (extractA v1 1) fun v6 => optA (intA .neq v6 (.d (.int .i64 0))) fun v7 => ifA v7 (retF [.d (.bool false)] H2 K) (frzLK [v5, .d (.sl false [[.int .u8 113]]), .d (.int .i64 3), .d (.bool false), .d (.int .i64 4)] H2 fun l10 H11 => γ 30 l10 H11 fun v8 H9 => optA (extractA v8 0) fun v12 => optA (extractA v8 1) fun v13 => optA (extractA v8 2) fun v14 => newK H9 (fun n17 => some (.ptr n17 0 0 0, [(n17, .mem 0 0 8 [[.d (.int .i64 0), .d (.int .i64 0), .d (.int .i64 0), .d (.int .i64 0), .d (.bool false), .d (.bool false), .d (.bool false), .d (.sl true [])]])])) fun v15 H16 => stepK (stoA true 8 v15 v13 H16) H16 fun v18 H19 => optA (intA .neq v12 (.d (.int .i64 0))) fun v20 => ifA v20 (retF [.d (.bool false)] H19 K) (optA (fieldA ti24 v15 2) fun v21 => optA (ldV false 1 v21 H19) fun v22 => optA (intA .neq v22 (.d (.int .i64 7))) fun v23 => ifA v23 (retF [.d (.bool false)] H19 K) (optA (intA .neq v14 (.d (.int .i64 0))) fun v24 => ifA v24 (retF [.d (.bool false)] H19 K) (stepK (bdA Try.prog ti24 [0, 7] [.d (.int .i64 1), .d (.sl false [[.int .u8 120]])] H19) H19 fun v25 H26 => frzLK [v5, v25] H26 fun l29 H30 => γ 31 l29 H30 fun v27 H28 => stepK (bdA Try.prog ti24 [0, 3, 5, 7] [.d (.int .i64 1), .d (.int .i64 1), .d (.bool true), .d (.sl false [[.int .u8 121]])] H28) H28 fun v31 H32 => frzLK [v5, v31] H32 fun l35 H36 => γ 31 l35 H36 fun v33 H34 => frzLK [v5, .d (.int .i64 0)] H34 fun l39 H40 => γ 33 l39 H40 fun v37 H38 => optA (extractA v37 0) fun v41 => optA (extractA v37 1) fun v42 => optA (intA .eql v42 (.d (.int .i64 0))) fun v43 => ifA v43 (optA (lenSl v41) fun v44 => optA (intA .eql v44 (.d (.int .i64 2))) fun v45 => ifA v45 (optA (indexAddrA ti51 1 v41 (.d (.int .i64 1))) fun v46 => optA (ldV false 1 v46 H38) fun v47 => optA (cvBS v47 H38) fun v48 => optA (strA .eql v48 (.d (.str ⟨#[121]⟩))) fun v49 => retF [v49] H38 K) (retF [.d (.bool false)] H38 K)) (retF [.d (.bool false)] H38 K)))))
noncomputable def r13_0 : List Oper := regOps Try.f13 0
noncomputable def r13_1 : List Oper := regOps Try.f13 1
noncomputable def r13_2 : List Oper := regOps Try.f13 2
noncomputable def r13_3 : List Oper := regOps Try.f13 3
noncomputable def r13_4 : List Oper := regOps Try.f13 4
noncomputable def r13_5 : List Oper := regOps Try.f13 5
noncomputable def r13_6 : List Oper := regOps Try.f13 6
noncomputable def r13_7 : List Oper := regOps Try.f13 7
noncomputable def r13_8 : List Oper := regOps Try.f13 8
noncomputable def r13_9 : List Oper := regOps Try.f13 9
noncomputable def r13_10 : List Oper := regOps Try.f13 10
noncomputable def c13 : Code := (.seq (.region 0 (opArr r13_0 1) false) (.seq (.region 1 (opArr r13_1 6) false) (.seq (.seq (.region 2 (opArr r13_2 2) false) (.cond (.tmp 11) (.seq (.region 3 (opArr r13_3 1) false) .ret) .skip)) (.seq (.region 4 (opArr r13_4 12) false) (.seq (.seq (.region 5 (opArr r13_5 11) false) (.cond (.tmp 30) (.seq (.region 6 (opArr r13_6 1) false) .ret) .skip)) (.seq (.region 7 (opArr r13_7 5) false) (.seq (.region 8 (opArr r13_8 5) false) (.seq (.region 9 (opArr r13_9 7) false) (.seq (.region 10 (opArr r13_10 15) false) .ret)))))))))
theorem c13_eq : Try.f13.body = some c13 := by kernel_rfl
theorem S13_eq (γ : Calld) (H : AHeap) (K : AV → AHeap → Prop) : execC Try.prog γ pol13 Try.f13 c13 [] H K = S13 γ H K := by kernel_rfl
theorem C13 {H : AHeap} {K : AV → AHeap → Prop} (h : S13 (CallsA Try.prog) H K) : CallsA Try.prog 13 [] H K :=
 calls_of Try.func13 (ne_of_beq_false (by kernel_rfl)) c13_eq (by kernel_rfl) (by rw [S13_eq]; exact h)
def pol15 : Pol := { lend := fun _ => true, keep := [], frz := fun _ => [], perm := fun r => [], bf := fun r => [], ret := true }
def S15 (γ : Calld) (a0 : AV) (H : AHeap) (K : AV → AHeap → Prop) : Prop :=
 frzLK [a0, .d (.int .i64 0), .d (.int .i64 65535)] H fun l3 H4 => γ 46 l3 H4 fun v1 H2 => optA (unA .not v1) fun v5 => ifA v5 (retF [.nilptr, .d (.int .i64 2)] H2 K) (newK H2 (fun n8 => some (.map n8, [(n8, .map [] 0)])) fun v6 H7 => stepK (bdA Try.prog ti73 [0, 1, 2] [.d (.bool true), a0, v6] H7) H7 fun v9 H10 => newK H10 (fun n13 => boxA v9 n13) fun v11 H12 => retF [v11, .d (.int .i64 0)] H12 K)
noncomputable def r15_0 : List Oper := regOps Try.f15 0
noncomputable def r15_1 : List Oper := regOps Try.f15 1
noncomputable def r15_2 : List Oper := regOps Try.f15 2
noncomputable def r15_3 : List Oper := regOps Try.f15 3
noncomputable def c15 : Code := (.seq (.region 0 (opArr r15_0 2) false) (.seq (.seq (.region 1 (opArr r15_1 3) false) (.cond (.tmp 6) (.seq (.region 2 (opArr r15_2 2) false) .ret) .skip)) (.seq (.region 3 (opArr r15_3 6) false) .ret)))
theorem c15_eq : Try.f15.body = some c15 := by kernel_rfl
theorem S15_eq (γ : Calld) (a0 : AV) (H : AHeap) (K : AV → AHeap → Prop) : execC Try.prog γ pol15 Try.f15 c15 [a0] H K = S15 γ a0 H K := by kernel_rfl
theorem C15 {a0 : AV} {H : AHeap} {K : AV → AHeap → Prop} (h : S15 (CallsA Try.prog) a0 H K) : CallsA Try.prog 15 [a0] H K :=
 calls_of Try.func15 (ne_of_beq_false (by kernel_rfl)) c15_eq (by kernel_rfl) (by rw [S15_eq]; exact h)
def pol30 : Pol := { lend := fun _ => true, keep := [0, 1, 2, 3, 4, 11], frz := fun _ => [], perm := fun r => if r = 2 then [0, 1, 2, 3] else if r = 4 then [0, 1, 2, 3] else if r = 6 then [0, 1, 2, 3] else if r = 7 then [0, 1, 2, 3, 4, 5, 6, 7, 8, 9] else if r = 11 then [0, 1, 2, 3, 4, 5, 6, 7, 8, 9] else [], bf := fun r => if r = 2 then [0, 0, 3, 7] else if r = 4 then [0, 0, 3, 7] else if r = 6 then [0, 0, 3, 7] else if r = 7 then [0, 1, 3, 7, 0, 16, 48, 112, 255, 511] else if r = 11 then [0, 1, 0, 0, 0, 16, 48, 127, 255, 511] else [], ret := true }
def S30 (γ : Calld) (a0 a1 a2 a3 a4 : AV) (H : AHeap) (K : AV → AHeap → Prop) : Prop :=
 newK H (fun n3 => some (.ptr n3 0 0 0, [(n3, .mem 0 0 8 [[.d (.int .i64 0), .d (.int .i64 0), .d (.int .i64 0), .d (.int .i64 0), .d (.bool false), .d (.bool false), .d (.bool false), .d (.sl true [])]])])) fun v1 H2 => frzLK [a0] H2 fun l6 H7 => γ 68 l6 H7 fun v4 H5 => ifA v4 (drA true (optA (ldV true 8 v1 H5) fun v8 => noRsA (aggL v8) (stepK (stoA true 8 v1 v8 H5) H5 fun v9 H10 => optA (ldV true 8 v1 H10) fun v11 => retF [.d (.int .i64 0), v11, .d (.int .i64 7)] H10 K))) (optA (lenSl a1) fun v12 => optA (intA .gtr v12 (.d (.int .i64 64))) fun v13 => ifA v13 (drA true (optA (ldV true 8 v1 H5) fun v14 => noRsA (aggL v14) (stepK (stoA true 8 v1 v14 H5) H5 fun v15 H16 => optA (ldV true 8 v1 H16) fun v17 => retF [.d (.int .i64 0), v17, .d (.int .i64 2)] H16 K))) (frzLK [a2, .d (.int .i64 1), .d (.int .i64 8)] H5 fun l20 H21 => γ 46 l20 H21 fun v18 H19 => optA (unA .not v18) fun v22 => ifA v22 (drA true (optA (ldV true 8 v1 H19) fun v23 => noRsA (aggL v23) (stepK (stoA true 8 v1 v23 H19) H19 fun v24 H25 => optA (ldV true 8 v1 H25) fun v26 => retF [.d (.int .i64 0), v26, .d (.int .i64 2)] H25 K))) (frzLK [a4, .d (.int .i64 1), .d (.int .i64 255)] H19 fun l29 H30 => γ 46 l29 H30 fun v27 H28 => optA (unA .not v27) fun v31 => ifA v31 (drA true (optA (ldV true 8 v1 H28) fun v32 => noRsA (aggL v32) (stepK (stoA true 8 v1 v32 H28) H28 fun v33 H34 => optA (ldV true 8 v1 H34) fun v35 => retF [.d (.int .i64 0), v35, .d (.int .i64 2)] H34 K))) (optA (nilCkA a0) fun v36 => optA (fieldA ti73 v36 2) fun v37 => optA (ldV false 1 v37 H28) fun v38 => optA (lenMp v38 H28) fun v39 => optA (intA .eql v39 (.d (.int .i64 100))) fun v40 => ifA v40 (drA true (optA (ldV true 8 v1 H28) fun v41 => noRsA (aggL v41) (stepK (stoA true 8 v1 v41 H28) H28 fun v42 H43 => optA (ldV true 8 v1 H43) fun v44 => retF [.d (.int .i64 0), v44, .d (.int .i64 4)] H43 K))) (loopA (fun X45 l46 H47 => drA true (optA (nilCkA (l46.getD 0 .junk)) fun v48 => optA (fieldA ti73 v48 2) fun v49 => optA (ldV false 1 v49 H47) fun v50 => optA (nilCkA (l46.getD 0 .junk)) fun v51 => optA (fieldA ti73 v51 1) fun v52 => optA (ldV false 1 v52 H47) fun v53 => optA (lookKA Try.prog 3 v53 (fun kk => lookA .nilptr v50 kk false H47)) fun v54 => optA (nilA 3 .neq v54 .nilptr) fun v55 => ifA v55 (optA (nilCkA (l46.getD 0 .junk)) fun v56 => optA (fieldA ti73 v56 1) fun v57 => optA (ldV false 1 v57 H47) fun v58 => optA (intA .add v58 (.d (.int .i64 1))) fun v59 => optA (intA .rem v59 (.d (.int .i64 65536))) fun v60 => optA (nilCkA (l46.getD 0 .junk)) fun v61 => optA (fieldA ti73 v61 1) fun v62 => stepK (stoA false 1 v62 v60 H47) H47 fun v63 H64 => X45 [l46.getD 0 .junk, l46.getD 1 .junk, l46.getD 2 .junk, l46.getD 3 .junk, l46.getD 4 .junk, l46.getD 5 .junk] H64) (optA (nilCkA (l46.getD 0 .junk)) fun v65 => optA (fieldA ti73 v65 1) fun v66 => optA (ldV false 1 v66 H47) fun v67 => optA (intA .add v67 (.d (.int .i64 1))) fun v68 => optA (intA .rem v68 (.d (.int .i64 65536))) fun v69 => optA (nilCkA (l46.getD 0 .junk)) fun v70 => optA (fieldA ti73 v70 1) fun v71 => stepK (stoA false 1 v71 v69 H47) H47 fun v72 H73 => drA true (noRsA (aggL (l46.getD 1 .junk)) (frzLK [l46.getD 1 .junk] H73 fun l75 H77 => ∃ r76, γ 69 l75 H77 (fun v H2 => v = r76 ∧ AHeap.le H77 H2) ∧ (optA (intA .shl (.d (.int .i64 1)) (l46.getD 2 .junk)) fun v78 => optA (intA .sub v78 (.d (.int .i64 1))) fun v79 => noRsA (aggL r76) (noRsA (aggL (l46.getD 3 .junk)) (noRsA (aggL (l46.getD 4 .junk)) (noRsA (aggL (.d (.int .i64 1))) (noRsA (aggL v79) (stepK (bdA Try.prog ti129 [0, 1, 2, 3, 4] [r76, l46.getD 3 .junk, l46.getD 4 .junk, .d (.int .i64 1), v79] H77) H77 fun v80 H81 => newK H81 (fun n84 => boxA v80 n84) fun v82 H83 => optA (nilCkA (l46.getD 0 .junk)) fun v85 => optA (fieldA ti73 v85 2) fun v86 => optA (ldV false 1 v86 H83) fun v87 => stepK (muA Try.prog 3 v87 v67 v82 H83) H83 fun v88 H89 => frzLK [v82, v67] H89 fun l92 H93 => γ 70 l92 H93 fun v90 H91 => stepK (stoA true 8 (l46.getD 5 .junk) v90 H91) H91 fun v94 H95 => optA (ldV true 8 (l46.getD 5 .junk) H95) fun v96 => retF [v67, v96, .d (.int .i64 0)] H95 K))))))))))) [a0, a1, a2, a3, a4, v1] H28)))))
noncomputable def r30_0 : List Oper := regOps Try.f30 0
noncomputable def r30_1 : List Oper := regOps Try.f30 1
noncomputable def r30_2 : List Oper := regOps Try.f30 2
noncomputable def r30_3 : List Oper := regOps Try.f30 3
noncomputable def r30_4 : List Oper := regOps Try.f30 4
noncomputable def r30_5 : List Oper := regOps Try.f30 5
noncomputable def r30_6 : List Oper := regOps Try.f30 6
noncomputable def r30_7 : List Oper := regOps Try.f30 7
noncomputable def r30_8 : List Oper := regOps Try.f30 8
noncomputable def r30_9 : List Oper := regOps Try.f30 9
noncomputable def r30_10 : List Oper := regOps Try.f30 10
noncomputable def r30_11 : List Oper := regOps Try.f30 11
noncomputable def r30_12 : List Oper := regOps Try.f30 12
noncomputable def r30_13 : List Oper := regOps Try.f30 13
noncomputable def c30 : Code := (.seq (.region 0 (opArr r30_0 3) false) (.seq (.block 0 (.seq (.region 1 (opArr r30_1 3) false) (.cond (.tmp 14) (.seq (.region 2 (opArr r30_2 4) true) .ret) (.seq (.region 3 (opArr r30_3 14) false) (.cond (.tmp 18) (.seq (.region 4 (opArr r30_4 4) true) .ret) (.seq (.region 5 (opArr r30_5 7) false) (.cond (.tmp 33) (.seq (.region 6 (opArr r30_6 4) true) .ret) .skip))))))) (.seq (.block 1 (.loop (.seq (.seq (.region 7 (opArr r30_7 10) true) (.cond (.tmp 50) .skip (.exit 1))) (.block 2 (.region 8 (opArr r30_8 10) false))))) (.seq (.region 9 (opArr r30_9 5) false) (.seq (.region 10 (opArr r30_10 7) false) (.seq (.region 11 (opArr r30_11 10) true) (.seq (.region 12 (opArr r30_12 7) false) (.seq (.region 13 (opArr r30_13 7) false) .ret))))))))
theorem c30_eq : Try.f30.body = some c30 := by kernel_rfl
theorem S30_eq (γ : Calld) (a0 a1 a2 a3 a4 : AV) (H : AHeap) (K : AV → AHeap → Prop) : execC Try.prog γ pol30 Try.f30 c30 [a0, a1, a2, a3, a4] H K = S30 γ a0 a1 a2 a3 a4 H K := by kernel_rfl
theorem C30 {a0 a1 a2 a3 a4 : AV} {H : AHeap} {K : AV → AHeap → Prop} (h : S30 (CallsA Try.prog) a0 a1 a2 a3 a4 H K) : CallsA Try.prog 30 [a0, a1, a2, a3, a4] H K :=
 calls_of Try.func30 (ne_of_beq_false (by kernel_rfl)) c30_eq (by kernel_rfl) (by rw [S30_eq]; exact h)
def pol31 : Pol := { lend := fun _ => true, keep := [], frz := fun _ => [], perm := fun r => if r = 5 then [0, 1, 2, 3, 4, 5, 6, 7] else if r = 11 then [0, 1, 2, 3, 4, 5, 6, 7, 8, 9, 10, 11, 12] else [], bf := fun r => if r = 5 then [0, 1, 3, 7, 0, 16, 63, 127] else if r = 11 then [0, 1, 3, 7, 15, 31, 63, 7, 135, 391, 903, 2047, 4095] else [], ret := true }
def S31 (γ : Calld) (a0 a1 : AV) (H : AHeap) (K : AV → AHeap → Prop) : Prop :=
 newK H (fun n3 => boxA a1 n3) fun v1 H2 => frzLK [a0] H2 fun l6 H7 => γ 68 l6 H7 fun v4 H5 => ifA v4 (retF [.d (.sl true []), .d (.int .i64 7)] H5 K) (optA (ldV true 8 v1 H5) fun v8 => frzLK [v8] H5 fun l11 H12 => γ 11 l11 H12 fun v9 H10 => optA (unA .not v9) fun v13 => ifA v13 (retF [.d (.sl true []), .d (.int .i64 2)] H10 K) (drA true (optA (nilCkA a0) fun v14 => optA (fieldA ti73 v14 2) fun v15 => optA (ldV false 1 v15 H10) fun v16 => optA (fieldA ti24 v1 1) fun v17 => optA (ldV false 1 v17 H10) fun v18 => optA (lookKA Try.prog 3 v18 (fun kk => lookA .nilptr v16 kk false H10)) fun v19 => optA (fieldA ti24 v1 0) fun v20 => optA (ldV false 1 v20 H10) fun v21 => optA (intA .neq v21 (.d (.int .i64 1))) fun v22 => ifA v22 (retF [.d (.sl true []), .d (.int .i64 0)] H10 K) (optA (nilA 3 .eql v19 .nilptr) fun v23 => ifA v23 (retF [.d (.sl true []), .d (.int .i64 0)] H10 K) (optA (nilCkA v19) fun v24 => optA (fieldA ti129 v24 3) fun v25 => optA (ldV false 1 v25 H10) fun v26 => optA (intA .eql v26 (.d (.int .i64 3))) fun v27 => ifA v27 (retF [.d (.sl true []), .d (.int .i64 0)] H10 K) (optA (nilCkA v19) fun v28 => optA (fieldA ti129 v28 3) fun v29 => optA (ldV false 1 v29 H10) fun v30 => optA (intA .eql v30 (.d (.int .i64 1))) fun v31 => ifA v31 (optA (ldV true 8 v1 H10) fun v32 => frzLK [v19, v32] H10 fun l35 H36 => γ 71 l35 H36 fun v33 H34 => optA (nilCkA v19) fun v37 => optA (fieldA ti129 v37 4) fun v38 => optA (ldV false 1 v38 H34) fun v39 => optA (intA .neq v39 (.d (.int .i64 0))) fun v40 => ifA v40 (drA true (optA (fieldA ti24 v1 6) fun v41 => optA (ldV false 1 v41 H34) fun v42 => ifA v42 (optA (nilCkA v19) fun v43 => optA (fieldA ti129 v43 5) fun v44 => optA (ldV false 1 v44 H34) fun v45 => optA (nilCkA v19) fun v46 => optA (fieldA ti129 v46 2) fun v47 => optA (ldV false 1 v47 H34) fun v48 => optA (intA .lss v45 v48) fun v49 => ifA v49 (optA (fieldA ti24 v1 1) fun v50 => optA (ldV false 1 v50 H34) fun v51 => frzLK [v19, v51] H34 fun l54 H55 => γ 70 l54 H55 fun v52 H53 => newK H53 (fun n58 => bsA ti24 1 [0] [v52] H53 n58) fun v56 H57 => retF [v56, .d (.int .i64 0)] H57 K) (retF [.d (.sl true []), .d (.int .i64 0)] H34 K)) (retF [.d (.sl true []), .d (.int .i64 0)] H34 K))) (optA (nilCkA v19) fun v59 => optA (fieldA ti129 v59 3) fun v60 => stepK (stoA false 1 v60 (.d (.int .i64 2)) H34) H34 fun v61 H62 => optA (nilCkA v19) fun v63 => optA (fieldA ti129 v63 1) fun v64 => optA (ldV false 1 v64 H62) fun v65 => ifA v65 (optA (fieldA ti24 v1 1) fun v66 => optA (ldV false 1 v66 H62) fun v67 => stepK (bdA Try.prog ti24 [0, 1] [.d (.int .i64 2), v67] H62) H62 fun v68 H69 => newK H69 (fun n72 => bsA ti24 1 [0] [v68] H69 n72) fun v70 H71 => retF [v70, .d (.int .i64 0)] H71 K) (retF [.d (.sl true []), .d (.int .i64 0)] H62 K))) (optA (nilCkA v19) fun v73 => optA (fieldA ti129 v73 1) fun v74 => optA (ldV false 1 v74 H10) fun v75 => ifA v75 (optA (fieldA ti24 v1 1) fun v76 => optA (ldV false 1 v76 H10) fun v77 => stepK (bdA Try.prog ti24 [0, 1] [.d (.int .i64 2), v77] H10) H10 fun v78 H79 => newK H79 (fun n82 => bsA ti24 1 [0] [v78] H79 n82) fun v80 H81 => retF [v80, .d (.int .i64 0)] H81 K) (retF [.d (.sl true []), .d (.int .i64 0)] H10 K))))))))
noncomputable def r31_0 : List Oper := regOps Try.f31 0
noncomputable def r31_1 : List Oper := regOps Try.f31 1
noncomputable def r31_2 : List Oper := regOps Try.f31 2
noncomputable def r31_3 : List Oper := regOps Try.f31 3
noncomputable def r31_4 : List Oper := regOps Try.f31 4
noncomputable def r31_5 : List Oper := regOps Try.f31 5
noncomputable def r31_6 : List Oper := regOps Try.f31 6
noncomputable def r31_7 : List Oper := regOps Try.f31 7
noncomputable def r31_8 : List Oper := regOps Try.f31 8
noncomputable def r31_9 : List Oper := regOps Try.f31 9
noncomputable def r31_10 : List Oper := regOps Try.f31 10
noncomputable def r31_11 : List Oper := regOps Try.f31 11
noncomputable def r31_12 : List Oper := regOps Try.f31 12
noncomputable def r31_13 : List Oper := regOps Try.f31 13
noncomputable def r31_14 : List Oper := regOps Try.f31 14
noncomputable def r31_15 : List Oper := regOps Try.f31 15
noncomputable def r31_16 : List Oper := regOps Try.f31 16
noncomputable def r31_17 : List Oper := regOps Try.f31 17
noncomputable def c31 : Code := (.seq (.region 0 (opArr r31_0 3) false) (.seq (.block 0 (.seq (.region 1 (opArr r31_1 3) false) (.cond (.tmp 7) (.seq (.region 2 (opArr r31_2 2) false) .ret) (.seq (.region 3 (opArr r31_3 4) false) (.cond (.tmp 10) (.seq (.region 4 (opArr r31_4 2) false) .ret) .skip))))) (.seq (.region 5 (opArr r31_5 8) true) (.seq (.seq (.region 6 (opArr r31_6 14) false) (.cond (.tmp 34) (.seq (.region 7 (opArr r31_7 2) false) .ret) .skip)) (.seq (.seq (.region 8 (opArr r31_8 5) false) (.cond (.tmp 39) (.seq (.region 9 (opArr r31_9 3) false) (.seq (.seq (.region 10 (opArr r31_10 5) false) (.cond (.tmp 47) (.seq (.seq (.region 11 (opArr r31_11 13) true) (.cond (.tmp 60) (.seq (.region 12 (opArr r31_12 7) false) .ret) .skip)) (.seq (.region 13 (opArr r31_13 2) false) .ret)) .skip)) (.region 14 (opArr r31_14 4) false))) .skip)) (.seq (.seq (.region 15 (opArr r31_15 4) false) (.cond (.tmp 72) (.seq (.region 16 (opArr r31_16 6) false) .ret) .skip)) (.seq (.region 17 (opArr r31_17 2) false) .ret)))))))
theorem c31_eq : Try.f31.body = some c31 := by kernel_rfl
theorem S31_eq (γ : Calld) (a0 a1 : AV) (H : AHeap) (K : AV → AHeap → Prop) : execC Try.prog γ pol31 Try.f31 c31 [a0, a1] H K = S31 γ a0 a1 H K := by kernel_rfl
theorem C31 {a0 a1 : AV} {H : AHeap} {K : AV → AHeap → Prop} (h : S31 (CallsA Try.prog) a0 a1 H K) : CallsA Try.prog 31 [a0, a1] H K :=
 calls_of Try.func31 (ne_of_beq_false (by kernel_rfl)) c31_eq (by kernel_rfl) (by rw [S31_eq]; exact h)
def pol33 : Pol := { lend := fun _ => true, keep := [6, 7, 27, 28], frz := fun _ => [], perm := fun r => [], bf := fun r => [], ret := true }
def S33 (γ : Calld) (a0 a1 : AV) (H : AHeap) (K : AV → AHeap → Prop) : Prop :=
 frzLK [a0] H fun l3 H4 => γ 68 l3 H4 fun v1 H2 => ifA v1 (retF [.d (.sl true []), .d (.int .i64 7)] H2 K) (frzLK [a0, a1] H2 fun l7 H8 => γ 35 l7 H8 fun v5 H6 => optA (intA .neq v5 (.d (.int .i64 2))) fun v9 => ifA v9 (retF [.d (.sl true []), .d (.int .i64 5)] H6 K) (optA (nilCkA a0) fun v10 => optA (fieldA ti73 v10 2) fun v11 => optA (ldV false 1 v11 H6) fun v12 => optA (lookKA Try.prog 3 a1 (fun kk => lookA .nilptr v12 kk false H6)) fun v13 => optA (nilCkA v13) fun v14 => optA (fieldA ti129 v14 8) fun v15 => optA (ldV true 8 v15 H6) fun v16 => loopA (fun X17 l18 H19 => optA (intA .lss (l18.getD 3 .junk) (.d (.int .i64 8))) fun v20 => ifA v20 (optA (indexA ti108 ti4 (l18.getD 2 .junk) (l18.getD 3 .junk)) fun v21 => ifA v21 (optA (nilCkA (l18.getD 1 .junk)) fun v22 => optA (fieldA ti129 v22 7) fun v23 => optA (indexAddrA ti109 1 v23 (l18.getD 3 .junk)) fun v24 => optA (ldV false 1 v24 H19) fun v25 => frzLK [v25] H19 fun l28 H29 => γ 69 l28 H29 fun v26 H27 => newK H27 (fun n32 => bsA ti22 1 [0] [v26] H27 n32) fun v30 H31 => newK H31 (fun n35 => apA 1 24 (l18.getD 0 .junk) v30 H31 n35) fun v33 H34 => optA (intA .add (l18.getD 3 .junk) (.d (.int .i64 1))) fun v36 => X17 [v33, l18.getD 1 .junk, l18.getD 2 .junk, v36] H34) (optA (intA .add (l18.getD 3 .junk) (.d (.int .i64 1))) fun v37 => X17 [l18.getD 0 .junk, l18.getD 1 .junk, l18.getD 2 .junk, v37] H19)) (retF [l18.getD 0 .junk, .d (.int .i64 0)] H19 K)) [.d (.sl true []), v13, v16, .d (.int .i64 0)] H6))
noncomputable def r33_0 : List Oper := regOps Try.f33 0
noncomputable def r33_1 : List Oper := regOps Try.f33 1
noncomputable def r33_2 : List Oper := regOps Try.f33 2
noncomputable def r33_3 : List Oper := regOps Try.f33 3
noncomputable def r33_4 : List Oper := regOps Try.f33 4
noncomputable def r33_5 : List Oper := regOps Try.f33 5
noncomputable def r33_6 : List Oper := regOps Try.f33 6
noncomputable def r33_7 : List Oper := regOps Try.f33 7
noncomputable def r33_8 : List Oper := regOps Try.f33 8
noncomputable def r33_9 : List Oper := regOps Try.f33 9
noncomputable def r33_10 : List Oper := regOps Try.f33 10
noncomputable def r33_11 : List Oper := regOps Try.f33 11
noncomputable def r33_12 : List Oper := regOps Try.f33 12
noncomputable def r33_13 : List Oper := regOps Try.f33 13
noncomputable def c33 : Code := (.seq (.region 0 (opArr r33_0 2) false) (.seq (.block 0 (.seq (.region 1 (opArr r33_1 3) false) (.cond (.tmp 10) (.seq (.region 2 (opArr r33_2 2) false) .ret) (.seq (.region 3 (opArr r33_3 5) false) (.cond (.tmp 13) (.seq (.region 4 (opArr r33_4 2) false) .ret) .skip))))) (.seq (.region 5 (opArr r33_5 1) false) (.seq (.region 6 (opArr r33_6 7) false) (.seq (.seq (.region 7 (opArr r33_7 5) false) (.block 1 (.loop (.seq (.region 8 (opArr r33_8 1) false) (.seq (.cond (.tmp 29) .skip (.exit 1)) (.seq (.block 2 (.seq (.region 9 (opArr r33_9 4) false) (.seq (.region 10 (opArr r33_10 1) false) (.cond (.tmp 32) (.region 11 (opArr r33_11 11) false) .skip)))) (.region 12 (opArr r33_12 2) false))))))) (.seq (.region 13 (opArr r33_13 3) false) .ret))))))
theorem c33_eq : Try.f33.body = some c33 := by kernel_rfl
theorem S33_eq (γ : Calld) (a0 a1 : AV) (H : AHeap) (K : AV → AHeap → Prop) : execC Try.prog γ pol33 Try.f33 c33 [a0, a1] H K = S33 γ a0 a1 H K := by kernel_rfl
theorem C33 {a0 a1 : AV} {H : AHeap} {K : AV → AHeap → Prop} (h : S33 (CallsA Try.prog) a0 a1 H K) : CallsA Try.prog 33 [a0, a1] H K :=
 calls_of Try.func33 (ne_of_beq_false (by kernel_rfl)) c33_eq (by kernel_rfl) (by rw [S33_eq]; exact h)
def pol35 : Pol := { lend := fun _ => true, keep := [], frz := fun _ => [], perm := fun r => [], bf := fun r => [], ret := true }
def S35 (γ : Calld) (a0 a1 : AV) (H : AHeap) (K : AV → AHeap → Prop) : Prop :=
 frzLK [a0] H fun l3 H4 => γ 68 l3 H4 fun v1 H2 => ifA v1 (retF [.d (.int .i64 0)] H2 K) (optA (nilCkA a0) fun v5 => optA (fieldA ti73 v5 2) fun v6 => optA (ldV false 1 v6 H2) fun v7 => optA (lookKA Try.prog 3 a1 (fun kk => lookA .nilptr v7 kk false H2)) fun v8 => optA (nilA 3 .eql v8 .nilptr) fun v9 => ifA v9 (retF [.d (.int .i64 0)] H2 K) (optA (nilCkA a0) fun v10 => optA (fieldA ti73 v10 2) fun v11 => optA (ldV false 1 v11 H2) fun v12 => optA (lookKA Try.prog 3 a1 (fun kk => lookA .nilptr v12 kk false H2)) fun v13 => optA (nilCkA v13) fun v14 => optA (fieldA ti129 v14 3) fun v15 => optA (ldV false 1 v15 H2) fun v16 => retF [v16] H2 K))
noncomputable def r35_0 : List Oper := regOps Try.f35 0
noncomputable def r35_1 : List Oper := regOps Try.f35 1
noncomputable def r35_2 : List Oper := regOps Try.f35 2
noncomputable def r35_3 : List Oper := regOps Try.f35 3
noncomputable def c35 : Code := (.seq (.region 0 (opArr r35_0 1) false) (.seq (.seq (.region 1 (opArr r35_1 11) false) (.cond (.tmp 15) (.seq (.region 2 (opArr r35_2 1) false) .ret) .skip)) (.seq (.region 3 (opArr r35_3 10) false) .ret)))
theorem c35_eq : Try.f35.body = some c35 := by kernel_rfl
theorem S35_eq (γ : Calld) (a0 a1 : AV) (H : AHeap) (K : AV → AHeap → Prop) : execC Try.prog γ pol35 Try.f35 c35 [a0, a1] H K = S35 γ a0 a1 H K := by kernel_rfl
theorem C35 {a0 a1 : AV} {H : AHeap} {K : AV → AHeap → Prop} (h : S35 (CallsA Try.prog) a0 a1 H K) : CallsA Try.prog 35 [a0, a1] H K :=
 calls_of Try.func35 (ne_of_beq_false (by kernel_rfl)) c35_eq (by kernel_rfl) (by rw [S35_eq]; exact h)
def pol46 : Pol := { lend := fun _ => true, keep := [], frz := fun _ => [], perm := fun r => [], bf := fun r => [], ret := true }
def S46 (γ : Calld) (a0 a1 a2 : AV) (H : AHeap) (K : AV → AHeap → Prop) : Prop :=
 optA (intA .geq a0 a1) fun v1 => ifA v1 (optA (intA .leq a0 a2) fun v2 => retF [v2] H K) (retF [.d (.bool false)] H K)
noncomputable def r46_0 : List Oper := regOps Try.f46 0
noncomputable def r46_1 : List Oper := regOps Try.f46 1
noncomputable def c46 : Code := (.seq (.region 0 (opArr r46_0 1) false) (.seq (.region 1 (opArr r46_1 9) false) .ret))
theorem c46_eq : Try.f46.body = some c46 := by kernel_rfl
theorem S46_eq (γ : Calld) (a0 a1 a2 : AV) (H : AHeap) (K : AV → AHeap → Prop) : execC Try.prog γ pol46 Try.f46 c46 [a0, a1, a2] H K = S46 γ a0 a1 a2 H K := by kernel_rfl
theorem C46 {a0 a1 a2 : AV} {H : AHeap} {K : AV → AHeap → Prop} (h : S46 (CallsA Try.prog) a0 a1 a2 H K) : CallsA Try.prog 46 [a0, a1, a2] H K :=
 calls_of Try.func46 (ne_of_beq_false (by kernel_rfl)) c46_eq (by kernel_rfl) (by rw [S46_eq]; exact h)
def pol68 : Pol := { lend := fun _ => true, keep := [], frz := fun _ => [], perm := fun r => [], bf := fun r => [], ret := true }
def S68 (γ : Calld) (a0 : AV) (H : AHeap) (K : AV → AHeap → Prop) : Prop :=
 optA (nilA 3 .eql a0 .nilptr) fun v1 => ifA v1 (retF [.d (.bool true)] H K) (optA (nilCkA a0) fun v2 => optA (fieldA ti73 v2 0) fun v3 => optA (ldV false 1 v3 H) fun v4 => optA (unA .not v4) fun v5 => retF [v5] H K)
noncomputable def r68_0 : List Oper := regOps Try.f68 0
noncomputable def r68_1 : List Oper := regOps Try.f68 1
noncomputable def c68 : Code := (.seq (.region 0 (opArr r68_0 1) false) (.seq (.region 1 (opArr r68_1 10) false) .ret))
theorem c68_eq : Try.f68.body = some c68 := by kernel_rfl
theorem S68_eq (γ : Calld) (a0 : AV) (H : AHeap) (K : AV → AHeap → Prop) : execC Try.prog γ pol68 Try.f68 c68 [a0] H K = S68 γ a0 H K := by kernel_rfl
theorem C68 {a0 : AV} {H : AHeap} {K : AV → AHeap → Prop} (h : S68 (CallsA Try.prog) a0 H K) : CallsA Try.prog 68 [a0] H K :=
 calls_of Try.func68 (ne_of_beq_false (by kernel_rfl)) c68_eq (by kernel_rfl) (by rw [S68_eq]; exact h)
def pol69 : Pol := { lend := fun _ => true, keep := [], frz := fun _ => [], perm := fun r => [], bf := fun r => [], ret := true }
def S69 (γ : Calld) (a0 : AV) (H : AHeap) (K : AV → AHeap → Prop) : Prop :=
 optA (nilA 0 .eql a0 (.d (.sl true []))) fun v1 => ifA v1 (retF [.d (.sl true [])] H K) (newK H (fun n4 => bsA ti5 0 [] [] H n4) fun v2 H3 => newK H3 (fun n7 => apA 1 1 v2 a0 H3 n7) fun v5 H6 => retF [v5] H6 K)
noncomputable def r69_0 : List Oper := regOps Try.f69 0
noncomputable def r69_1 : List Oper := regOps Try.f69 1
noncomputable def r69_2 : List Oper := regOps Try.f69 2
noncomputable def r69_3 : List Oper := regOps Try.f69 3
noncomputable def c69 : Code := (.seq (.region 0 (opArr r69_0 1) false) (.seq (.seq (.region 1 (opArr r69_1 2) false) (.cond (.tmp 4) (.seq (.region 2 (opArr r69_2 1) false) .ret) .skip)) (.seq (.region 3 (opArr r69_3 4) false) .ret)))
theorem c69_eq : Try.f69.body = some c69 := by kernel_rfl
theorem S69_eq (γ : Calld) (a0 : AV) (H : AHeap) (K : AV → AHeap → Prop) : execC Try.prog γ pol69 Try.f69 c69 [a0] H K = S69 γ a0 H K := by kernel_rfl
theorem C69 {a0 : AV} {H : AHeap} {K : AV → AHeap → Prop} (h : S69 (CallsA Try.prog) a0 H K) : CallsA Try.prog 69 [a0] H K :=
 calls_of Try.func69 (ne_of_beq_false (by kernel_rfl)) c69_eq (by kernel_rfl) (by rw [S69_eq]; exact h)
def pol70 : Pol := { lend := fun _ => true, keep := [], frz := fun _ => [], perm := fun r => if r = 3 then [0, 1, 2, 3, 4, 5, 6, 7, 8, 9, 10, 11, 12, 13, 14, 15] else [], bf := fun r => if r = 3 then [0, 0, 2, 6, 14, 0, 32, 96, 224, 0, 512, 1536, 3584, 7680, 16383, 32767] else [], ret := true }
def S70 (γ : Calld) (a0 a1 : AV) (H : AHeap) (K : AV → AHeap → Prop) : Prop :=
 newK H (fun n3 => some (.ptr n3 0 0 0, [(n3, .mem 0 0 8 [[.d (.int .i64 0), .d (.int .i64 0), .d (.int .i64 0), .d (.int .i64 0), .d (.bool false), .d (.bool false), .d (.bool false), .d (.sl true [])]])])) fun v1 H2 => optA (nilCkA a0) fun v4 => optA (fieldA ti129 v4 5) fun v5 => optA (ldV false 1 v5 H2) fun v6 => optA (intA .add v6 (.d (.int .i64 1))) fun v7 => optA (nilCkA a0) fun v8 => optA (fieldA ti129 v8 5) fun v9 => stepK (stoA false 1 v9 v7 H2) H2 fun v10 H11 => optA (nilCkA a0) fun v12 => optA (fieldA ti129 v12 6) fun v13 => stepK (stoA false 1 v13 (.d (.int .i64 0)) H11) H11 fun v14 H15 => drA true (optA (nilCkA a0) fun v16 => optA (fieldA ti129 v16 4) fun v17 => optA (ldV false 1 v17 H15) fun v18 => optA (nilCkA a0) fun v19 => optA (fieldA ti129 v19 1) fun v20 => optA (ldV false 1 v20 H15) fun v21 => optA (nilCkA a0) fun v22 => optA (fieldA ti129 v22 0) fun v23 => optA (ldV false 1 v23 H15) fun v24 => apart (rsOf v24) v20 ∧ (apart (rsOf v24) v17 ∧ (noRsA (aggL v24) (frzLK [v24] H15 fun l26 H28 => ∃ r27, γ 69 l26 H28 (fun v H2 => v = r27 ∧ AHeap.le H28 H2) ∧ (noRsA (aggL (.d (.int .i64 0))) (noRsA (aggL a1) (noRsA (aggL v18) (noRsA (aggL v21) (noRsA (aggL r27) (stepK (bdA Try.prog ti24 [0, 1, 2, 4, 7] [.d (.int .i64 0), a1, v18, v21, r27] H28) H28 fun v29 H30 => noRsA (aggL v29) (stepK (stoA true 8 v1 v29 H30) H30 fun v31 H32 => optA (ldV true 8 v1 H32) fun v33 => retF [v33] H32 K)))))))))))
noncomputable def r70_0 : List Oper := regOps Try.f70 0
noncomputable def r70_1 : List Oper := regOps Try.f70 1
noncomputable def r70_2 : List Oper := regOps Try.f70 2
noncomputable def r70_3 : List Oper := regOps Try.f70 3
noncomputable def c70 : Code := (.seq (.region 0 (opArr r70_0 1) false) (.seq (.region 1 (opArr r70_1 8) false) (.seq (.region 2 (opArr r70_2 4) false) (.seq (.region 3 (opArr r70_3 16) true) .ret))))
theorem c70_eq : Try.f70.body = some c70 := by kernel_rfl
theorem S70_eq (γ : Calld) (a0 a1 : AV) (H : AHeap) (K : AV → AHeap → Prop) : execC Try.prog γ pol70 Try.f70 c70 [a0, a1] H K = S70 γ a0 a1 H K := by kernel_rfl
theorem C70 {a0 a1 : AV} {H : AHeap} {K : AV → AHeap → Prop} (h : S70 (CallsA Try.prog) a0 a1 H K) : CallsA Try.prog 70 [a0, a1] H K :=
 calls_of Try.func70 (ne_of_beq_false (by kernel_rfl)) c70_eq (by kernel_rfl) (by rw [S70_eq]; exact h)
def pol71 : Pol := { lend := fun _ => true, keep := [0, 4], frz := fun _ => [], perm := fun r => if r = 1 then [0, 1, 2, 3, 4, 5, 6, 7, 8] else if r = 2 then [0, 1, 2, 3, 4, 5, 6, 7, 8, 9, 10] else if r = 3 then [0, 1, 2, 3, 4, 5, 6, 7, 8, 9, 10, 11, 12, 13, 14, 15, 16] else if r = 8 then [0, 1, 2, 3, 4, 5, 6, 7, 8, 9] else if r = 9 then [0, 1, 2, 3, 4, 5, 6, 7, 8, 9, 10, 11] else [], bf := fun r => if r = 1 then [0, 1, 3, 7, 0, 16, 63, 127, 255] else if r = 2 then [0, 1, 3, 7, 0, 16, 48, 127, 255, 511, 1023] else if r = 3 then [0, 0, 2, 0, 0, 16, 0, 64, 192, 1, 513, 1991, 4039, 8, 8200, 32767, 65535] else if r = 8 then [0, 1, 3, 7, 0, 16, 63, 127, 255, 511] else if r = 9 then [0, 0, 0, 0, 1, 17, 51, 115, 4, 260, 1023, 2047] else [], ret := true }
def S71 (γ : Calld) (a0 a1 : AV) (H : AHeap) (K : AV → AHeap → Prop) : Prop :=
 newK H (fun n3 => boxA a1 n3) fun v1 H2 => drA true (optA (nilCkA a0) fun v4 => optA (fieldA ti129 v4 4) fun v5 => optA (ldV false 1 v5 H2) fun v6 => optA (fieldA ti24 v1 3) fun v7 => optA (ldV false 1 v7 H2) fun v8 => optA (intA .shr v6 v8) fun v9 => optA (intA .and v9 (.d (.int .i64 1))) fun v10 => optA (intA .eql v10 (.d (.int .i64 1))) fun v11 => ifA v11 (drA true (optA (nilCkA a0) fun v12 => optA (fieldA ti129 v12 4) fun v13 => optA (ldV false 1 v13 H2) fun v14 => optA (fieldA ti24 v1 3) fun v15 => optA (ldV false 1 v15 H2) fun v16 => optA (intA .shl (.d (.int .i64 1)) v16) fun v17 => optA (intA .andNot v14 v17) fun v18 => optA (nilCkA a0) fun v19 => optA (fieldA ti129 v19 4) fun v20 => noRsA (aggL v18) (stepK (stoA false 1 v20 v18 H2) H2 fun v21 H22 => drA true (optA (fieldA ti24 v1 3) fun v23 => optA (ldV false 1 v23 H22) fun v24 => optA (fieldA ti24 v1 3) fun v25 => optA (ldV false 1 v25 H22) fun v26 => optA (fieldA ti24 v1 7) fun v27 => optA (ldV false 1 v27 H22) fun v28 => apart (rsOf v28) v25 ∧ (apart (rsOf v28) v23 ∧ (noRsA (aggL v28) (frzLK [v28] H22 fun l30 H32 => ∃ r31, γ 69 l30 H32 (fun v H2 => v = r31 ∧ AHeap.le H32 H2) ∧ (optA (nilCkA a0) fun v33 => optA (fieldA ti129 v33 7) fun v34 => optA (indexAddrA ti109 1 v34 v24) fun v35 => apart v35 v25 ∧ (noRsA (aggL r31) (stepK (stoA false 1 v35 r31 H32) H32 fun v36 H37 => optA (nilCkA a0) fun v38 => optA (fieldA ti129 v38 8) fun v39 => optA (indexAddrA ti108 1 v39 v26) fun v40 => noRsA (aggL (.d (.bool true))) (stepK (stoA false 1 v40 (.d (.bool true)) H37) H37 fun v41 H42 => optA (fieldA ti24 v1 5) fun v43 => optA (ldV false 1 v43 H42) fun v44 => ifA v44 (optA (fieldA ti24 v1 3) fun v45 => optA (ldV false 1 v45 H42) fun v46 => optA (intA .add v46 (.d (.int .i64 1))) fun v47 => loopA (fun X48 l49 H50 => optA (intA .lss (l49.getD 1 .junk) (.d (.int .i64 8))) fun v51 => ifA v51 (drA true (optA (nilCkA (l49.getD 0 .junk)) fun v52 => optA (fieldA ti129 v52 4) fun v53 => optA (ldV false 1 v53 H50) fun v54 => optA (intA .shl (.d (.int .i64 1)) (l49.getD 1 .junk)) fun v55 => optA (intA .andNot v54 v55) fun v56 => optA (nilCkA (l49.getD 0 .junk)) fun v57 => optA (fieldA ti129 v57 4) fun v58 => noRsA (aggL v56) (stepK (stoA false 1 v58 v56 H50) H50 fun v59 H60 => drA true (optA (nilCkA (l49.getD 0 .junk)) fun v61 => optA (fieldA ti129 v61 7) fun v62 => optA (indexAddrA ti109 1 v62 (l49.getD 1 .junk)) fun v63 => noRsA (aggL (.d (.sl true []))) (stepK (stoA false 1 v63 (.d (.sl true [])) H60) H60 fun v64 H65 => optA (nilCkA (l49.getD 0 .junk)) fun v66 => optA (fieldA ti129 v66 8) fun v67 => optA (indexAddrA ti108 1 v67 (l49.getD 1 .junk)) fun v68 => noRsA (aggL (.d (.bool false))) (stepK (stoA false 1 v68 (.d (.bool false)) H65) H65 fun v69 H70 => optA (intA .add (l49.getD 1 .junk) (.d (.int .i64 1))) fun v71 => X48 [l49.getD 0 .junk, v71] H70)))))) (retF [] H50 K)) [a0, v47] H42) (retF [] H42 K)))))))))))) (optA (fieldA ti24 v1 5) fun v72 => optA (ldV false 1 v72 H2) fun v73 => ifA v73 (optA (fieldA ti24 v1 3) fun v74 => optA (ldV false 1 v74 H2) fun v75 => optA (intA .add v75 (.d (.int .i64 1))) fun v76 => loopA (fun X77 l78 H79 => optA (intA .lss (l78.getD 1 .junk) (.d (.int .i64 8))) fun v80 => ifA v80 (drA true (optA (nilCkA (l78.getD 0 .junk)) fun v81 => optA (fieldA ti129 v81 4) fun v82 => optA (ldV false 1 v82 H79) fun v83 => optA (intA .shl (.d (.int .i64 1)) (l78.getD 1 .junk)) fun v84 => optA (intA .andNot v83 v84) fun v85 => optA (nilCkA (l78.getD 0 .junk)) fun v86 => optA (fieldA ti129 v86 4) fun v87 => noRsA (aggL v85) (stepK (stoA false 1 v87 v85 H79) H79 fun v88 H89 => drA true (optA (nilCkA (l78.getD 0 .junk)) fun v90 => optA (fieldA ti129 v90 7) fun v91 => optA (indexAddrA ti109 1 v91 (l78.getD 1 .junk)) fun v92 => noRsA (aggL (.d (.sl true []))) (stepK (stoA false 1 v92 (.d (.sl true [])) H89) H89 fun v93 H94 => optA (nilCkA (l78.getD 0 .junk)) fun v95 => optA (fieldA ti129 v95 8) fun v96 => optA (indexAddrA ti108 1 v96 (l78.getD 1 .junk)) fun v97 => noRsA (aggL (.d (.bool false))) (stepK (stoA false 1 v97 (.d (.bool false)) H94) H94 fun v98 H99 => optA (intA .add (l78.getD 1 .junk) (.d (.int .i64 1))) fun v100 => X77 [l78.getD 0 .junk, v100] H99)))))) (retF [] H79 K)) [a0, v76] H2) (retF [] H2 K)))
noncomputable def r71_0 : List Oper := regOps Try.f71 0
noncomputable def r71_1 : List Oper := regOps Try.f71 1
noncomputable def r71_2 : List Oper := regOps Try.f71 2
noncomputable def r71_3 : List Oper := regOps Try.f71 3
noncomputable def r71_4 : List Oper := regOps Try.f71 4
noncomputable def r71_5 : List Oper := regOps Try.f71 5
noncomputable def r71_6 : List Oper := regOps Try.f71 6
noncomputable def r71_7 : List Oper := regOps Try.f71 7
noncomputable def r71_8 : List Oper := regOps Try.f71 8
noncomputable def r71_9 : List Oper := regOps Try.f71 9
noncomputable def c71 : Code := (.seq (.region 0 (opArr r71_0 1) false) (.seq (.seq (.region 1 (opArr r71_1 9) true) (.cond (.tmp 13) (.seq (.region 2 (opArr r71_2 11) true) (.region 3 (opArr r71_3 17) true)) .skip)) (.seq (.region 4 (opArr r71_4 2) false) (.cond (.tmp 40) (.seq (.region 5 (opArr r71_5 4) false) (.block 0 (.loop (.seq (.seq (.region 6 (opArr r71_6 2) false) (.cond (.tmp 45) .skip (.exit 0))) (.seq (.block 1 (.seq (.region 8 (opArr r71_7 10) true) (.region 9 (opArr r71_8 12) true))) (.region 7 (opArr r71_9 3) false)))))) .skip))))
theorem c71_eq : Try.f71.body = some c71 := by kernel_rfl
theorem S71_eq (γ : Calld) (a0 a1 : AV) (H : AHeap) (K : AV → AHeap → Prop) : execC Try.prog γ pol71 Try.f71 c71 [a0, a1] H K = S71 γ a0 a1 H K := by kernel_rfl
theorem C71 {a0 a1 : AV} {H : AHeap} {K : AV → AHeap → Prop} (h : S71 (CallsA Try.prog) a0 a1 H K) : CallsA Try.prog 71 [a0, a1] H K :=
 calls_of Try.func71 (ne_of_beq_false (by kernel_rfl)) c71_eq (by kernel_rfl) (by rw [S71_eq]; exact h)
def pol32 : Pol := { lend := fun _ => true, keep := [0, 4, 15, 16, 17], frz := fun _ => [], perm := fun r => if r = 12 then [0, 1, 2, 3, 4, 5, 6, 7, 8, 9] else [], bf := fun r => if r = 12 then [0, 1, 3, 7, 0, 16, 48, 112, 255, 511] else [], ret := true }
def S32 (γ : Calld) (a0 : AV) (H : AHeap) (K : AV → AHeap → Prop) : Prop :=
 frzLK [a0] H fun l3 H4 => γ 68 l3 H4 fun v1 H2 => ifA v1 (retF [.d (.sl true []), .d (.int .i64 7)] H2 K) (optA (nilCkA a0) fun v5 => optA (fieldA ti73 v5 2) fun v6 => optA (ldV false 1 v6 H2) fun v7 => frzLK [v7] H2 fun l10 H11 => γ 72 l10 H11 fun v8 H9 => frzLK [v8] H9 fun l14 H15 => γ 60 l14 H15 fun v12 H13 => optA (lenSl v12) fun v16 => loopA (fun X17 l18 H19 => optA (intA .lss (l18.getD 4 .junk) (l18.getD 3 .junk)) fun v20 => ifA v20 (optA (indexAddrA ti55 1 (l18.getD 2 .junk) (l18.getD 4 .junk)) fun v21 => optA (ldV false 1 v21 H19) fun v22 => optA (nilCkA (l18.getD 0 .junk)) fun v23 => optA (fieldA ti73 v23 2) fun v24 => optA (ldV false 1 v24 H19) fun v25 => optA (lookKA Try.prog 3 v22 (fun kk => lookA .nilptr v25 kk false H19)) fun v26 => optA (nilCkA v26) fun v27 => optA (fieldA ti129 v27 3) fun v28 => optA (ldV false 1 v28 H19) fun v29 => optA (intA .neq v29 (.d (.int .i64 1))) fun v30 => ifA v30 (optA (intA .add (l18.getD 4 .junk) (.d (.int .i64 1))) fun v31 => X17 [l18.getD 0 .junk, l18.getD 1 .junk, l18.getD 2 .junk, l18.getD 3 .junk, v31] H19) (optA (nilCkA v26) fun v32 => optA (fieldA ti129 v32 6) fun v33 => optA (ldV false 1 v33 H19) fun v34 => optA (intA .add v34 (.d (.int .i64 1))) fun v35 => optA (nilCkA v26) fun v36 => optA (fieldA ti129 v36 6) fun v37 => stepK (stoA false 1 v37 v35 H19) H19 fun v38 H39 => optA (nilCkA v26) fun v40 => optA (fieldA ti129 v40 6) fun v41 => optA (ldV false 1 v41 H39) fun v42 => optA (intA .lss v42 (.d (.int .i64 3))) fun v43 => ifA v43 (optA (intA .add (l18.getD 4 .junk) (.d (.int .i64 1))) fun v44 => X17 [l18.getD 0 .junk, l18.getD 1 .junk, l18.getD 2 .junk, l18.getD 3 .junk, v44] H39) (drA true (optA (nilCkA v26) fun v45 => optA (fieldA ti129 v45 5) fun v46 => optA (ldV false 1 v46 H39) fun v47 => optA (nilCkA v26) fun v48 => optA (fieldA ti129 v48 2) fun v49 => optA (ldV false 1 v49 H39) fun v50 => optA (intA .lss v47 v50) fun v51 => ifA v51 (frzLK [v26, v22] H39 fun l54 H55 => γ 70 l54 H55 fun v52 H53 => newK H53 (fun n58 => bsA ti24 1 [0] [v52] H53 n58) fun v56 H57 => newK H57 (fun n61 => apA 8 64 (l18.getD 1 .junk) v56 H57 n61) fun v59 H60 => optA (intA .add (l18.getD 4 .junk) (.d (.int .i64 1))) fun v62 => X17 [l18.getD 0 .junk, v59, l18.getD 2 .junk, l18.getD 3 .junk, v62] H60) (optA (nilCkA v26) fun v63 => optA (fieldA ti129 v63 3) fun v64 => stepK (stoA false 1 v64 (.d (.int .i64 3)) H39) H39 fun v65 H66 => optA (intA .add (l18.getD 4 .junk) (.d (.int .i64 1))) fun v67 => X17 [l18.getD 0 .junk, l18.getD 1 .junk, l18.getD 2 .junk, l18.getD 3 .junk, v67] H66))))) (retF [l18.getD 1 .junk, .d (.int .i64 0)] H19 K)) [a0, .d (.sl true []), v12, v16, .d (.int .i64 0)] H13)
noncomputable def r32_0 : List Oper := regOps Try.f32 0
noncomputable def r32_1 : List Oper := regOps Try.f32 1
noncomputable def r32_2 : List Oper := regOps Try.f32 2
noncomputable def r32_3 : List Oper := regOps Try.f32 3
noncomputable def r32_4 : List Oper := regOps Try.f32 4
noncomputable def r32_5 : List Oper := regOps Try.f32 5
noncomputable def r32_6 : List Oper := regOps Try.f32 6
noncomputable def r32_7 : List Oper := regOps Try.f32 7
noncomputable def r32_8 : List Oper := regOps Try.f32 8
noncomputable def r32_9 : List Oper := regOps Try.f32 9
noncomputable def r32_10 : List Oper := regOps Try.f32 10
noncomputable def r32_11 : List Oper := regOps Try.f32 11
noncomputable def r32_12 : List Oper := regOps Try.f32 12
noncomputable def r32_13 : List Oper := regOps Try.f32 13
noncomputable def r32_14 : List Oper := regOps Try.f32 14
noncomputable def r32_15 : List Oper := regOps Try.f32 15
noncomputable def c32 : Code := (.seq (.region 0 (opArr r32_0 2) false) (.seq (.seq (.region 1 (opArr r32_1 2) false) (.cond (.tmp 9) (.seq (.region 2 (opArr r32_2 2) false) .ret) .skip)) (.seq (.region 3 (opArr r32_3 1) false) (.seq (.seq (.region 4 (opArr r32_4 8) false) (.block 0 (.loop (.seq (.region 5 (opArr r32_5 1) false) (.seq (.cond (.tmp 18) .skip (.exit 0)) (.seq (.block 1 (.seq (.region 6 (opArr r32_6 3) false) (.seq (.region 7 (opArr r32_7 7) false) (.seq (.seq (.region 8 (opArr r32_8 5) false) (.cond (.tmp 31) (.exit 1) .skip)) (.seq (.region 9 (opArr r32_9 8) false) (.block 2 (.seq (.region 11 (opArr r32_10 6) false) (.cond (.tmp 42) .skip (.seq (.region 12 (opArr r32_11 10) true) (.cond (.tmp 48) (.region 13 (opArr r32_12 7) false) (.region 10 (opArr r32_13 4) false))))))))))) (.region 14 (opArr r32_14 2) false))))))) (.seq (.region 15 (opArr r32_15 3) false) .ret)))))
theorem c32_eq : Try.f32.body = some c32 := by kernel_rfl
theorem S32_eq (γ : Calld) (a0 : AV) (H : AHeap) (K : AV → AHeap → Prop) : execC Try.prog γ pol32 Try.f32 c32 [a0] H K = S32 γ a0 H K := by kernel_rfl
theorem C32 {a0 : AV} {H : AHeap} {K : AV → AHeap → Prop} (h : S32 (CallsA Try.prog) a0 H K) : CallsA Try.prog 32 [a0] H K :=
 calls_of Try.func32 (ne_of_beq_false (by kernel_rfl)) c32_eq (by kernel_rfl) (by rw [S32_eq]; exact h)
def pol36 : Pol := { lend := fun _ => true, keep := [], frz := fun _ => [], perm := fun r => [], bf := fun r => [], ret := true }
def S36 (γ : Calld) (a0 a1 : AV) (H : AHeap) (K : AV → AHeap → Prop) : Prop :=
 frzLK [a0] H fun l3 H4 => γ 68 l3 H4 fun v1 H2 => ifA v1 (retF [.d (.int .i64 7)] H2 K) (frzLK [a0, a1] H2 fun l7 H8 => γ 35 l7 H8 fun v5 H6 => optA (intA .neq v5 (.d (.int .i64 2))) fun v9 => ifA v9 (frzLK [a0, a1] H6 fun l12 H13 => γ 35 l12 H13 fun v10 H11 => optA (intA .neq v10 (.d (.int .i64 3))) fun v14 => ifA v14 (retF [.d (.int .i64 5)] H11 K) (optA (nilCkA a0) fun v15 => optA (fieldA ti73 v15 2) fun v16 => optA (ldV false 1 v16 H11) fun v17 => stepK (mdA Try.prog 3 v17 a1 H11) H11 fun v18 H19 => retF [.d (.int .i64 0)] H19 K)) (optA (nilCkA a0) fun v20 => optA (fieldA ti73 v20 2) fun v21 => optA (ldV false 1 v21 H6) fun v22 => stepK (mdA Try.prog 3 v22 a1 H6) H6 fun v23 H24 => retF [.d (.int .i64 0)] H24 K))
noncomputable def r36_0 : List Oper := regOps Try.f36 0
noncomputable def r36_1 : List Oper := regOps Try.f36 1
noncomputable def r36_2 : List Oper := regOps Try.f36 2
noncomputable def r36_3 : List Oper := regOps Try.f36 3
noncomputable def r36_4 : List Oper := regOps Try.f36 4
noncomputable def r36_5 : List Oper := regOps Try.f36 5
noncomputable def r36_6 : List Oper := regOps Try.f36 6
noncomputable def c36 : Code := (.seq (.region 0 (opArr r36_0 1) false) (.seq (.block 0 (.seq (.region 1 (opArr r36_1 3) false) (.cond (.tmp 5) (.seq (.region 2 (opArr r36_2 1) false) .ret) (.seq (.region 3 (opArr r36_3 11) false) (.cond (.tmp 8) (.seq (.region 4 (opArr r36_4 1) false) .ret) .skip))))) (.seq (.region 5 (opArr r36_5 6) false) (.seq (.region 6 (opArr r36_6 1) false) .ret))))
theorem c36_eq : Try.f36.body = some c36 := by kernel_rfl
theorem S36_eq (γ : Calld) (a0 a1 : AV) (H : AHeap) (K : AV → AHeap → Prop) : execC Try.prog γ pol36 Try.f36 c36 [a0, a1] H K = S36 γ a0 a1 H K := by kernel_rfl
theorem C36 {a0 a1 : AV} {H : AHeap} {K : AV → AHeap → Prop} (h : S36 (CallsA Try.prog) a0 a1 H K) : CallsA Try.prog 36 [a0, a1] H K :=
 calls_of Try.func36 (ne_of_beq_false (by kernel_rfl)) c36_eq (by kernel_rfl) (by rw [S36_eq]; exact h)
def pol40 : Pol := { lend := fun _ => true, keep := [0, 11], frz := fun _ => [], perm := fun r => [], bf := fun r => [], ret := true }
def S40 (γ : Calld) (a0 : AV) (H : AHeap) (K : AV → AHeap → Prop) : Prop :=
 frzLK [a0] H fun l3 H4 => γ 59 l3 H4 fun v1 H2 => ifA v1 (retF [.d (.int .i64 7)] H2 K) (optA (nilCkA a0) fun v5 => optA (fieldA ti89 v5 0) fun v6 => optA (ldV false 1 v6 H2) fun v7 => newK H2 (fun n10 => rgA v7 H2 n10) fun v8 H9 => loopA (fun X11 l12 H13 => nxA (l12.getD 1 .junk) H13 fun v14 H15 => optA (extractA v14 0) fun v16 => ifA v16 (optA (entA (l12.getD 1 .junk) H15) fun v17 => optA (extractA v17 0) fun v18 => optA (extractA v17 1) fun v19 => optA (nilCkA v19) fun v20 => optA (fieldA ti135 v20 0) fun v21 => optA (ldV false 1 v21 H15) fun v22 => optA (intA .eql v22 (.d (.int .i64 0))) fun v23 => ifA v23 (X11 [l12.getD 0 .junk, l12.getD 1 .junk] H15) (optA (nilCkA v19) fun v24 => optA (fieldA ti135 v24 3) fun v25 => optA (ldV false 1 v25 H15) fun v26 => optA (intA .add v26 (.d (.int .i64 1))) fun v27 => optA (nilCkA v19) fun v28 => optA (fieldA ti135 v28 3) fun v29 => stepK (stoA false 1 v29 v27 H15) H15 fun v30 H31 => optA (nilCkA v19) fun v32 => optA (fieldA ti135 v32 3) fun v33 => optA (ldV false 1 v33 H31) fun v34 => optA (intA .eql v34 (.d (.int .i64 30))) fun v35 => ifA v35 (optA (nilCkA (l12.getD 0 .junk)) fun v36 => optA (fieldA ti89 v36 0) fun v37 => optA (ldV false 1 v37 H31) fun v38 => stepK (mdA Try.prog 3 v38 v18 H31) H31 fun v39 H40 => X11 [l12.getD 0 .junk, l12.getD 1 .junk] H40) (X11 [l12.getD 0 .junk, l12.getD 1 .junk] H31))) (retF [.d (.int .i64 0)] H15 K)) [a0, v8] H9)
noncomputable def r40_0 : List Oper := regOps Try.f40 0
noncomputable def r40_1 : List Oper := regOps Try.f40 1
noncomputable def r40_2 : List Oper := regOps Try.f40 2
noncomputable def r40_3 : List Oper := regOps Try.f40 3
noncomputable def r40_4 : List Oper := regOps Try.f40 4
noncomputable def r40_5 : List Oper := regOps Try.f40 5
noncomputable def r40_6 : List Oper := regOps Try.f40 6
noncomputable def r40_7 : List Oper := regOps Try.f40 7
noncomputable def r40_8 : List Oper := regOps Try.f40 8
noncomputable def r40_9 : List Oper := regOps Try.f40 9
noncomputable def r40_10 : List Oper := regOps Try.f40 10
noncomputable def c40 : Code := (.seq (.region 0 (opArr r40_0 1) false) (.seq (.seq (.region 1 (opArr r40_1 2) false) (.cond (.tmp 6) (.seq (.region 2 (opArr r40_2 1) false) .ret) .skip)) (.seq (.seq (.region 3 (opArr r40_3 5) false) (.block 0 (.loop (.seq (.region 4 (opArr r40_4 2) false) (.seq (.cond (.tmp 13) .skip (.exit 0)) (.block 1 (.seq (.region 5 (opArr r40_5 5) false) (.seq (.seq (.region 6 (opArr r40_6 5) false) (.cond (.tmp 21) (.exit 1) .skip)) (.seq (.region 7 (opArr r40_7 8) false) (.seq (.region 8 (opArr r40_8 5) false) (.cond (.tmp 33) (.region 9 (opArr r40_9 6) false) .skip))))))))))) (.seq (.region 10 (opArr r40_10 1) false) .ret))))
theorem c40_eq : Try.f40.body = some c40 := by kernel_rfl
theorem S40_eq (γ : Calld) (a0 : AV) (H : AHeap) (K : AV → AHeap → Prop) : execC Try.prog γ pol40 Try.f40 c40 [a0] H K = S40 γ a0 H K := by kernel_rfl
theorem C40 {a0 : AV} {H : AHeap} {K : AV → AHeap → Prop} (h : S40 (CallsA Try.prog) a0 H K) : CallsA Try.prog 40 [a0] H K :=
 calls_of Try.func40 (ne_of_beq_false (by kernel_rfl)) c40_eq (by kernel_rfl) (by rw [S40_eq]; exact h)
def pol23 : Pol := { lend := fun _ => true, keep := [], frz := fun _ => [], perm := fun r => [], bf := fun r => [], ret := true }
def S23 (γ : Calld) (a0 : AV) (H : AHeap) (K : AV → AHeap → Prop) : Prop :=
 frzLK [a0] H fun l3 H4 => γ 59 l3 H4 fun v1 H2 => ifA v1 (retF [.d (.sl true [])] H2 K) (optA (nilCkA a0) fun v5 => optA (fieldA ti89 v5 0) fun v6 => optA (ldV false 1 v6 H2) fun v7 => frzLK [v7] H2 fun l10 H11 => γ 61 l10 H11 fun v8 H9 => frzLK [v8] H9 fun l14 H15 => γ 60 l14 H15 fun v12 H13 => retF [v12] H13 K)
noncomputable def r23_0 : List Oper := regOps Try.f23 0
noncomputable def r23_1 : List Oper := regOps Try.f23 1
noncomputable def r23_2 : List Oper := regOps Try.f23 2
noncomputable def r23_3 : List Oper := regOps Try.f23 3
noncomputable def c23 : Code := (.seq (.region 0 (opArr r23_0 1) false) (.seq (.seq (.region 1 (opArr r23_1 2) false) (.cond (.tmp 4) (.seq (.region 2 (opArr r23_2 1) false) .ret) .skip)) (.seq (.region 3 (opArr r23_3 7) false) .ret)))
theorem c23_eq : Try.f23.body = some c23 := by kernel_rfl
theorem S23_eq (γ : Calld) (a0 : AV) (H : AHeap) (K : AV → AHeap → Prop) : execC Try.prog γ pol23 Try.f23 c23 [a0] H K = S23 γ a0 H K := by kernel_rfl
theorem C23 {a0 : AV} {H : AHeap} {K : AV → AHeap → Prop} (h : S23 (CallsA Try.prog) a0 H K) : CallsA Try.prog 23 [a0] H K :=
 calls_of Try.func23 (ne_of_beq_false (by kernel_rfl)) c23_eq (by kernel_rfl) (by rw [S23_eq]; exact h)
def pol59 : Pol := { lend := fun _ => true, keep := [], frz := fun _ => [], perm := fun r => [], bf := fun r => [], ret := true }
def S59 (γ : Calld) (a0 : AV) (H : AHeap) (K : AV → AHeap → Prop) : Prop :=
 optA (nilA 3 .eql a0 .nilptr) fun v1 => ifA v1 (retF [.d (.bool true)] H K) (optA (nilCkA a0) fun v2 => optA (fieldA ti89 v2 0) fun v3 => optA (ldV false 1 v3 H) fun v4 => optA (nilA 1 .eql v4 .nilmap) fun v5 => retF [v5] H K)
noncomputable def r59_0 : List Oper := regOps Try.f59 0
noncomputable def r59_1 : List Oper := regOps Try.f59 1
noncomputable def c59 : Code := (.seq (.region 0 (opArr r59_0 1) false) (.seq (.region 1 (opArr r59_1 10) false) .ret))
theorem c59_eq : Try.f59.body = some c59 := by kernel_rfl
theorem S59_eq (γ : Calld) (a0 : AV) (H : AHeap) (K : AV → AHeap → Prop) : execC Try.prog γ pol59 Try.f59 c59 [a0] H K = S59 γ a0 H K := by kernel_rfl
theorem C59 {a0 : AV} {H : AHeap} {K : AV → AHeap → Prop} (h : S59 (CallsA Try.prog) a0 H K) : CallsA Try.prog 59 [a0] H K :=
 calls_of Try.func59 (ne_of_beq_false (by kernel_rfl)) c59_eq (by kernel_rfl) (by rw [S59_eq]; exact h)
def pol34 : Pol := { lend := fun _ => true, keep := [], frz := fun _ => [], perm := fun r => [], bf := fun r => [], ret := true }
def S34 (γ : Calld) (a0 a1 : AV) (H : AHeap) (K : AV → AHeap → Prop) : Prop :=
 newK H (fun n3 => boxA a0 n3) fun v1 H2 => newK H2 (fun n6 => boxA a1 n6) fun v4 H5 => optA (fieldA ti24 v1 0) fun v7 => optA (ldV false 1 v7 H5) fun v8 => optA (fieldA ti24 v4 0) fun v9 => optA (ldV false 1 v9 H5) fun v10 => optA (intA .eql v8 v10) fun v11 => ifA v11 (optA (fieldA ti24 v1 1) fun v12 => optA (ldV false 1 v12 H5) fun v13 => optA (fieldA ti24 v4 1) fun v14 => optA (ldV false 1 v14 H5) fun v15 => optA (intA .eql v13 v15) fun v16 => ifA v16 (optA (fieldA ti24 v1 2) fun v17 => optA (ldV false 1 v17 H5) fun v18 => optA (fieldA ti24 v4 2) fun v19 => optA (ldV false 1 v19 H5) fun v20 => optA (intA .eql v18 v20) fun v21 => ifA v21 (optA (fieldA ti24 v1 3) fun v22 => optA (ldV false 1 v22 H5) fun v23 => optA (fieldA ti24 v4 3) fun v24 => optA (ldV false 1 v24 H5) fun v25 => optA (intA .eql v23 v25) fun v26 => ifA v26 (optA (fieldA ti24 v1 4) fun v27 => optA (ldV false 1 v27 H5) fun v28 => optA (fieldA ti24 v4 4) fun v29 => optA (ldV false 1 v29 H5) fun v30 => optA (boolA .eql v28 v30) fun v31 => ifA v31 (optA (fieldA ti24 v1 5) fun v32 => optA (ldV false 1 v32 H5) fun v33 => optA (fieldA ti24 v4 5) fun v34 => optA (ldV false 1 v34 H5) fun v35 => optA (boolA .eql v33 v35) fun v36 => ifA v36 (optA (fieldA ti24 v1 6) fun v37 => optA (ldV false 1 v37 H5) fun v38 => optA (fieldA ti24 v4 6) fun v39 => optA (ldV false 1 v39 H5) fun v40 => optA (boolA .eql v38 v40) fun v41 => ifA v41 (optA (fieldA ti24 v1 7) fun v42 => optA (ldV false 1 v42 H5) fun v43 => optA (cvBS v43 H5) fun v44 => optA (fieldA ti24 v4 7) fun v45 => optA (ldV false 1 v45 H5) fun v46 => optA (cvBS v46 H5) fun v47 => optA (strA .eql v44 v47) fun v48 => retF [v48] H5 K) (retF [.d (.bool false)] H5 K)) (retF [.d (.bool false)] H5 K)) (retF [.d (.bool false)] H5 K)) (retF [.d (.bool false)] H5 K)) (retF [.d (.bool false)] H5 K)) (retF [.d (.bool false)] H5 K)) (retF [.d (.bool false)] H5 K)
noncomputable def r34_0 : List Oper := regOps Try.f34 0
noncomputable def r34_1 : List Oper := regOps Try.f34 1
noncomputable def c34 : Code := (.seq (.region 0 (opArr r34_0 3) false) (.seq (.region 1 (opArr r34_1 57) false) .ret))
theorem c34_eq : Try.f34.body = some c34 := by kernel_rfl
theorem S34_eq (γ : Calld) (a0 a1 : AV) (H : AHeap) (K : AV → AHeap → Prop) : execC Try.prog γ pol34 Try.f34 c34 [a0, a1] H K = S34 γ a0 a1 H K := by kernel_rfl
theorem C34 {a0 a1 : AV} {H : AHeap} {K : AV → AHeap → Prop} (h : S34 (CallsA Try.prog) a0 a1 H K) : CallsA Try.prog 34 [a0, a1] H K :=
 calls_of Try.func34 (ne_of_beq_false (by kernel_rfl)) c34_eq (by kernel_rfl) (by rw [S34_eq]; exact h)
end Go.Proofs.Ytofjhihigmimbaa

/- What the functions do, printed by a program of mine out of their code; Lean checks each equation. -/
import Derived.Test.YtgnnkpgceahjdaaA26
import Derived.Test.YtgnnkpgceahjdaaProg
import Derived.KernelRfl
set_option maxRecDepth 100000
set_option linter.unusedVariables false
namespace Go.Proofs.Ytgnnkpgceahjdaa
open Go Go.AM Go.Proofs
def ti3 : TI := { agg := false, size := 1, bytes := 8, zero := [.d (.int .i64 0)], k := .int .i64 }
def ti4 : TI := { agg := false, size := 1, bytes := 1, zero := [.d (.bool false)], k := .bool }
def ti44 : TI := { agg := false, size := 1, bytes := 24, zero := [.d (.sl true [])], k := .slice 55 }
def ti53 : TI := { agg := false, size := 1, bytes := 24, zero := [.d (.sl true [])], k := .slice 4 }
def ti55 : TI := { agg := false, size := 1, bytes := 24, zero := [.d (.sl true [])], k := .slice 3 }
def ti60 : TI := { agg := false, size := 1, bytes := 24, zero := [.d (.sl true [])], k := .slice 70 }
def ti70 : TI := { agg := true, size := 3, bytes := 40, zero := [.d (.int .i64 0), .d (.int .i64 0), .d (.sl true [])], k := .struct [(0, 3), (1, 3), (2, 55)] }
theorem ti70_f0 {i v e o : Nat} : fieldA ti70 (.ptr i v e o) 0 = some (.ptr i v e (o + 0)) := rfl
theorem ti70_v0 {cs : List Dat} {o : Nat} : fieldA ti70 (.vptr cs o) 0 = some (.vptr cs (o + 0)) := rfl
theorem ti70_f1 {i v e o : Nat} : fieldA ti70 (.ptr i v e o) 1 = some (.ptr i v e (o + 1)) := rfl
theorem ti70_v1 {cs : List Dat} {o : Nat} : fieldA ti70 (.vptr cs o) 1 = some (.vptr cs (o + 1)) := rfl
theorem ti70_f2 {i v e o : Nat} : fieldA ti70 (.ptr i v e o) 2 = some (.ptr i v e (o + 2)) := rfl
theorem ti70_v2 {cs : List Dat} {o : Nat} : fieldA ti70 (.vptr cs o) 2 = some (.vptr cs (o + 2)) := rfl
def ti154 : TI := { agg := false, size := 1, bytes := 24, zero := [.d (.sl true [])], k := .slice 160 }
def ti156 : TI := { agg := true, size := 4, bytes := 64, zero := [.d (.bool false), .d (.sl true []), .d (.sl true []), .d (.int .i64 0)], k := .struct [(0, 4), (1, 55), (2, 154), (3, 3)] }
theorem ti156_f0 {i v e o : Nat} : fieldA ti156 (.ptr i v e o) 0 = some (.ptr i v e (o + 0)) := rfl
theorem ti156_v0 {cs : List Dat} {o : Nat} : fieldA ti156 (.vptr cs o) 0 = some (.vptr cs (o + 0)) := rfl
theorem ti156_f1 {i v e o : Nat} : fieldA ti156 (.ptr i v e o) 1 = some (.ptr i v e (o + 1)) := rfl
theorem ti156_v1 {cs : List Dat} {o : Nat} : fieldA ti156 (.vptr cs o) 1 = some (.vptr cs (o + 1)) := rfl
theorem ti156_f2 {i v e o : Nat} : fieldA ti156 (.ptr i v e o) 2 = some (.ptr i v e (o + 2)) := rfl
theorem ti156_v2 {cs : List Dat} {o : Nat} : fieldA ti156 (.vptr cs o) 2 = some (.vptr cs (o + 2)) := rfl
theorem ti156_f3 {i v e o : Nat} : fieldA ti156 (.ptr i v e o) 3 = some (.ptr i v e (o + 3)) := rfl
theorem ti156_v3 {cs : List Dat} {o : Nat} : fieldA ti156 (.vptr cs o) 3 = some (.vptr cs (o + 3)) := rfl
def ti157 : TI := { agg := false, size := 1, bytes := 24, zero := [.d (.sl true [])], k := .slice 163 }
def ti159 : TI := { agg := true, size := 5, bytes := 72, zero := [.d (.int .i64 0), .d (.int .i64 0), .d (.sl true []), .d (.sl true []), .d (.int .i64 0)], k := .struct [(0, 3), (1, 3), (2, 55), (3, 157), (4, 3)] }
theorem ti159_f0 {i v e o : Nat} : fieldA ti159 (.ptr i v e o) 0 = some (.ptr i v e (o + 0)) := rfl
theorem ti159_v0 {cs : List Dat} {o : Nat} : fieldA ti159 (.vptr cs o) 0 = some (.vptr cs (o + 0)) := rfl
theorem ti159_f1 {i v e o : Nat} : fieldA ti159 (.ptr i v e o) 1 = some (.ptr i v e (o + 1)) := rfl
theorem ti159_v1 {cs : List Dat} {o : Nat} : fieldA ti159 (.vptr cs o) 1 = some (.vptr cs (o + 1)) := rfl
theorem ti159_f2 {i v e o : Nat} : fieldA ti159 (.ptr i v e o) 2 = some (.ptr i v e (o + 2)) := rfl
theorem ti159_v2 {cs : List Dat} {o : Nat} : fieldA ti159 (.vptr cs o) 2 = some (.vptr cs (o + 2)) := rfl
theorem ti159_f3 {i v e o : Nat} : fieldA ti159 (.ptr i v e o) 3 = some (.ptr i v e (o + 3)) := rfl
theorem ti159_v3 {cs : List Dat} {o : Nat} : fieldA ti159 (.vptr cs o) 3 = some (.vptr cs (o + 3)) := rfl
theorem ti159_f4 {i v e o : Nat} : fieldA ti159 (.ptr i v e o) 4 = some (.ptr i v e (o + 4)) := rfl
theorem ti159_v4 {cs : List Dat} {o : Nat} : fieldA ti159 (.vptr cs o) 4 = some (.vptr cs (o + 4)) := rfl
def ti160 : TI := { agg := false, size := 1, bytes := 8, zero := [.nilptr], k := .ptr 162 }
def ti162 : TI := { agg := true, size := 6, bytes := 64, zero := [.d (.sl true []), .d (.bool false), .d (.int .i64 0), .d (.int .i64 0), .d (.int .i64 0), .d (.int .i64 0)], k := .struct [(0, 55), (1, 4), (2, 3), (3, 3), (4, 3), (5, 3)] }
theorem ti162_f0 {i v e o : Nat} : fieldA ti162 (.ptr i v e o) 0 = some (.ptr i v e (o + 0)) := rfl
theorem ti162_v0 {cs : List Dat} {o : Nat} : fieldA ti162 (.vptr cs o) 0 = some (.vptr cs (o + 0)) := rfl
theorem ti162_f1 {i v e o : Nat} : fieldA ti162 (.ptr i v e o) 1 = some (.ptr i v e (o + 1)) := rfl
theorem ti162_v1 {cs : List Dat} {o : Nat} : fieldA ti162 (.vptr cs o) 1 = some (.vptr cs (o + 1)) := rfl
theorem ti162_f2 {i v e o : Nat} : fieldA ti162 (.ptr i v e o) 2 = some (.ptr i v e (o + 2)) := rfl
theorem ti162_v2 {cs : List Dat} {o : Nat} : fieldA ti162 (.vptr cs o) 2 = some (.vptr cs (o + 2)) := rfl
theorem ti162_f3 {i v e o : Nat} : fieldA ti162 (.ptr i v e o) 3 = some (.ptr i v e (o + 3)) := rfl
theorem ti162_v3 {cs : List Dat} {o : Nat} : fieldA ti162 (.vptr cs o) 3 = some (.vptr cs (o + 3)) := rfl
theorem ti162_f4 {i v e o : Nat} : fieldA ti162 (.ptr i v e o) 4 = some (.ptr i v e (o + 4)) := rfl
theorem ti162_v4 {cs : List Dat} {o : Nat} : fieldA ti162 (.vptr cs o) 4 = some (.vptr cs (o + 4)) := rfl
theorem ti162_f5 {i v e o : Nat} : fieldA ti162 (.ptr i v e o) 5 = some (.ptr i v e (o + 5)) := rfl
theorem ti162_v5 {cs : List Dat} {o : Nat} : fieldA ti162 (.vptr cs o) 5 = some (.vptr cs (o + 5)) := rfl
def ti163 : TI := { agg := false, size := 1, bytes := 8, zero := [.nilptr], k := .ptr 169 }
def ti165 : TI := { agg := true, size := 2, bytes := 16, zero := [.d (.int .i64 0), .d (.int .i64 0)], k := .struct [(0, 3), (1, 3)] }
theorem ti165_f0 {i v e o : Nat} : fieldA ti165 (.ptr i v e o) 0 = some (.ptr i v e (o + 0)) := rfl
theorem ti165_v0 {cs : List Dat} {o : Nat} : fieldA ti165 (.vptr cs o) 0 = some (.vptr cs (o + 0)) := rfl
theorem ti165_f1 {i v e o : Nat} : fieldA ti165 (.ptr i v e o) 1 = some (.ptr i v e (o + 1)) := rfl
theorem ti165_v1 {cs : List Dat} {o : Nat} : fieldA ti165 (.vptr cs o) 1 = some (.vptr cs (o + 1)) := rfl
def ti166 : TI := { agg := false, size := 1, bytes := 24, zero := [.d (.sl true [])], k := .slice 273 }
def ti167 : TI := { agg := false, size := 1, bytes := 24, zero := [.d (.sl true [])], k := .slice 224 }
def ti169 : TI := { agg := true, size := 8, bytes := 112, zero := [.d (.sl true []), .d (.int .i64 0), .d (.int .i64 0), .d (.int .i64 0), .d (.int .i64 0), .d (.int .i64 0), .d (.sl true []), .d (.sl true [])], k := .struct [(0, 55), (1, 3), (2, 3), (3, 3), (4, 165), (6, 166), (7, 167)] }
theorem ti169_f0 {i v e o : Nat} : fieldA ti169 (.ptr i v e o) 0 = some (.ptr i v e (o + 0)) := rfl
theorem ti169_v0 {cs : List Dat} {o : Nat} : fieldA ti169 (.vptr cs o) 0 = some (.vptr cs (o + 0)) := rfl
theorem ti169_f1 {i v e o : Nat} : fieldA ti169 (.ptr i v e o) 1 = some (.ptr i v e (o + 1)) := rfl
theorem ti169_v1 {cs : List Dat} {o : Nat} : fieldA ti169 (.vptr cs o) 1 = some (.vptr cs (o + 1)) := rfl
theorem ti169_f2 {i v e o : Nat} : fieldA ti169 (.ptr i v e o) 2 = some (.ptr i v e (o + 2)) := rfl
theorem ti169_v2 {cs : List Dat} {o : Nat} : fieldA ti169 (.vptr cs o) 2 = some (.vptr cs (o + 2)) := rfl
theorem ti169_f3 {i v e o : Nat} : fieldA ti169 (.ptr i v e o) 3 = some (.ptr i v e (o + 3)) := rfl
theorem ti169_v3 {cs : List Dat} {o : Nat} : fieldA ti169 (.vptr cs o) 3 = some (.vptr cs (o + 3)) := rfl
theorem ti169_f4 {i v e o : Nat} : fieldA ti169 (.ptr i v e o) 4 = some (.ptr i v e (o + 4)) := rfl
theorem ti169_v4 {cs : List Dat} {o : Nat} : fieldA ti169 (.vptr cs o) 4 = some (.vptr cs (o + 4)) := rfl
theorem ti169_f5 {i v e o : Nat} : fieldA ti169 (.ptr i v e o) 5 = some (.ptr i v e (o + 6)) := rfl
theorem ti169_v5 {cs : List Dat} {o : Nat} : fieldA ti169 (.vptr cs o) 5 = some (.vptr cs (o + 6)) := rfl
theorem ti169_f6 {i v e o : Nat} : fieldA ti169 (.ptr i v e o) 6 = some (.ptr i v e (o + 7)) := rfl
theorem ti169_v6 {cs : List Dat} {o : Nat} : fieldA ti169 (.vptr cs o) 6 = some (.vptr cs (o + 7)) := rfl
def ti170 : TI := { agg := true, size := 2, bytes := 16, zero := [.d (.int .i64 0), .d (.int .i64 0)], k := .array 2 3 }
def ti224 : TI := { agg := true, size := 4, bytes := 32, zero := [.d (.int .i64 0), .d (.int .i64 0), .d (.int .i64 0), .d (.int .i64 0)], k := .struct [(0, 165), (2, 3), (3, 3)] }
theorem ti224_f0 {i v e o : Nat} : fieldA ti224 (.ptr i v e o) 0 = some (.ptr i v e (o + 0)) := rfl
theorem ti224_v0 {cs : List Dat} {o : Nat} : fieldA ti224 (.vptr cs o) 0 = some (.vptr cs (o + 0)) := rfl
theorem ti224_f1 {i v e o : Nat} : fieldA ti224 (.ptr i v e o) 1 = some (.ptr i v e (o + 2)) := rfl
theorem ti224_v1 {cs : List Dat} {o : Nat} : fieldA ti224 (.vptr cs o) 1 = some (.vptr cs (o + 2)) := rfl
theorem ti224_f2 {i v e o : Nat} : fieldA ti224 (.ptr i v e o) 2 = some (.ptr i v e (o + 3)) := rfl
theorem ti224_v2 {cs : List Dat} {o : Nat} : fieldA ti224 (.vptr cs o) 2 = some (.vptr cs (o + 3)) := rfl
def ti271 : TI := { agg := false, size := 1, bytes := 24, zero := [.d (.sl true [])], k := .slice 275 }
def ti273 : TI := { agg := true, size := 3, bytes := 24, zero := [.d (.int .i64 0), .d (.int .i64 0), .d (.int .i64 0)], k := .struct [(0, 165), (2, 3)] }
theorem ti273_f0 {i v e o : Nat} : fieldA ti273 (.ptr i v e o) 0 = some (.ptr i v e (o + 0)) := rfl
theorem ti273_v0 {cs : List Dat} {o : Nat} : fieldA ti273 (.vptr cs o) 0 = some (.vptr cs (o + 0)) := rfl
theorem ti273_f1 {i v e o : Nat} : fieldA ti273 (.ptr i v e o) 1 = some (.ptr i v e (o + 2)) := rfl
theorem ti273_v1 {cs : List Dat} {o : Nat} : fieldA ti273 (.vptr cs o) 1 = some (.vptr cs (o + 2)) := rfl
def ti275 : TI := { agg := true, size := 3, bytes := 24, zero := [.d (.int .i64 0), .d (.int .i64 0), .d (.int .i64 0)], k := .struct [(0, 3), (1, 165)] }
theorem ti275_f0 {i v e o : Nat} : fieldA ti275 (.ptr i v e o) 0 = some (.ptr i v e (o + 0)) := rfl
theorem ti275_v0 {cs : List Dat} {o : Nat} : fieldA ti275 (.vptr cs o) 0 = some (.vptr cs (o + 0)) := rfl
theorem ti275_f1 {i v e o : Nat} : fieldA ti275 (.ptr i v e o) 1 = some (.ptr i v e (o + 1)) := rfl
theorem ti275_v1 {cs : List Dat} {o : Nat} : fieldA ti275 (.vptr cs o) 1 = some (.vptr cs (o + 1)) := rfl
theorem bd70 {parts : List (Nat × AV)} : buildA Try.prog ti70 parts = (fillA (fun i => (([(0, 3), (1, 3), (2, 55)] : List (Nat × TypeId))[i]?).map fun f => (f.1, Try.prog.cellsOf f.2)) [.d (.int .i64 0), .d (.int .i64 0), .d (.sl true [])] parts).map AV.agg := rfl
theorem bd156 {parts : List (Nat × AV)} : buildA Try.prog ti156 parts = (fillA (fun i => (([(0, 4), (1, 55), (2, 154), (3, 3)] : List (Nat × TypeId))[i]?).map fun f => (f.1, Try.prog.cellsOf f.2)) [.d (.bool false), .d (.sl true []), .d (.sl true []), .d (.int .i64 0)] parts).map AV.agg := rfl
theorem bd159 {parts : List (Nat × AV)} : buildA Try.prog ti159 parts = (fillA (fun i => (([(0, 3), (1, 3), (2, 55), (3, 157), (4, 3)] : List (Nat × TypeId))[i]?).map fun f => (f.1, Try.prog.cellsOf f.2)) [.d (.int .i64 0), .d (.int .i64 0), .d (.sl true []), .d (.sl true []), .d (.int .i64 0)] parts).map AV.agg := rfl
theorem bd162 {parts : List (Nat × AV)} : buildA Try.prog ti162 parts = (fillA (fun i => (([(0, 55), (1, 4), (2, 3), (3, 3), (4, 3), (5, 3)] : List (Nat × TypeId))[i]?).map fun f => (f.1, Try.prog.cellsOf f.2)) [.d (.sl true []), .d (.bool false), .d (.int .i64 0), .d (.int .i64 0), .d (.int .i64 0), .d (.int .i64 0)] parts).map AV.agg := rfl
theorem bd165 {parts : List (Nat × AV)} : buildA Try.prog ti165 parts = (fillA (fun i => (([(0, 3), (1, 3)] : List (Nat × TypeId))[i]?).map fun f => (f.1, Try.prog.cellsOf f.2)) [.d (.int .i64 0), .d (.int .i64 0)] parts).map AV.agg := rfl
theorem bd169 {parts : List (Nat × AV)} : buildA Try.prog ti169 parts = (fillA (fun i => (([(0, 55), (1, 3), (2, 3), (3, 3), (4, 165), (6, 166), (7, 167)] : List (Nat × TypeId))[i]?).map fun f => (f.1, Try.prog.cellsOf f.2)) [.d (.sl true []), .d (.int .i64 0), .d (.int .i64 0), .d (.int .i64 0), .d (.int .i64 0), .d (.int .i64 0), .d (.sl true []), .d (.sl true [])] parts).map AV.agg := rfl
theorem bd170 {parts : List (Nat × AV)} : buildA Try.prog ti170 parts = (fillA (fun i => some (i * Try.prog.cellsOf 3, Try.prog.cellsOf 3)) [.d (.int .i64 0), .d (.int .i64 0)] parts).map AV.agg := rfl
theorem bd224 {parts : List (Nat × AV)} : buildA Try.prog ti224 parts = (fillA (fun i => (([(0, 165), (2, 3), (3, 3)] : List (Nat × TypeId))[i]?).map fun f => (f.1, Try.prog.cellsOf f.2)) [.d (.int .i64 0), .d (.int .i64 0), .d (.int .i64 0), .d (.int .i64 0)] parts).map AV.agg := rfl
theorem bd273 {parts : List (Nat × AV)} : buildA Try.prog ti273 parts = (fillA (fun i => (([(0, 165), (2, 3)] : List (Nat × TypeId))[i]?).map fun f => (f.1, Try.prog.cellsOf f.2)) [.d (.int .i64 0), .d (.int .i64 0), .d (.int .i64 0)] parts).map AV.agg := rfl
theorem bd275 {parts : List (Nat × AV)} : buildA Try.prog ti275 parts = (fillA (fun i => (([(0, 3), (1, 165)] : List (Nat × TypeId))[i]?).map fun f => (f.1, Try.prog.cellsOf f.2)) [.d (.int .i64 0), .d (.int .i64 0), .d (.int .i64 0)] parts).map AV.agg := rfl
theorem cell3 : Try.prog.cellsOf 3 = 1 := by kernel_rfl
theorem cell4 : Try.prog.cellsOf 4 = 1 := by kernel_rfl
theorem cell55 : Try.prog.cellsOf 55 = 1 := by kernel_rfl
theorem cell70 : Try.prog.cellsOf 70 = 3 := by kernel_rfl
theorem cell154 : Try.prog.cellsOf 154 = 1 := by kernel_rfl
theorem cell157 : Try.prog.cellsOf 157 = 1 := by kernel_rfl
theorem cell160 : Try.prog.cellsOf 160 = 1 := by kernel_rfl
theorem cell163 : Try.prog.cellsOf 163 = 1 := by kernel_rfl
theorem cell165 : Try.prog.cellsOf 165 = 2 := by kernel_rfl
theorem cell166 : Try.prog.cellsOf 166 = 1 := by kernel_rfl
theorem cell167 : Try.prog.cellsOf 167 = 1 := by kernel_rfl
theorem cell224 : Try.prog.cellsOf 224 = 4 := by kernel_rfl
theorem cell273 : Try.prog.cellsOf 273 = 3 := by kernel_rfl
theorem cell275 : Try.prog.cellsOf 275 = 3 := by kernel_rfl
/-! tithing/tithingtop.TopNodes -/
def pol5 : Pol := { lend := fun g => !([82, 161] : List Nat).contains g, keep := [0, 1, 5, 6, 8, 9, 10], frz := fun _ => [], perm := fun r => [], bf := fun r => [], ret := true }
def S5 (γ : Calld) (a0 a1 : AV) (H : AHeap) (K : AV → AHeap → Prop) : Prop :=
  optA (lenSl a0) fun v1 => optA (intA .gtr v1 (.d (.int .i64 6))) fun v2 => ifA v2 (frzLK [] H fun l5 H6 => γ 23 l5 H6 fun v3 H4 => retF [v3] H4 K) (optA (lenSl a1) fun v7 => optA (intA .gtr v7 (.d (.int .i64 200))) fun v8 => ifA v8 (frzLK [] H fun l11 H12 => γ 23 l11 H12 fun v9 H10 => retF [v9] H10 K) (frzLK [.d (.sl true [])] H fun l15 H16 => γ 24 l15 H16 fun v13 H14 => frzLK [.d (.int .i64 3), .d (.int .i64 4), .d (.sl true [])] H14 fun l19 H20 => γ 25 l19 H20 fun v17 H18 => optA (extractA v17 0) fun v21 => optA (extractA v17 1) fun v22 => optA (intA .neq v22 (.d (.int .i64 0))) fun v23 => ifA v23 (retF [.d (.bool false)] H18 K) (loopA (fun X24 l25 H26 => optA (lenSl (l25.getD 0 .junk)) fun v27 => optA (intA .lss (l25.getD 4 .junk) v27) fun v28 => ifA v28 (optA (indexAddrA ti44 1 (l25.getD 0 .junk) (l25.getD 4 .junk)) fun v29 => optA (ldV false 1 v29 H26) fun v30 => optA (lenSl v30) fun v31 => optA (intA .gtr v31 (.d (.int .i64 60))) fun v32 => ifA v32 (frzLK [] H26 fun l35 H36 => γ 23 l35 H36 fun v33 H34 => retF [v33] H34 K) (optA (indexAddrA ti44 1 (l25.getD 0 .junk) (l25.getD 4 .junk)) fun v37 => optA (ldV false 1 v37 H26) fun v38 => frzLK [l25.getD 2 .junk, v38] H26 fun l41 H42 => γ 26 l41 H42 fun v39 H40 => optA (indexAddrA ti44 1 (l25.getD 0 .junk) (l25.getD 4 .junk)) fun v43 => optA (ldV false 1 v43 H40) fun v44 => frzLK [l25.getD 3 .junk, v44] H40 fun l47 H48 => γ 27 l47 H48 fun v45 H46 => optA (intA .add (l25.getD 4 .junk) (.d (.int .i64 1))) fun v49 => X24 [l25.getD 0 .junk, l25.getD 1 .junk, l25.getD 2 .junk, l25.getD 3 .junk, v49, l25.getD 5 .junk, l25.getD 6 .junk] H46)) (loopA (fun X50 l51 H52 => optA (lenSl (l51.getD 1 .junk)) fun v53 => optA (intA .lss (l51.getD 5 .junk) v53) fun v54 => ifA v54 (optA (indexAddrA ti60 3 (l51.getD 1 .junk) (l51.getD 5 .junk)) fun v55 => optA (ldV true 3 v55 H52) fun v56 => frzLK [l51.getD 2 .junk, l51.getD 3 .junk, v56] H52 fun l59 H60 => γ 28 l59 H60 fun v57 H58 => frzLK [l51.getD 2 .junk] H58 fun l63 H64 => γ 29 l63 H64 fun v61 H62 => optA (lenSl v61) fun v65 => optA (intA .gtr v65 (.d (.int .i64 0))) fun v66 => ifA v66 (retF [.d (.bool false)] H62 K) (frzLK [l51.getD 3 .junk] H62 fun l69 H70 => γ 30 l69 H70 fun v67 H68 => optA (lenSl v67) fun v71 => optA (intA .gtr v71 (.d (.int .i64 0))) fun v72 => ifA v72 (retF [.d (.bool false)] H68 K) (optA (intA .add (l51.getD 5 .junk) (.d (.int .i64 1))) fun v73 => X50 [l51.getD 0 .junk, l51.getD 1 .junk, l51.getD 2 .junk, l51.getD 3 .junk, l51.getD 4 .junk, v73, l51.getD 6 .junk] H68))) (loopA (fun X74 l75 H76 => optA (intA .lss (l75.getD 6 .junk) (.d (.int .i64 2700))) fun v77 => ifA v77 (frzLK [l75.getD 2 .junk] H76 fun l80 H81 => γ 31 l80 H81 fun v78 H79 => optA (unA .not v78) fun v82 => ifA v82 (frzLK [l75.getD 2 .junk] H79 fun l85 H86 => γ 32 l85 H86 fun v83 H84 => optA (intA .add (l75.getD 6 .junk) (.d (.int .i64 1))) fun v87 => X74 [l75.getD 0 .junk, l75.getD 1 .junk, l75.getD 2 .junk, l75.getD 3 .junk, l75.getD 4 .junk, l75.getD 5 .junk, v87] H84) (frzLK [l75.getD 2 .junk] H79 fun l90 H91 => γ 31 l90 H91 fun v88 H89 => ifA v88 (frzLK [l75.getD 2 .junk] H89 fun l94 H95 => γ 29 l94 H95 fun v92 H93 => optA (lenSl v92) fun v96 => optA (intA .eql v96 (.d (.int .i64 0))) fun v97 => ifA v97 (frzLK [] H93 fun l100 H101 => γ 23 l100 H101 fun v98 H99 => retF [v98] H99 K) (retF [.d (.bool false)] H93 K)) (retF [.d (.bool false)] H89 K))) (frzLK [l75.getD 2 .junk] H76 fun l104 H105 => γ 31 l104 H105 fun v102 H103 => ifA v102 (frzLK [l75.getD 2 .junk] H103 fun l108 H109 => γ 29 l108 H109 fun v106 H107 => optA (lenSl v106) fun v110 => optA (intA .eql v110 (.d (.int .i64 0))) fun v111 => ifA v111 (frzLK [] H107 fun l114 H115 => γ 23 l114 H115 fun v112 H113 => retF [v112] H113 K) (retF [.d (.bool false)] H107 K)) (retF [.d (.bool false)] H103 K))) [l51.getD 0 .junk, l51.getD 1 .junk, l51.getD 2 .junk, l51.getD 3 .junk, l51.getD 4 .junk, l51.getD 5 .junk, .d (.int .i64 0)] H52)) [l25.getD 0 .junk, l25.getD 1 .junk, l25.getD 2 .junk, l25.getD 3 .junk, l25.getD 4 .junk, .d (.int .i64 0), l25.getD 6 .junk] H26)) [a0, a1, v13, v21, .d (.int .i64 0), .junk, .junk] H18)))
noncomputable def r5_0 : List Oper := regOps Try.f5 0
noncomputable def r5_1 : List Oper := regOps Try.f5 1
noncomputable def r5_2 : List Oper := regOps Try.f5 2
noncomputable def r5_3 : List Oper := regOps Try.f5 3
noncomputable def r5_4 : List Oper := regOps Try.f5 4
noncomputable def r5_5 : List Oper := regOps Try.f5 5
noncomputable def r5_6 : List Oper := regOps Try.f5 6
noncomputable def r5_7 : List Oper := regOps Try.f5 7
noncomputable def r5_8 : List Oper := regOps Try.f5 8
noncomputable def r5_9 : List Oper := regOps Try.f5 9
noncomputable def r5_10 : List Oper := regOps Try.f5 10
noncomputable def r5_11 : List Oper := regOps Try.f5 11
noncomputable def r5_12 : List Oper := regOps Try.f5 12
noncomputable def r5_13 : List Oper := regOps Try.f5 13
noncomputable def r5_14 : List Oper := regOps Try.f5 14
noncomputable def r5_15 : List Oper := regOps Try.f5 15
noncomputable def r5_16 : List Oper := regOps Try.f5 16
noncomputable def r5_17 : List Oper := regOps Try.f5 17
noncomputable def r5_18 : List Oper := regOps Try.f5 18
noncomputable def r5_19 : List Oper := regOps Try.f5 19
noncomputable def r5_20 : List Oper := regOps Try.f5 20
noncomputable def r5_21 : List Oper := regOps Try.f5 21
noncomputable def r5_22 : List Oper := regOps Try.f5 22
noncomputable def r5_23 : List Oper := regOps Try.f5 23
noncomputable def r5_24 : List Oper := regOps Try.f5 24
noncomputable def c5 : Code := (.seq (.region 0 #[opAt r5_0 0] false) (.seq (.seq (.region 1 #[opAt r5_1 0, opAt r5_1 1, opAt r5_1 2, opAt r5_1 3, opAt r5_1 4, opAt r5_1 5, opAt r5_1 6, opAt r5_1 7] false) (.cond (.tmp 18) (.seq (.region 2 #[opAt r5_2 0, opAt r5_2 1] false) .ret) .skip)) (.seq (.region 3 #[opAt r5_3 0, opAt r5_3 1] false) (.seq (.region 4 #[opAt r5_4 0, opAt r5_4 1, opAt r5_4 2, opAt r5_4 3, opAt r5_4 4, opAt r5_4 5] false) (.seq (.seq (.region 5 #[opAt r5_5 0, opAt r5_5 1] false) (.cond (.tmp 26) (.seq (.region 6 #[opAt r5_6 0] false) .ret) .skip)) (.seq (.seq (.region 7 #[opAt r5_7 0] false) (.block 0 (.loop (.seq (.seq (.region 8 #[opAt r5_8 0, opAt r5_8 1, opAt r5_8 2, opAt r5_8 3] false) (.cond (.tmp 30) .skip (.exit 0))) (.seq (.block 1 (.seq (.seq (.region 10 #[opAt r5_9 0, opAt r5_9 1, opAt r5_9 2, opAt r5_9 3, opAt r5_9 4, opAt r5_9 5] false) (.cond (.tmp 38) (.seq (.region 11 #[opAt r5_10 0, opAt r5_10 1] false) .ret) .skip)) (.seq (.region 12 #[opAt r5_11 0, opAt r5_11 1, opAt r5_11 2, opAt r5_11 3, opAt r5_11 4, opAt r5_11 5] false) (.region 13 #[opAt r5_12 0, opAt r5_12 1, opAt r5_12 2, opAt r5_12 3, opAt r5_12 4, opAt r5_12 5] false)))) (.region 9 #[opAt r5_13 0, opAt r5_13 1, opAt r5_13 2] false)))))) (.seq (.seq (.region 14 #[opAt r5_14 0] false) (.block 2 (.loop (.seq (.seq (.region 15 #[opAt r5_15 0, opAt r5_15 1, opAt r5_15 2, opAt r5_15 3] false) (.cond (.tmp 55) .skip (.exit 2))) (.seq (.block 3 (.seq (.region 17 #[opAt r5_16 0, opAt r5_16 1, opAt r5_16 2, opAt r5_16 3, opAt r5_16 4, opAt r5_16 5, opAt r5_16 6] false) (.seq (.region 18 #[opAt r5_17 0, opAt r5_17 1, opAt r5_17 2, opAt r5_17 3, opAt r5_17 4, opAt r5_17 5, opAt r5_17 6, opAt r5_17 7, opAt r5_17 8, opAt r5_17 9] false) (.cond (.tmp 74) (.seq (.region 19 #[opAt r5_18 0] false) .ret) .skip)))) (.region 16 #[opAt r5_19 0, opAt r5_19 1, opAt r5_19 2] false)))))) (.seq (.seq (.region 20 #[opAt r5_20 0] false) (.block 4 (.loop (.seq (.seq (.region 21 #[opAt r5_21 0, opAt r5_21 1, opAt r5_21 2, opAt r5_21 3, opAt r5_21 4, opAt r5_21 5, opAt r5_21 6] false) (.cond (.tmp 81) .skip (.exit 4))) (.seq (.block 5 (.region 23 #[opAt r5_22 0, opAt r5_22 1] false)) (.region 22 #[opAt r5_23 0, opAt r5_23 1, opAt r5_23 2] false)))))) (.seq (.region 24 #[opAt r5_24 0, opAt r5_24 1, opAt r5_24 2, opAt r5_24 3, opAt r5_24 4, opAt r5_24 5, opAt r5_24 6, opAt r5_24 7, opAt r5_24 8, opAt r5_24 9, opAt r5_24 10, opAt r5_24 11] false) .ret)))))))))
theorem c5_eq : Try.f5.body = some c5 := by kernel_rfl
theorem S5_eq (γ : Calld) (a0 a1 : AV) (H : AHeap) (K : AV → AHeap → Prop) : execC Try.prog γ pol5 Try.f5 c5 [a0, a1] H K = S5 γ a0 a1 H K := by kernel_rfl
theorem C5 {a0 a1 : AV} {H : AHeap} {K : AV → AHeap → Prop} (h : S5 (CallsA Try.prog) a0 a1 H K) : CallsA Try.prog 5 [a0, a1] H K :=
  calls_of Try.func5 (ne_of_beq_false (by kernel_rfl)) c5_eq (by kernel_rfl) (by rw [S5_eq]; exact h)
/-! tithing/tithinglaw02.Awake -/
def pol23 : Pol := { lend := fun g => !([82, 161] : List Nat).contains g, keep := [1, 2, 5], frz := fun _ => [], perm := fun r => [], bf := fun r => [], ret := true }
def S23 (γ : Calld) (H : AHeap) (K : AV → AHeap → Prop) : Prop :=
  frzLK [.d (.sl true [])] H fun l3 H4 => γ 24 l3 H4 fun v1 H2 => loopA (fun X5 l6 H7 => optA (intA .lss (l6.getD 1 .junk) (.d (.int .i64 3))) fun v8 => ifA v8 (frzLK [l6.getD 0 .junk, .d (.sl true [])] H7 fun l11 H12 => γ 26 l11 H12 fun v9 H10 => optA (extractA v9 0) fun v13 => optA (extractA v9 1) fun v14 => optA (intA .neq v13 (l6.getD 1 .junk)) fun v15 => ifA v15 (retF [.d (.bool false)] H10 K) (optA (intA .neq v14 (.d (.int .i64 0))) fun v16 => ifA v16 (retF [.d (.bool false)] H10 K) (frzLK [l6.getD 0 .junk, v13] H10 fun l19 H20 => γ 72 l19 H20 fun v17 H18 => optA (intA .neq v17 (.d (.int .i64 0))) fun v21 => ifA v21 (retF [.d (.bool false)] H18 K) (optA (intA .add (l6.getD 1 .junk) (.d (.int .i64 1))) fun v22 => X5 [l6.getD 0 .junk, v22, l6.getD 2 .junk] H18)))) (loopA (fun X23 l24 H25 => optA (intA .lss (l24.getD 2 .junk) (.d (.int .i64 30))) fun v26 => ifA v26 (frzLK [l24.getD 0 .junk] H25 fun l29 H30 => γ 31 l29 H30 fun v27 H28 => optA (unA .not v27) fun v31 => ifA v31 (frzLK [l24.getD 0 .junk] H28 fun l34 H35 => γ 32 l34 H35 fun v32 H33 => optA (intA .add (l24.getD 2 .junk) (.d (.int .i64 1))) fun v36 => X23 [l24.getD 0 .junk, l24.getD 1 .junk, v36] H33) (frzLK [l24.getD 0 .junk] H28 fun l39 H40 => γ 31 l39 H40 fun v37 H38 => ifA v37 (frzLK [l24.getD 0 .junk, .d (.int .i64 0)] H38 fun l43 H44 => γ 73 l43 H44 fun v41 H42 => optA (intA .eql v41 (.d (.int .i64 1))) fun v45 => ifA v45 (frzLK [l24.getD 0 .junk, .d (.int .i64 1)] H42 fun l48 H49 => γ 73 l48 H49 fun v46 H47 => optA (intA .eql v46 (.d (.int .i64 2))) fun v50 => ifA v50 (frzLK [l24.getD 0 .junk, .d (.int .i64 2)] H47 fun l53 H54 => γ 73 l53 H54 fun v51 H52 => optA (intA .eql v51 (.d (.int .i64 3))) fun v55 => retF [v55] H52 K) (retF [.d (.bool false)] H47 K)) (retF [.d (.bool false)] H42 K)) (retF [.d (.bool false)] H38 K))) (frzLK [l24.getD 0 .junk] H25 fun l58 H59 => γ 31 l58 H59 fun v56 H57 => ifA v56 (frzLK [l24.getD 0 .junk, .d (.int .i64 0)] H57 fun l62 H63 => γ 73 l62 H63 fun v60 H61 => optA (intA .eql v60 (.d (.int .i64 1))) fun v64 => ifA v64 (frzLK [l24.getD 0 .junk, .d (.int .i64 1)] H61 fun l67 H68 => γ 73 l67 H68 fun v65 H66 => optA (intA .eql v65 (.d (.int .i64 2))) fun v69 => ifA v69 (frzLK [l24.getD 0 .junk, .d (.int .i64 2)] H66 fun l72 H73 => γ 73 l72 H73 fun v70 H71 => optA (intA .eql v70 (.d (.int .i64 3))) fun v74 => retF [v74] H71 K) (retF [.d (.bool false)] H66 K)) (retF [.d (.bool false)] H61 K)) (retF [.d (.bool false)] H57 K))) [l6.getD 0 .junk, l6.getD 1 .junk, .d (.int .i64 0)] H7)) [v1, .d (.int .i64 0), .junk] H2
noncomputable def r23_0 : List Oper := regOps Try.f23 0
noncomputable def r23_1 : List Oper := regOps Try.f23 1
noncomputable def r23_2 : List Oper := regOps Try.f23 2
noncomputable def r23_3 : List Oper := regOps Try.f23 3
noncomputable def r23_4 : List Oper := regOps Try.f23 4
noncomputable def r23_5 : List Oper := regOps Try.f23 5
noncomputable def r23_6 : List Oper := regOps Try.f23 6
noncomputable def r23_7 : List Oper := regOps Try.f23 7
noncomputable def r23_8 : List Oper := regOps Try.f23 8
noncomputable def r23_9 : List Oper := regOps Try.f23 9
noncomputable def r23_10 : List Oper := regOps Try.f23 10
noncomputable def r23_11 : List Oper := regOps Try.f23 11
noncomputable def r23_12 : List Oper := regOps Try.f23 12
noncomputable def c23 : Code := (.seq (.region 0 #[opAt r23_0 0] false) (.seq (.region 1 #[opAt r23_1 0, opAt r23_1 1] false) (.seq (.seq (.region 2 #[opAt r23_2 0] false) (.block 0 (.loop (.seq (.seq (.region 3 #[opAt r23_3 0, opAt r23_3 1] false) (.cond (.tmp 8) .skip (.exit 0))) (.seq (.block 1 (.seq (.region 5 #[opAt r23_4 0, opAt r23_4 1, opAt r23_4 2, opAt r23_4 3, opAt r23_4 4, opAt r23_4 5, opAt r23_4 6] false) (.seq (.region 6 #[opAt r23_5 0, opAt r23_5 1, opAt r23_5 2, opAt r23_5 3, opAt r23_5 4, opAt r23_5 5, opAt r23_5 6, opAt r23_5 7, opAt r23_5 8, opAt r23_5 9, opAt r23_5 10, opAt r23_5 11, opAt r23_5 12] false) (.cond (.tmp 28) (.seq (.region 7 #[opAt r23_6 0] false) .ret) .skip)))) (.region 4 #[opAt r23_7 0, opAt r23_7 1, opAt r23_7 2] false)))))) (.seq (.seq (.region 8 #[opAt r23_8 0] false) (.block 2 (.loop (.seq (.seq (.region 9 #[opAt r23_9 0, opAt r23_9 1, opAt r23_9 2, opAt r23_9 3, opAt r23_9 4, opAt r23_9 5, opAt r23_9 6] false) (.cond (.tmp 35) .skip (.exit 2))) (.seq (.block 3 (.region 11 #[opAt r23_10 0, opAt r23_10 1] false)) (.region 10 #[opAt r23_11 0, opAt r23_11 1, opAt r23_11 2] false)))))) (.seq (.region 12 #[opAt r23_12 0, opAt r23_12 1, opAt r23_12 2, opAt r23_12 3, opAt r23_12 4, opAt r23_12 5, opAt r23_12 6, opAt r23_12 7, opAt r23_12 8, opAt r23_12 9, opAt r23_12 10, opAt r23_12 11, opAt r23_12 12, opAt r23_12 13, opAt r23_12 14, opAt r23_12 15, opAt r23_12 16, opAt r23_12 17] false) .ret)))))
theorem c23_eq : Try.f23.body = some c23 := by kernel_rfl
theorem S23_eq (γ : Calld) (H : AHeap) (K : AV → AHeap → Prop) : execC Try.prog γ pol23 Try.f23 c23 [] H K = S23 γ H K := by kernel_rfl
theorem C23 {H : AHeap} {K : AV → AHeap → Prop} (h : S23 (CallsA Try.prog) H K) : CallsA Try.prog 23 [] H K :=
  calls_of Try.func23 (ne_of_beq_false (by kernel_rfl)) c23_eq (by kernel_rfl) (by rw [S23_eq]; exact h)
/-! tithing/bus.New -/
def pol24 : Pol := { lend := fun g => !([82, 161] : List Nat).contains g, keep := [], frz := fun _ => [], perm := fun r => [], bf := fun r => [], ret := true }
def S24 (γ : Calld) (a0 : AV) (H : AHeap) (K : AV → AHeap → Prop) : Prop :=
  frzLK [a0] H fun l3 H4 => γ 75 l3 H4 fun v1 H2 => frzLK [v1] H2 fun l7 H8 => γ 74 l7 H8 fun v5 H6 => stepK (bdA Try.prog ti156 [0, 1] [.d (.bool true), v5] H6) H6 fun v9 H10 => newK H10 (fun n13 => boxA v9 n13) fun v11 H12 => retF [v11] H12 K
noncomputable def r24_0 : List Oper := regOps Try.f24 0
noncomputable def r24_1 : List Oper := regOps Try.f24 1
noncomputable def c24 : Code := (.seq (.region 0 #[opAt r24_0 0] false) (.seq (.region 1 #[opAt r24_1 0, opAt r24_1 1, opAt r24_1 2, opAt r24_1 3, opAt r24_1 4, opAt r24_1 5] false) .ret))
theorem c24_eq : Try.f24.body = some c24 := by kernel_rfl
theorem S24_eq (γ : Calld) (a0 : AV) (H : AHeap) (K : AV → AHeap → Prop) : execC Try.prog γ pol24 Try.f24 c24 [a0] H K = S24 γ a0 H K := by kernel_rfl
theorem C24 {a0 : AV} {H : AHeap} {K : AV → AHeap → Prop} (h : S24 (CallsA Try.prog) a0 H K) : CallsA Try.prog 24 [a0] H K :=
  calls_of Try.func24 (ne_of_beq_false (by kernel_rfl)) c24_eq (by kernel_rfl) (by rw [S24_eq]; exact h)
/-! tithing/probe.New -/
def pol25 : Pol := { lend := fun g => !([82, 161] : List Nat).contains g, keep := [], frz := fun _ => [], perm := fun r => [], bf := fun r => [], ret := true }
def S25 (γ : Calld) (a0 a1 a2 : AV) (H : AHeap) (K : AV → AHeap → Prop) : Prop :=
  optA (intA .lss a0 (.d (.int .i64 1))) fun v1 => ifA v1 (retF [.nilptr, .d (.int .i64 2)] H K) (optA (intA .gtr a0 a1) fun v2 => ifA v2 (retF [.nilptr, .d (.int .i64 2)] H K) (optA (intA .gtr a1 (.d (.int .i64 65279))) fun v3 => ifA v3 (retF [.nilptr, .d (.int .i64 2)] H K) (frzLK [a2] H fun l6 H7 => γ 75 l6 H7 fun v4 H5 => frzLK [v4] H5 fun l10 H11 => γ 74 l10 H11 fun v8 H9 => stepK (bdA Try.prog ti159 [0, 1, 2] [a0, a1, v8] H9) H9 fun v12 H13 => newK H13 (fun n16 => boxA v12 n16) fun v14 H15 => retF [v14, .d (.int .i64 0)] H15 K)))
noncomputable def r25_0 : List Oper := regOps Try.f25 0
noncomputable def r25_1 : List Oper := regOps Try.f25 1
noncomputable def r25_2 : List Oper := regOps Try.f25 2
noncomputable def r25_3 : List Oper := regOps Try.f25 3
noncomputable def c25 : Code := (.seq (.region 0 #[opAt r25_0 0, opAt r25_0 1] false) (.seq (.seq (.region 1 #[opAt r25_1 0, opAt r25_1 1, opAt r25_1 2, opAt r25_1 3, opAt r25_1 4, opAt r25_1 5, opAt r25_1 6, opAt r25_1 7, opAt r25_1 8, opAt r25_1 9, opAt r25_1 10] false) (.cond (.tmp 18) (.seq (.region 2 #[opAt r25_2 0, opAt r25_2 1] false) .ret) .skip)) (.seq (.region 3 #[opAt r25_3 0, opAt r25_3 1, opAt r25_3 2, opAt r25_3 3, opAt r25_3 4, opAt r25_3 5, opAt r25_3 6, opAt r25_3 7, opAt r25_3 8] false) .ret)))
theorem c25_eq : Try.f25.body = some c25 := by kernel_rfl
theorem S25_eq (γ : Calld) (a0 a1 a2 : AV) (H : AHeap) (K : AV → AHeap → Prop) : execC Try.prog γ pol25 Try.f25 c25 [a0, a1, a2] H K = S25 γ a0 a1 a2 H K := by kernel_rfl
theorem C25 {a0 a1 a2 : AV} {H : AHeap} {K : AV → AHeap → Prop} (h : S25 (CallsA Try.prog) a0 a1 a2 H K) : CallsA Try.prog 25 [a0, a1, a2] H K :=
  calls_of Try.func25 (ne_of_beq_false (by kernel_rfl)) c25_eq (by kernel_rfl) (by rw [S25_eq]; exact h)
/-! (*tithing/bus.Bus).Add -/
def pol26 : Pol := { lend := fun g => !([82, 161] : List Nat).contains g, keep := [], frz := fun _ => [], perm := fun r => if r = 5 then [0, 1, 2, 3, 4, 5, 6, 7, 8, 9, 10, 11, 12, 13] else [], bf := fun r => if r = 5 then [0, 0, 2, 6, 14, 0, 32, 96, 224, 480, 1022, 2047, 4095, 8191] else [], ret := true }
def S26 (γ : Calld) (a0 a1 : AV) (H : AHeap) (K : AV → AHeap → Prop) : Prop :=
  frzLK [a0] H fun l3 H4 => γ 76 l3 H4 fun v1 H2 => ifA v1 (retF [.d (.int .i64 0), .d (.int .i64 7)] H2 K) (optA (nilCkA a0) fun v5 => optA (fieldA ti156 v5 2) fun v6 => optA (ldV false 1 v6 H2) fun v7 => optA (lenSl v7) fun v8 => optA (intA .eql v8 (.d (.int .i64 40))) fun v9 => ifA v9 (retF [.d (.int .i64 0), .d (.int .i64 4)] H2 K) (drA true (optA (nilCkA a0) fun v10 => optA (fieldA ti156 v10 2) fun v11 => optA (ldV false 1 v11 H2) fun v12 => apart (rsOf a1) v11 ∧ (noRsA (aggL a1) (frzLK [a1] H2 fun l14 H16 => ∃ r15, γ 58 l14 H16 (fun v H2 => v = r15 ∧ AHeap.le H16 H2) ∧ (apart (rsOf r15) v11 ∧ (apart (rsOf (.d (.bool true))) v11 ∧ (noRsA (aggL r15) (noRsA (aggL (.d (.bool true))) (stepK (bdA Try.prog ti162 [0, 1] [r15, .d (.bool true)] H16) H16 fun v17 H18 => newK H18 (fun n21 => boxA v17 n21) fun v19 H20 => apart (rsOf v19) v11 ∧ (noRsA (aggL v19) (newK H20 (fun n24 => bsA ti160 1 [0] [v19] H20 n24) fun v22 H23 => newK H23 (fun n27 => apA 1 8 v12 v22 H23 n27) fun v25 H26 => optA (nilCkA a0) fun v28 => optA (fieldA ti156 v28 2) fun v29 => noRsA (aggL v25) (stepK (stoA false 1 v29 v25 H26) H26 fun v30 H31 => optA (nilCkA a0) fun v32 => optA (fieldA ti156 v32 2) fun v33 => optA (ldV false 1 v33 H31) fun v34 => optA (lenSl v34) fun v35 => optA (intA .sub v35 (.d (.int .i64 1))) fun v36 => retF [v36, .d (.int .i64 0)] H31 K)))))))))))))
noncomputable def r26_0 : List Oper := regOps Try.f26 0
noncomputable def r26_1 : List Oper := regOps Try.f26 1
noncomputable def r26_2 : List Oper := regOps Try.f26 2
noncomputable def r26_3 : List Oper := regOps Try.f26 3
noncomputable def r26_4 : List Oper := regOps Try.f26 4
noncomputable def r26_5 : List Oper := regOps Try.f26 5
noncomputable def r26_6 : List Oper := regOps Try.f26 6
noncomputable def c26 : Code := (.seq (.region 0 #[opAt r26_0 0, opAt r26_0 1] false) (.seq (.block 0 (.seq (.region 1 #[opAt r26_1 0, opAt r26_1 1, opAt r26_1 2] false) (.cond (.tmp 6) (.seq (.region 2 #[opAt r26_2 0, opAt r26_2 1] false) .ret) (.seq (.region 3 #[opAt r26_3 0, opAt r26_3 1, opAt r26_3 2, opAt r26_3 3, opAt r26_3 4, opAt r26_3 5, opAt r26_3 6] false) (.cond (.tmp 9) (.seq (.region 4 #[opAt r26_4 0, opAt r26_4 1] false) .ret) .skip))))) (.seq (.region 5 #[opAt r26_5 0, opAt r26_5 1, opAt r26_5 2, opAt r26_5 3, opAt r26_5 4, opAt r26_5 5, opAt r26_5 6, opAt r26_5 7, opAt r26_5 8, opAt r26_5 9, opAt r26_5 10, opAt r26_5 11, opAt r26_5 12, opAt r26_5 13] true) (.seq (.region 6 #[opAt r26_6 0, opAt r26_6 1, opAt r26_6 2, opAt r26_6 3, opAt r26_6 4, opAt r26_6 5, opAt r26_6 6, opAt r26_6 7] false) .ret))))
theorem c26_eq : Try.f26.body = some c26 := by kernel_rfl
theorem S26_eq (γ : Calld) (a0 a1 : AV) (H : AHeap) (K : AV → AHeap → Prop) : execC Try.prog γ pol26 Try.f26 c26 [a0, a1] H K = S26 γ a0 a1 H K := by kernel_rfl
theorem C26 {a0 a1 : AV} {H : AHeap} {K : AV → AHeap → Prop} (h : S26 (CallsA Try.prog) a0 a1 H K) : CallsA Try.prog 26 [a0, a1] H K :=
  calls_of Try.func26 (ne_of_beq_false (by kernel_rfl)) c26_eq (by kernel_rfl) (by rw [S26_eq]; exact h)
/-! (*tithing/probe.Link).Add -/
def pol27 : Pol := { lend := fun g => !([82, 161] : List Nat).contains g, keep := [], frz := fun _ => [], perm := fun r => if r = 5 then [0, 1, 2, 3, 4, 5, 6, 7, 8, 9, 10, 11, 12, 13] else [], bf := fun r => if r = 5 then [0, 0, 2, 6, 14, 0, 32, 96, 224, 480, 1022, 2047, 4095, 8191] else [], ret := true }
def S27 (γ : Calld) (a0 a1 : AV) (H : AHeap) (K : AV → AHeap → Prop) : Prop :=
  frzLK [a0] H fun l3 H4 => γ 77 l3 H4 fun v1 H2 => ifA v1 (retF [.d (.int .i64 0), .d (.int .i64 7)] H2 K) (optA (nilCkA a0) fun v5 => optA (fieldA ti159 v5 3) fun v6 => optA (ldV false 1 v6 H2) fun v7 => optA (lenSl v7) fun v8 => optA (intA .eql v8 (.d (.int .i64 40))) fun v9 => ifA v9 (retF [.d (.int .i64 0), .d (.int .i64 4)] H2 K) (drA true (optA (nilCkA a0) fun v10 => optA (fieldA ti159 v10 3) fun v11 => optA (ldV false 1 v11 H2) fun v12 => apart (rsOf a1) v11 ∧ (noRsA (aggL a1) (frzLK [a1] H2 fun l14 H16 => ∃ r15, γ 58 l14 H16 (fun v H2 => v = r15 ∧ AHeap.le H16 H2) ∧ (apart (rsOf r15) v11 ∧ (noRsA (aggL r15) (stepK (bdA Try.prog ti169 [0] [r15] H16) H16 fun v17 H18 => newK H18 (fun n21 => boxA v17 n21) fun v19 H20 => apart (rsOf v19) v11 ∧ (noRsA (aggL v19) (newK H20 (fun n24 => bsA ti163 1 [0] [v19] H20 n24) fun v22 H23 => newK H23 (fun n27 => apA 1 8 v12 v22 H23 n27) fun v25 H26 => optA (nilCkA a0) fun v28 => optA (fieldA ti159 v28 3) fun v29 => noRsA (aggL v25) (stepK (stoA false 1 v29 v25 H26) H26 fun v30 H31 => optA (nilCkA a0) fun v32 => optA (fieldA ti159 v32 3) fun v33 => optA (ldV false 1 v33 H31) fun v34 => optA (lenSl v34) fun v35 => optA (intA .sub v35 (.d (.int .i64 1))) fun v36 => retF [v36, .d (.int .i64 0)] H31 K)))))))))))
noncomputable def r27_0 : List Oper := regOps Try.f27 0
noncomputable def r27_1 : List Oper := regOps Try.f27 1
noncomputable def r27_2 : List Oper := regOps Try.f27 2
noncomputable def r27_3 : List Oper := regOps Try.f27 3
noncomputable def r27_4 : List Oper := regOps Try.f27 4
noncomputable def r27_5 : List Oper := regOps Try.f27 5
noncomputable def r27_6 : List Oper := regOps Try.f27 6
noncomputable def c27 : Code := (.seq (.region 0 #[opAt r27_0 0, opAt r27_0 1] false) (.seq (.block 0 (.seq (.region 1 #[opAt r27_1 0, opAt r27_1 1, opAt r27_1 2] false) (.cond (.tmp 6) (.seq (.region 2 #[opAt r27_2 0, opAt r27_2 1] false) .ret) (.seq (.region 3 #[opAt r27_3 0, opAt r27_3 1, opAt r27_3 2, opAt r27_3 3, opAt r27_3 4, opAt r27_3 5, opAt r27_3 6] false) (.cond (.tmp 9) (.seq (.region 4 #[opAt r27_4 0, opAt r27_4 1] false) .ret) .skip))))) (.seq (.region 5 #[opAt r27_5 0, opAt r27_5 1, opAt r27_5 2, opAt r27_5 3, opAt r27_5 4, opAt r27_5 5, opAt r27_5 6, opAt r27_5 7, opAt r27_5 8, opAt r27_5 9, opAt r27_5 10, opAt r27_5 11, opAt r27_5 12, opAt r27_5 13] true) (.seq (.region 6 #[opAt r27_6 0, opAt r27_6 1, opAt r27_6 2, opAt r27_6 3, opAt r27_6 4, opAt r27_6 5, opAt r27_6 6, opAt r27_6 7] false) .ret))))
theorem c27_eq : Try.f27.body = some c27 := by kernel_rfl
theorem S27_eq (γ : Calld) (a0 a1 : AV) (H : AHeap) (K : AV → AHeap → Prop) : execC Try.prog γ pol27 Try.f27 c27 [a0, a1] H K = S27 γ a0 a1 H K := by kernel_rfl
theorem C27 {a0 a1 : AV} {H : AHeap} {K : AV → AHeap → Prop} (h : S27 (CallsA Try.prog) a0 a1 H K) : CallsA Try.prog 27 [a0, a1] H K :=
  calls_of Try.func27 (ne_of_beq_false (by kernel_rfl)) c27_eq (by kernel_rfl) (by rw [S27_eq]; exact h)
/-! tithing/tithingtop.nodeDeed -/
def pol28 : Pol := { lend := fun g => !([82, 161] : List Nat).contains g, keep := [], frz := fun _ => [], perm := fun r => [], bf := fun r => [], ret := true }
def S28 (γ : Calld) (a0 a1 a2 : AV) (H : AHeap) (K : AV → AHeap → Prop) : Prop :=
  newK H (fun n3 => boxA a2 n3) fun v1 H2 => optA (fieldA ti70 v1 0) fun v4 => optA (ldV false 1 v4 H2) fun v5 => optA (intA .eql v5 (.d (.int .i64 0))) fun v6 => ifA v6 (ifA v6 (optA (fieldA ti70 v1 1) fun v7 => optA (ldV false 1 v7 H2) fun v8 => frzLK [a0, v8] H2 fun l11 H12 => γ 72 l11 H12 fun v9 H10 => optA (fieldA ti70 v1 1) fun v13 => optA (ldV false 1 v13 H10) fun v14 => frzLK [a1, v14] H10 fun l17 H18 => γ 78 l17 H18 fun v15 H16 => retF [] H16 K) (optA (intA .eql v5 (.d (.int .i64 1))) fun v19 => ifA v19 (optA (fieldA ti70 v1 1) fun v20 => optA (ldV false 1 v20 H2) fun v21 => frzLK [a0, v21, .d (.bool true)] H2 fun l24 H25 => γ 79 l24 H25 fun v22 H23 => retF [] H23 K) (optA (intA .eql v5 (.d (.int .i64 2))) fun v26 => ifA v26 (optA (fieldA ti70 v1 1) fun v27 => optA (ldV false 1 v27 H2) fun v28 => frzLK [a0, v28, .d (.bool false)] H2 fun l31 H32 => γ 79 l31 H32 fun v29 H30 => optA (fieldA ti70 v1 1) fun v33 => optA (ldV false 1 v33 H30) fun v34 => frzLK [a1, v34] H30 fun l37 H38 => γ 80 l37 H38 fun v35 H36 => retF [] H36 K) (frzLK [a0] H2 fun l41 H42 => γ 32 l41 H42 fun v39 H40 => frzLK [a1] H40 fun l45 H46 => γ 81 l45 H46 fun v43 H44 => retF [] H44 K)))) (optA (intA .eql v5 (.d (.int .i64 3))) fun v47 => ifA v47 (optA (fieldA ti70 v1 1) fun v48 => optA (ldV false 1 v48 H2) fun v49 => frzLK [a0, v49] H2 fun l52 H53 => γ 72 l52 H53 fun v50 H51 => optA (fieldA ti70 v1 1) fun v54 => optA (ldV false 1 v54 H51) fun v55 => frzLK [a1, v55] H51 fun l58 H59 => γ 78 l58 H59 fun v56 H57 => retF [] H57 K) (optA (intA .eql v5 (.d (.int .i64 1))) fun v60 => ifA v60 (optA (fieldA ti70 v1 1) fun v61 => optA (ldV false 1 v61 H2) fun v62 => frzLK [a0, v62, .d (.bool true)] H2 fun l65 H66 => γ 79 l65 H66 fun v63 H64 => retF [] H64 K) (optA (intA .eql v5 (.d (.int .i64 2))) fun v67 => ifA v67 (optA (fieldA ti70 v1 1) fun v68 => optA (ldV false 1 v68 H2) fun v69 => frzLK [a0, v69, .d (.bool false)] H2 fun l72 H73 => γ 79 l72 H73 fun v70 H71 => optA (fieldA ti70 v1 1) fun v74 => optA (ldV false 1 v74 H71) fun v75 => frzLK [a1, v75] H71 fun l78 H79 => γ 80 l78 H79 fun v76 H77 => retF [] H77 K) (frzLK [a0] H2 fun l82 H83 => γ 32 l82 H83 fun v80 H81 => frzLK [a1] H81 fun l86 H87 => γ 81 l86 H87 fun v84 H85 => retF [] H85 K))))
noncomputable def r28_0 : List Oper := regOps Try.f28 0
noncomputable def r28_1 : List Oper := regOps Try.f28 1
noncomputable def r28_2 : List Oper := regOps Try.f28 2
noncomputable def r28_3 : List Oper := regOps Try.f28 3
noncomputable def r28_4 : List Oper := regOps Try.f28 4
noncomputable def r28_5 : List Oper := regOps Try.f28 5
noncomputable def r28_6 : List Oper := regOps Try.f28 6
noncomputable def r28_7 : List Oper := regOps Try.f28 7
noncomputable def r28_8 : List Oper := regOps Try.f28 8
noncomputable def r28_9 : List Oper := regOps Try.f28 9
noncomputable def r28_10 : List Oper := regOps Try.f28 10
noncomputable def r28_11 : List Oper := regOps Try.f28 11
noncomputable def r28_12 : List Oper := regOps Try.f28 12
noncomputable def c28 : Code := (.seq (.region 0 #[opAt r28_0 0] false) (.seq (.region 1 #[opAt r28_1 0, opAt r28_1 1] false) (.block 0 (.seq (.seq (.region 4 #[opAt r28_2 0, opAt r28_2 1] false) (.cond (.tmp 12) .skip (.region 5 #[opAt r28_3 0, opAt r28_3 1] false))) (.cond (.tmp 12) (.seq (.region 6 #[opAt r28_4 0, opAt r28_4 1, opAt r28_4 2, opAt r28_4 3] false) (.region 7 #[opAt r28_5 0, opAt r28_5 1, opAt r28_5 2, opAt r28_5 3] false)) (.seq (.region 8 #[opAt r28_6 0, opAt r28_6 1] false) (.cond (.tmp 23) (.region 9 #[opAt r28_7 0, opAt r28_7 1, opAt r28_7 2, opAt r28_7 3] false) (.seq (.region 10 #[opAt r28_8 0, opAt r28_8 1] false) (.cond (.tmp 29) (.seq (.region 11 #[opAt r28_9 0, opAt r28_9 1, opAt r28_9 2, opAt r28_9 3] false) (.region 12 #[opAt r28_10 0, opAt r28_10 1, opAt r28_10 2, opAt r28_10 3] false)) (.seq (.region 2 #[opAt r28_11 0, opAt r28_11 1] false) (.region 3 #[opAt r28_12 0, opAt r28_12 1] false)))))))))))
theorem c28_eq : Try.f28.body = some c28 := by kernel_rfl
theorem S28_eq (γ : Calld) (a0 a1 a2 : AV) (H : AHeap) (K : AV → AHeap → Prop) : execC Try.prog γ pol28 Try.f28 c28 [a0, a1, a2] H K = S28 γ a0 a1 a2 H K := by kernel_rfl
theorem C28 {a0 a1 a2 : AV} {H : AHeap} {K : AV → AHeap → Prop} (h : S28 (CallsA Try.prog) a0 a1 a2 H K) : CallsA Try.prog 28 [a0, a1, a2] H K :=
  calls_of Try.func28 (ne_of_beq_false (by kernel_rfl)) c28_eq (by kernel_rfl) (by rw [S28_eq]; exact h)
/-! (*tithing/bus.Bus).Clashes -/
def pol29 : Pol := { lend := fun g => !([82, 161] : List Nat).contains g, keep := [0, 3, 4, 5, 6, 13, 14, 15], frz := fun _ => [], perm := fun r => if r = 11 then [0, 1, 2, 3, 4, 5, 6, 7, 8, 9, 10, 11, 12, 13, 14, 15, 16, 17, 18, 19, 20, 21, 22] else [], bf := fun r => if r = 11 then [0, 1, 3, 7, 15, 31, 63, 127, 255, 511, 1023, 2047, 4095, 8191, 16383, 32767, 65535, 8191, 139263, 401407, 925695, 2097151, 4194303] else [], ret := true }
def S29 (γ : Calld) (a0 : AV) (H : AHeap) (K : AV → AHeap → Prop) : Prop :=
  frzLK [a0] H fun l3 H4 => γ 76 l3 H4 fun v1 H2 => ifA v1 (retF [.d (.sl true [])] H2 K) (optA (nilCkA a0) fun v5 => optA (fieldA ti156 v5 2) fun v6 => optA (ldV false 1 v6 H2) fun v7 => optA (lenSl v7) fun v8 => loopA (fun X9 l10 H11 => optA (intA .lss (l10.getD 7 .junk) (l10.getD 6 .junk)) fun v12 => ifA v12 (optA (indexAddrA ti154 1 (l10.getD 5 .junk) (l10.getD 7 .junk)) fun v13 => optA (ldV false 1 v13 H11) fun v14 => optA (intA .add (l10.getD 7 .junk) (.d (.int .i64 1))) fun v15 => loopA (fun X16 l17 H18 => optA (nilCkA (l17.getD 0 .junk)) fun v19 => optA (fieldA ti156 v19 2) fun v20 => optA (ldV false 1 v20 H18) fun v21 => optA (lenSl v21) fun v22 => optA (intA .lss (l17.getD 4 .junk) v22) fun v23 => ifA v23 (optA (nilCkA (l17.getD 0 .junk)) fun v24 => optA (fieldA ti156 v24 2) fun v25 => optA (ldV false 1 v25 H18) fun v26 => optA (indexAddrA ti154 1 v26 (l17.getD 4 .junk)) fun v27 => optA (ldV false 1 v27 H18) fun v28 => drA true (optA (nilCkA (l17.getD 3 .junk)) fun v29 => optA (fieldA ti162 v29 2) fun v30 => optA (ldV false 1 v30 H18) fun v31 => optA (intA .eql v31 (.d (.int .i64 2))) fun v32 => ifA v32 (optA (nilCkA v28) fun v33 => optA (fieldA ti162 v33 2) fun v34 => optA (ldV false 1 v34 H18) fun v35 => optA (intA .eql v35 (.d (.int .i64 2))) fun v36 => ifA v36 (optA (nilCkA (l17.getD 3 .junk)) fun v37 => optA (fieldA ti162 v37 5) fun v38 => optA (ldV false 1 v38 H18) fun v39 => optA (nilCkA v28) fun v40 => optA (fieldA ti162 v40 5) fun v41 => optA (ldV false 1 v41 H18) fun v42 => optA (intA .eql v39 v42) fun v43 => ifA v43 (stepK (bdA Try.prog ti170 [0, 1] [l17.getD 2 .junk, l17.getD 4 .junk] H18) H18 fun v44 H45 => newK H45 (fun n48 => bsA ti170 1 [0] [v44] H45 n48) fun v46 H47 => newK H47 (fun n51 => apA 2 16 (l17.getD 1 .junk) v46 H47 n51) fun v49 H50 => optA (intA .add (l17.getD 4 .junk) (.d (.int .i64 1))) fun v52 => X16 [l17.getD 0 .junk, v49, l17.getD 2 .junk, l17.getD 3 .junk, v52, l17.getD 5 .junk, l17.getD 6 .junk, l17.getD 7 .junk] H50) (optA (intA .add (l17.getD 4 .junk) (.d (.int .i64 1))) fun v53 => X16 [l17.getD 0 .junk, l17.getD 1 .junk, l17.getD 2 .junk, l17.getD 3 .junk, v53, l17.getD 5 .junk, l17.getD 6 .junk, l17.getD 7 .junk] H18)) (optA (intA .add (l17.getD 4 .junk) (.d (.int .i64 1))) fun v54 => X16 [l17.getD 0 .junk, l17.getD 1 .junk, l17.getD 2 .junk, l17.getD 3 .junk, v54, l17.getD 5 .junk, l17.getD 6 .junk, l17.getD 7 .junk] H18)) (optA (intA .add (l17.getD 4 .junk) (.d (.int .i64 1))) fun v55 => X16 [l17.getD 0 .junk, l17.getD 1 .junk, l17.getD 2 .junk, l17.getD 3 .junk, v55, l17.getD 5 .junk, l17.getD 6 .junk, l17.getD 7 .junk] H18))) (optA (intA .add (l17.getD 7 .junk) (.d (.int .i64 1))) fun v56 => X9 [l17.getD 0 .junk, l17.getD 1 .junk, l17.getD 2 .junk, l17.getD 3 .junk, l17.getD 4 .junk, l17.getD 5 .junk, l17.getD 6 .junk, v56] H18)) [l10.getD 0 .junk, l10.getD 1 .junk, l10.getD 7 .junk, v14, v15, l10.getD 5 .junk, l10.getD 6 .junk, l10.getD 7 .junk] H11) (retF [l10.getD 1 .junk] H11 K)) [a0, .d (.sl true []), .junk, .junk, .junk, v7, v8, .d (.int .i64 0)] H2)
noncomputable def r29_0 : List Oper := regOps Try.f29 0
noncomputable def r29_1 : List Oper := regOps Try.f29 1
noncomputable def r29_2 : List Oper := regOps Try.f29 2
noncomputable def r29_3 : List Oper := regOps Try.f29 3
noncomputable def r29_4 : List Oper := regOps Try.f29 4
noncomputable def r29_5 : List Oper := regOps Try.f29 5
noncomputable def r29_6 : List Oper := regOps Try.f29 6
noncomputable def r29_7 : List Oper := regOps Try.f29 7
noncomputable def r29_8 : List Oper := regOps Try.f29 8
noncomputable def r29_9 : List Oper := regOps Try.f29 9
noncomputable def r29_10 : List Oper := regOps Try.f29 10
noncomputable def r29_11 : List Oper := regOps Try.f29 11
noncomputable def r29_12 : List Oper := regOps Try.f29 12
noncomputable def r29_13 : List Oper := regOps Try.f29 13
noncomputable def r29_14 : List Oper := regOps Try.f29 14
noncomputable def c29 : Code := (.seq (.region 0 #[opAt r29_0 0] false) (.seq (.seq (.region 1 #[opAt r29_1 0, opAt r29_1 1] false) (.cond (.tmp 9) (.seq (.region 2 #[opAt r29_2 0] false) .ret) .skip)) (.seq (.region 3 #[opAt r29_3 0] false) (.seq (.seq (.region 4 #[opAt r29_4 0, opAt r29_4 1, opAt r29_4 2, opAt r29_4 3, opAt r29_4 4, opAt r29_4 5] false) (.block 0 (.loop (.seq (.region 5 #[opAt r29_5 0] false) (.seq (.cond (.tmp 16) .skip (.exit 0)) (.seq (.block 1 (.seq (.region 6 #[opAt r29_6 0, opAt r29_6 1, opAt r29_6 2, opAt r29_6 3, opAt r29_6 4] false) (.seq (.region 7 #[opAt r29_7 0, opAt r29_7 1, opAt r29_7 2] false) (.block 2 (.loop (.seq (.seq (.region 8 #[opAt r29_8 0, opAt r29_8 1, opAt r29_8 2, opAt r29_8 3, opAt r29_8 4, opAt r29_8 5, opAt r29_8 6] false) (.cond (.tmp 28) .skip (.exit 2))) (.seq (.block 3 (.seq (.region 10 #[opAt r29_9 0, opAt r29_9 1, opAt r29_9 2, opAt r29_9 3, opAt r29_9 4, opAt r29_9 5, opAt r29_9 6, opAt r29_9 7] false) (.seq (.region 11 #[opAt r29_10 0, opAt r29_10 1, opAt r29_10 2, opAt r29_10 3, opAt r29_10 4, opAt r29_10 5, opAt r29_10 6, opAt r29_10 7, opAt r29_10 8, opAt r29_10 9, opAt r29_10 10, opAt r29_10 11, opAt r29_10 12, opAt r29_10 13, opAt r29_10 14, opAt r29_10 15, opAt r29_10 16, opAt r29_10 17, opAt r29_10 18, opAt r29_10 19, opAt r29_10 20, opAt r29_10 21, opAt r29_10 22] true) (.cond (.tmp 60) (.region 12 #[opAt r29_11 0, opAt r29_11 1, opAt r29_11 2, opAt r29_11 3, opAt r29_11 4, opAt r29_11 5, opAt r29_11 6] false) .skip)))) (.region 9 #[opAt r29_12 0, opAt r29_12 1, opAt r29_12 2] false)))))))) (.region 13 #[opAt r29_13 0, opAt r29_13 1] false))))))) (.seq (.region 14 #[opAt r29_14 0, opAt r29_14 1] false) .ret)))))
theorem c29_eq : Try.f29.body = some c29 := by kernel_rfl
theorem S29_eq (γ : Calld) (a0 : AV) (H : AHeap) (K : AV → AHeap → Prop) : execC Try.prog γ pol29 Try.f29 c29 [a0] H K = S29 γ a0 H K := by kernel_rfl
theorem C29 {a0 : AV} {H : AHeap} {K : AV → AHeap → Prop} (h : S29 (CallsA Try.prog) a0 H K) : CallsA Try.prog 29 [a0] H K :=
  calls_of Try.func29 (ne_of_beq_false (by kernel_rfl)) c29_eq (by kernel_rfl) (by rw [S29_eq]; exact h)
/-! (*tithing/probe.Link).Clashes -/
def pol30 : Pol := { lend := fun g => !([82, 161] : List Nat).contains g, keep := [0, 3, 4, 5, 6, 13, 14, 15], frz := fun _ => [], perm := fun r => if r = 11 then [0, 1, 2, 3, 4, 5, 6, 7, 8, 9, 10, 11, 12, 13, 14, 15, 16, 17, 18, 19, 20, 21, 22] else [], bf := fun r => if r = 11 then [0, 1, 3, 7, 15, 31, 63, 127, 255, 511, 1023, 2047, 4095, 8191, 16383, 32767, 65535, 8191, 139263, 401407, 925695, 2097151, 4194303] else [], ret := true }
def S30 (γ : Calld) (a0 : AV) (H : AHeap) (K : AV → AHeap → Prop) : Prop :=
  frzLK [a0] H fun l3 H4 => γ 77 l3 H4 fun v1 H2 => ifA v1 (retF [.d (.sl true [])] H2 K) (optA (nilCkA a0) fun v5 => optA (fieldA ti159 v5 3) fun v6 => optA (ldV false 1 v6 H2) fun v7 => optA (lenSl v7) fun v8 => loopA (fun X9 l10 H11 => optA (intA .lss (l10.getD 7 .junk) (l10.getD 6 .junk)) fun v12 => ifA v12 (optA (indexAddrA ti157 1 (l10.getD 5 .junk) (l10.getD 7 .junk)) fun v13 => optA (ldV false 1 v13 H11) fun v14 => optA (intA .add (l10.getD 7 .junk) (.d (.int .i64 1))) fun v15 => loopA (fun X16 l17 H18 => optA (nilCkA (l17.getD 0 .junk)) fun v19 => optA (fieldA ti159 v19 3) fun v20 => optA (ldV false 1 v20 H18) fun v21 => optA (lenSl v21) fun v22 => optA (intA .lss (l17.getD 4 .junk) v22) fun v23 => ifA v23 (optA (nilCkA (l17.getD 0 .junk)) fun v24 => optA (fieldA ti159 v24 3) fun v25 => optA (ldV false 1 v25 H18) fun v26 => optA (indexAddrA ti157 1 v26 (l17.getD 4 .junk)) fun v27 => optA (ldV false 1 v27 H18) fun v28 => drA true (optA (nilCkA (l17.getD 3 .junk)) fun v29 => optA (fieldA ti169 v29 1) fun v30 => optA (ldV false 1 v30 H18) fun v31 => optA (intA .eql v31 (.d (.int .i64 2))) fun v32 => ifA v32 (optA (nilCkA v28) fun v33 => optA (fieldA ti169 v33 1) fun v34 => optA (ldV false 1 v34 H18) fun v35 => optA (intA .eql v35 (.d (.int .i64 2))) fun v36 => ifA v36 (optA (nilCkA (l17.getD 3 .junk)) fun v37 => optA (fieldA ti169 v37 4) fun v38 => optA (ldV true 2 v38 H18) fun v39 => optA (nilCkA v28) fun v40 => optA (fieldA ti169 v40 4) fun v41 => optA (ldV true 2 v41 H18) fun v42 => optA (aggA Try.prog .eql 165 v39 v42) fun v43 => ifA v43 (stepK (bdA Try.prog ti170 [0, 1] [l17.getD 2 .junk, l17.getD 4 .junk] H18) H18 fun v44 H45 => newK H45 (fun n48 => bsA ti170 1 [0] [v44] H45 n48) fun v46 H47 => newK H47 (fun n51 => apA 2 16 (l17.getD 1 .junk) v46 H47 n51) fun v49 H50 => optA (intA .add (l17.getD 4 .junk) (.d (.int .i64 1))) fun v52 => X16 [l17.getD 0 .junk, v49, l17.getD 2 .junk, l17.getD 3 .junk, v52, l17.getD 5 .junk, l17.getD 6 .junk, l17.getD 7 .junk] H50) (optA (intA .add (l17.getD 4 .junk) (.d (.int .i64 1))) fun v53 => X16 [l17.getD 0 .junk, l17.getD 1 .junk, l17.getD 2 .junk, l17.getD 3 .junk, v53, l17.getD 5 .junk, l17.getD 6 .junk, l17.getD 7 .junk] H18)) (optA (intA .add (l17.getD 4 .junk) (.d (.int .i64 1))) fun v54 => X16 [l17.getD 0 .junk, l17.getD 1 .junk, l17.getD 2 .junk, l17.getD 3 .junk, v54, l17.getD 5 .junk, l17.getD 6 .junk, l17.getD 7 .junk] H18)) (optA (intA .add (l17.getD 4 .junk) (.d (.int .i64 1))) fun v55 => X16 [l17.getD 0 .junk, l17.getD 1 .junk, l17.getD 2 .junk, l17.getD 3 .junk, v55, l17.getD 5 .junk, l17.getD 6 .junk, l17.getD 7 .junk] H18))) (optA (intA .add (l17.getD 7 .junk) (.d (.int .i64 1))) fun v56 => X9 [l17.getD 0 .junk, l17.getD 1 .junk, l17.getD 2 .junk, l17.getD 3 .junk, l17.getD 4 .junk, l17.getD 5 .junk, l17.getD 6 .junk, v56] H18)) [l10.getD 0 .junk, l10.getD 1 .junk, l10.getD 7 .junk, v14, v15, l10.getD 5 .junk, l10.getD 6 .junk, l10.getD 7 .junk] H11) (retF [l10.getD 1 .junk] H11 K)) [a0, .d (.sl true []), .junk, .junk, .junk, v7, v8, .d (.int .i64 0)] H2)
noncomputable def r30_0 : List Oper := regOps Try.f30 0
noncomputable def r30_1 : List Oper := regOps Try.f30 1
noncomputable def r30_2 : List Oper := regOps Try.f30 2
noncomputable def r30_3 : List Oper := regOps Try.f30 3
noncomputable def r30_4 : List Oper := regOps Try.f30 4
noncomputable def r30_5 : List Oper := regOps Try.f30 5
noncomputable def r30_6 : List Oper := regOps Try.f30 6
noncomputable def r30_7 : List Oper := regOps Try.f30 7
noncomputable def r30_8 : List Oper := regOps Try.f30 8
noncomputable def r30_9 : List Oper := regOps Try.f30 9
noncomputable def r30_10 : List Oper := regOps Try.f30 10
noncomputable def r30_11 : List Oper := regOps Try.f30 11
noncomputable def r30_12 : List Oper := regOps Try.f30 12
noncomputable def r30_13 : List Oper := regOps Try.f30 13
noncomputable def r30_14 : List Oper := regOps Try.f30 14
noncomputable def c30 : Code := (.seq (.region 0 #[opAt r30_0 0] false) (.seq (.seq (.region 1 #[opAt r30_1 0, opAt r30_1 1] false) (.cond (.tmp 9) (.seq (.region 2 #[opAt r30_2 0] false) .ret) .skip)) (.seq (.region 3 #[opAt r30_3 0] false) (.seq (.seq (.region 4 #[opAt r30_4 0, opAt r30_4 1, opAt r30_4 2, opAt r30_4 3, opAt r30_4 4, opAt r30_4 5] false) (.block 0 (.loop (.seq (.region 5 #[opAt r30_5 0] false) (.seq (.cond (.tmp 16) .skip (.exit 0)) (.seq (.block 1 (.seq (.region 6 #[opAt r30_6 0, opAt r30_6 1, opAt r30_6 2, opAt r30_6 3, opAt r30_6 4] false) (.seq (.region 7 #[opAt r30_7 0, opAt r30_7 1, opAt r30_7 2] false) (.block 2 (.loop (.seq (.seq (.region 8 #[opAt r30_8 0, opAt r30_8 1, opAt r30_8 2, opAt r30_8 3, opAt r30_8 4, opAt r30_8 5, opAt r30_8 6] false) (.cond (.tmp 28) .skip (.exit 2))) (.seq (.block 3 (.seq (.region 10 #[opAt r30_9 0, opAt r30_9 1, opAt r30_9 2, opAt r30_9 3, opAt r30_9 4, opAt r30_9 5, opAt r30_9 6, opAt r30_9 7] false) (.seq (.region 11 #[opAt r30_10 0, opAt r30_10 1, opAt r30_10 2, opAt r30_10 3, opAt r30_10 4, opAt r30_10 5, opAt r30_10 6, opAt r30_10 7, opAt r30_10 8, opAt r30_10 9, opAt r30_10 10, opAt r30_10 11, opAt r30_10 12, opAt r30_10 13, opAt r30_10 14, opAt r30_10 15, opAt r30_10 16, opAt r30_10 17, opAt r30_10 18, opAt r30_10 19, opAt r30_10 20, opAt r30_10 21, opAt r30_10 22] true) (.cond (.tmp 60) (.region 12 #[opAt r30_11 0, opAt r30_11 1, opAt r30_11 2, opAt r30_11 3, opAt r30_11 4, opAt r30_11 5, opAt r30_11 6] false) .skip)))) (.region 9 #[opAt r30_12 0, opAt r30_12 1, opAt r30_12 2] false)))))))) (.region 13 #[opAt r30_13 0, opAt r30_13 1] false))))))) (.seq (.region 14 #[opAt r30_14 0, opAt r30_14 1] false) .ret)))))
theorem c30_eq : Try.f30.body = some c30 := by kernel_rfl
theorem S30_eq (γ : Calld) (a0 : AV) (H : AHeap) (K : AV → AHeap → Prop) : execC Try.prog γ pol30 Try.f30 c30 [a0] H K = S30 γ a0 H K := by kernel_rfl
theorem C30 {a0 : AV} {H : AHeap} {K : AV → AHeap → Prop} (h : S30 (CallsA Try.prog) a0 H K) : CallsA Try.prog 30 [a0] H K :=
  calls_of Try.func30 (ne_of_beq_false (by kernel_rfl)) c30_eq (by kernel_rfl) (by rw [S30_eq]; exact h)
/-! (*tithing/bus.Bus).Quiet -/
def pol31 : Pol := { lend := fun g => !([82, 161] : List Nat).contains g, keep := [], frz := fun _ => [], perm := fun r => [], bf := fun r => [], ret := true }
def S31 (γ : Calld) (a0 : AV) (H : AHeap) (K : AV → AHeap → Prop) : Prop :=
  frzLK [a0] H fun l3 H4 => γ 76 l3 H4 fun v1 H2 => optA (unA .not v1) fun v5 => ifA v5 (optA (nilCkA a0) fun v6 => optA (fieldA ti156 v6 2) fun v7 => optA (ldV false 1 v7 H2) fun v8 => γ 82 [v8, .func 83 [] []] H2 fun v9 H10 => optA (unA .not v9) fun v11 => retF [v11] H10 K) (retF [.d (.bool false)] H2 K)
noncomputable def r31_0 : List Oper := regOps Try.f31 0
noncomputable def r31_1 : List Oper := regOps Try.f31 1
noncomputable def c31 : Code := (.seq (.region 0 #[opAt r31_0 0] false) (.seq (.region 1 #[opAt r31_1 0, opAt r31_1 1, opAt r31_1 2, opAt r31_1 3, opAt r31_1 4, opAt r31_1 5, opAt r31_1 6, opAt r31_1 7, opAt r31_1 8, opAt r31_1 9, opAt r31_1 10, opAt r31_1 11] false) .ret))
theorem c31_eq : Try.f31.body = some c31 := by kernel_rfl
theorem S31_eq (γ : Calld) (a0 : AV) (H : AHeap) (K : AV → AHeap → Prop) : execC Try.prog γ pol31 Try.f31 c31 [a0] H K = S31 γ a0 H K := by kernel_rfl
theorem C31 {a0 : AV} {H : AHeap} {K : AV → AHeap → Prop} (h : S31 (CallsA Try.prog) a0 H K) : CallsA Try.prog 31 [a0] H K :=
  calls_of Try.func31 (ne_of_beq_false (by kernel_rfl)) c31_eq (by kernel_rfl) (by rw [S31_eq]; exact h)
/-! (*tithing/bus.Bus).Step -/
def pol32 : Pol := { lend := fun g => !([82, 161] : List Nat).contains g, keep := [0, 3, 4, 7, 9, 18, 19, 20, 47, 48, 49, 57, 58, 74, 75, 76], frz := fun _ => [], perm := fun r => if r = 26 then [0, 1, 2, 3, 4, 5, 6, 7, 8, 9, 10, 11] else [], bf := fun r => if r = 26 then [0, 1, 3, 7, 0, 31, 63, 0, 0, 384, 896, 2047] else [], ret := true, tail := fun r => ([26] : List Nat).contains r }
def S32 (γ : Calld) (a0 : AV) (H : AHeap) (K : AV → AHeap → Prop) : Prop :=
  frzLK [a0] H fun l3 H4 => γ 76 l3 H4 fun v1 H2 => ifA v1 (retF [.d (.int .i64 7)] H2 K) (optA (nilCkA a0) fun v5 => optA (fieldA ti156 v5 2) fun v6 => optA (ldV false 1 v6 H2) fun v7 => optA (lenSl v7) fun v8 => loopA (fun X9 l10 H11 => optA (intA .lss (l10.getD 7 .junk) (l10.getD 6 .junk)) fun v12 => ifA v12 (optA (indexAddrA ti154 1 (l10.getD 5 .junk) (l10.getD 7 .junk)) fun v13 => optA (ldV false 1 v13 H11) fun v14 => optA (nilCkA v14) fun v15 => optA (fieldA ti162 v15 2) fun v16 => optA (ldV false 1 v16 H11) fun v17 => optA (intA .eql v17 (.d (.int .i64 1))) fun v18 => ifA v18 (newK H11 (fun n21 => bsA ti3 1 [0] [l10.getD 7 .junk] H11 n21) fun v19 H20 => newK H20 (fun n24 => apA 1 8 (l10.getD 1 .junk) v19 H20 n24) fun v22 H23 => frzLK [l10.getD 0 .junk] H23 fun l27 H28 => γ 84 l27 H28 fun v25 H26 => ifA v25 (newK H26 (fun n31 => bsA ti3 1 [0] [l10.getD 7 .junk] H26 n31) fun v29 H30 => newK H30 (fun n34 => apA 1 8 (l10.getD 2 .junk) v29 H30 n34) fun v32 H33 => optA (intA .add (l10.getD 7 .junk) (.d (.int .i64 1))) fun v35 => X9 [l10.getD 0 .junk, v22, v32, l10.getD 3 .junk, l10.getD 4 .junk, l10.getD 5 .junk, l10.getD 6 .junk, v35, l10.getD 8 .junk, l10.getD 9 .junk, l10.getD 10 .junk, l10.getD 11 .junk, l10.getD 12 .junk, l10.getD 13 .junk, l10.getD 14 .junk, l10.getD 15 .junk] H33) (optA (intA .add (l10.getD 7 .junk) (.d (.int .i64 1))) fun v36 => X9 [l10.getD 0 .junk, v22, l10.getD 2 .junk, l10.getD 3 .junk, l10.getD 4 .junk, l10.getD 5 .junk, l10.getD 6 .junk, v36, l10.getD 8 .junk, l10.getD 9 .junk, l10.getD 10 .junk, l10.getD 11 .junk, l10.getD 12 .junk, l10.getD 13 .junk, l10.getD 14 .junk, l10.getD 15 .junk] H26)) (optA (intA .add (l10.getD 7 .junk) (.d (.int .i64 1))) fun v37 => X9 [l10.getD 0 .junk, l10.getD 1 .junk, l10.getD 2 .junk, l10.getD 3 .junk, l10.getD 4 .junk, l10.getD 5 .junk, l10.getD 6 .junk, v37, l10.getD 8 .junk, l10.getD 9 .junk, l10.getD 10 .junk, l10.getD 11 .junk, l10.getD 12 .junk, l10.getD 13 .junk, l10.getD 14 .junk, l10.getD 15 .junk] H11)) (optA (nilCkA (l10.getD 0 .junk)) fun v38 => optA (fieldA ti156 v38 2) fun v39 => optA (ldV false 1 v39 H11) fun v40 => optA (lenSl v40) fun v41 => newK H11 (fun n44 => mkSlA ti4 v41 v41 n44) fun v42 H43 => optA (lenSl (l10.getD 2 .junk)) fun v45 => loopA (fun X46 l47 H48 => optA (intA .lss (l47.getD 10 .junk) (l47.getD 9 .junk)) fun v49 => ifA v49 (optA (indexAddrA ti55 1 (l47.getD 8 .junk) (l47.getD 10 .junk)) fun v50 => optA (ldV false 1 v50 H48) fun v51 => optA (nilCkA (l47.getD 0 .junk)) fun v52 => optA (fieldA ti156 v52 2) fun v53 => optA (ldV false 1 v53 H48) fun v54 => optA (lenSl v54) fun v55 => loopA (fun X56 l57 H58 => optA (intA .lss (l57.getD 12 .junk) (l57.getD 11 .junk)) fun v59 => ifA v59 (frzLK [l57.getD 0 .junk, l57.getD 12 .junk, l57.getD 4 .junk] H58 fun l62 H63 => γ 85 l62 H63 fun v60 H61 => ifA v60 (frzLK [l57.getD 0 .junk] H61 fun l66 H67 => γ 84 l66 H67 fun v64 H65 => ifA v64 (optA (indexAddrA ti53 1 (l57.getD 3 .junk) (l57.getD 4 .junk)) fun v68 => stepK (stoA false 1 v68 (.d (.bool true)) H65) H65 fun v69 H70 => optA (intA .add (l57.getD 12 .junk) (.d (.int .i64 1))) fun v71 => X56 [l57.getD 0 .junk, l57.getD 1 .junk, l57.getD 2 .junk, l57.getD 3 .junk, l57.getD 4 .junk, l57.getD 5 .junk, l57.getD 6 .junk, l57.getD 7 .junk, l57.getD 8 .junk, l57.getD 9 .junk, l57.getD 10 .junk, l57.getD 11 .junk, v71, l57.getD 13 .junk, l57.getD 14 .junk, l57.getD 15 .junk] H70) (optA (intA .add (l57.getD 12 .junk) (.d (.int .i64 1))) fun v72 => X56 [l57.getD 0 .junk, l57.getD 1 .junk, l57.getD 2 .junk, l57.getD 3 .junk, l57.getD 4 .junk, l57.getD 5 .junk, l57.getD 6 .junk, l57.getD 7 .junk, l57.getD 8 .junk, l57.getD 9 .junk, l57.getD 10 .junk, l57.getD 11 .junk, v72, l57.getD 13 .junk, l57.getD 14 .junk, l57.getD 15 .junk] H65)) (optA (intA .add (l57.getD 12 .junk) (.d (.int .i64 1))) fun v73 => X56 [l57.getD 0 .junk, l57.getD 1 .junk, l57.getD 2 .junk, l57.getD 3 .junk, l57.getD 4 .junk, l57.getD 5 .junk, l57.getD 6 .junk, l57.getD 7 .junk, l57.getD 8 .junk, l57.getD 9 .junk, l57.getD 10 .junk, l57.getD 11 .junk, v73, l57.getD 13 .junk, l57.getD 14 .junk, l57.getD 15 .junk] H61)) (optA (intA .add (l57.getD 10 .junk) (.d (.int .i64 1))) fun v74 => X46 [l57.getD 0 .junk, l57.getD 1 .junk, l57.getD 2 .junk, l57.getD 3 .junk, l57.getD 4 .junk, l57.getD 5 .junk, l57.getD 6 .junk, l57.getD 7 .junk, l57.getD 8 .junk, l57.getD 9 .junk, v74, l57.getD 11 .junk, l57.getD 12 .junk, l57.getD 13 .junk, l57.getD 14 .junk, l57.getD 15 .junk] H58)) [l47.getD 0 .junk, l47.getD 1 .junk, l47.getD 2 .junk, l47.getD 3 .junk, v51, l47.getD 5 .junk, l47.getD 6 .junk, l47.getD 7 .junk, l47.getD 8 .junk, l47.getD 9 .junk, l47.getD 10 .junk, v55, .d (.int .i64 0), l47.getD 13 .junk, l47.getD 14 .junk, l47.getD 15 .junk] H48) (optA (lenSl (l47.getD 1 .junk)) fun v75 => loopA (fun X76 l77 H78 => optA (intA .lss (l77.getD 15 .junk) (l77.getD 14 .junk)) fun v79 => ifA v79 (optA (indexAddrA ti55 1 (l77.getD 13 .junk) (l77.getD 15 .junk)) fun v80 => optA (ldV false 1 v80 H78) fun v81 => drA true (optA (nilCkA (l77.getD 0 .junk)) fun v82 => optA (fieldA ti156 v82 2) fun v83 => optA (ldV false 1 v83 H78) fun v84 => optA (indexAddrA ti154 1 v84 v81) fun v85 => optA (ldV false 1 v85 H78) fun v86 => optA (indexAddrA ti53 1 (l77.getD 3 .junk) v81) fun v87 => optA (ldV false 1 v87 H78) fun v88 => frzLK [v86, v88] H78 fun l91 H92 => γ 86 l91 H92 fun v89 H90 => optA (intA .add (l77.getD 15 .junk) (.d (.int .i64 1))) fun v93 => X76 [l77.getD 0 .junk, l77.getD 1 .junk, l77.getD 2 .junk, l77.getD 3 .junk, l77.getD 4 .junk, l77.getD 5 .junk, l77.getD 6 .junk, l77.getD 7 .junk, l77.getD 8 .junk, l77.getD 9 .junk, l77.getD 10 .junk, l77.getD 11 .junk, l77.getD 12 .junk, l77.getD 13 .junk, l77.getD 14 .junk, v93] H90)) (retF [.d (.int .i64 0)] H78 K)) [l47.getD 0 .junk, l47.getD 1 .junk, l47.getD 2 .junk, l47.getD 3 .junk, l47.getD 4 .junk, l47.getD 5 .junk, l47.getD 6 .junk, l47.getD 7 .junk, l47.getD 8 .junk, l47.getD 9 .junk, l47.getD 10 .junk, l47.getD 11 .junk, l47.getD 12 .junk, l47.getD 1 .junk, v75, .d (.int .i64 0)] H48)) [l10.getD 0 .junk, l10.getD 1 .junk, l10.getD 2 .junk, v42, l10.getD 4 .junk, l10.getD 5 .junk, l10.getD 6 .junk, l10.getD 7 .junk, l10.getD 2 .junk, v45, .d (.int .i64 0), l10.getD 11 .junk, l10.getD 12 .junk, l10.getD 13 .junk, l10.getD 14 .junk, l10.getD 15 .junk] H43)) [a0, .d (.sl true []), .d (.sl true []), .junk, .junk, v7, v8, .d (.int .i64 0), .junk, .junk, .junk, .junk, .junk, .junk, .junk, .junk] H2)
noncomputable def r32_0 : List Oper := regOps Try.f32 0
noncomputable def r32_1 : List Oper := regOps Try.f32 1
noncomputable def r32_2 : List Oper := regOps Try.f32 2
noncomputable def r32_3 : List Oper := regOps Try.f32 3
noncomputable def r32_4 : List Oper := regOps Try.f32 4
noncomputable def r32_5 : List Oper := regOps Try.f32 5
noncomputable def r32_6 : List Oper := regOps Try.f32 6
noncomputable def r32_7 : List Oper := regOps Try.f32 7
noncomputable def r32_8 : List Oper := regOps Try.f32 8
noncomputable def r32_9 : List Oper := regOps Try.f32 9
noncomputable def r32_10 : List Oper := regOps Try.f32 10
noncomputable def r32_11 : List Oper := regOps Try.f32 11
noncomputable def r32_12 : List Oper := regOps Try.f32 12
noncomputable def r32_13 : List Oper := regOps Try.f32 13
noncomputable def r32_14 : List Oper := regOps Try.f32 14
noncomputable def r32_15 : List Oper := regOps Try.f32 15
noncomputable def r32_16 : List Oper := regOps Try.f32 16
noncomputable def r32_17 : List Oper := regOps Try.f32 17
noncomputable def r32_18 : List Oper := regOps Try.f32 18
noncomputable def r32_19 : List Oper := regOps Try.f32 19
noncomputable def r32_20 : List Oper := regOps Try.f32 20
noncomputable def r32_21 : List Oper := regOps Try.f32 21
noncomputable def r32_22 : List Oper := regOps Try.f32 22
noncomputable def r32_23 : List Oper := regOps Try.f32 23
noncomputable def r32_24 : List Oper := regOps Try.f32 24
noncomputable def r32_25 : List Oper := regOps Try.f32 25
noncomputable def r32_26 : List Oper := regOps Try.f32 26
noncomputable def r32_27 : List Oper := regOps Try.f32 27
noncomputable def r32_28 : List Oper := regOps Try.f32 28
noncomputable def c32 : Code := (.seq (.region 0 #[opAt r32_0 0] false) (.seq (.seq (.region 1 #[opAt r32_1 0, opAt r32_1 1] false) (.cond (.tmp 14) (.seq (.region 2 #[opAt r32_2 0] false) .ret) .skip)) (.seq (.region 3 #[opAt r32_3 0, opAt r32_3 1] false) (.seq (.seq (.region 4 #[opAt r32_4 0, opAt r32_4 1, opAt r32_4 2, opAt r32_4 3, opAt r32_4 4, opAt r32_4 5] false) (.block 0 (.loop (.seq (.region 5 #[opAt r32_5 0] false) (.seq (.cond (.tmp 21) .skip (.exit 0)) (.seq (.block 1 (.seq (.region 6 #[opAt r32_6 0, opAt r32_6 1, opAt r32_6 2, opAt r32_6 3, opAt r32_6 4] false) (.seq (.region 7 #[opAt r32_7 0, opAt r32_7 1, opAt r32_7 2, opAt r32_7 3, opAt r32_7 4] false) (.cond (.tmp 29) (.seq (.region 8 #[opAt r32_8 0, opAt r32_8 1, opAt r32_8 2, opAt r32_8 3, opAt r32_8 4] false) (.seq (.region 9 #[opAt r32_9 0, opAt r32_9 1] false) (.cond (.tmp 35) (.region 10 #[opAt r32_10 0, opAt r32_10 1, opAt r32_10 2, opAt r32_10 3, opAt r32_10 4] false) .skip))) .skip)))) (.region 11 #[opAt r32_11 0, opAt r32_11 1] false))))))) (.seq (.region 12 #[opAt r32_12 0, opAt r32_12 1, opAt r32_12 2, opAt r32_12 3, opAt r32_12 4, opAt r32_12 5, opAt r32_12 6] false) (.seq (.seq (.region 13 #[opAt r32_13 0, opAt r32_13 1, opAt r32_13 2] false) (.block 2 (.loop (.seq (.region 14 #[opAt r32_14 0] false) (.seq (.cond (.tmp 50) .skip (.exit 2)) (.seq (.block 3 (.seq (.region 15 #[opAt r32_15 0, opAt r32_15 1, opAt r32_15 2] false) (.seq (.region 16 #[opAt r32_16 0, opAt r32_16 1, opAt r32_16 2, opAt r32_16 3, opAt r32_16 4, opAt r32_16 5] false) (.block 4 (.loop (.seq (.region 17 #[opAt r32_17 0] false) (.seq (.cond (.tmp 59) .skip (.exit 4)) (.seq (.block 5 (.seq (.region 18 #[opAt r32_18 0, opAt r32_18 1] false) (.seq (.region 19 #[opAt r32_19 0, opAt r32_19 1, opAt r32_19 2, opAt r32_19 3, opAt r32_19 4, opAt r32_19 5, opAt r32_19 6, opAt r32_19 7] false) (.cond (.tmp 68) (.region 20 #[opAt r32_20 0, opAt r32_20 1, opAt r32_20 2, opAt r32_20 3] false) .skip)))) (.region 21 #[opAt r32_21 0, opAt r32_21 1] false))))))))) (.region 22 #[opAt r32_22 0, opAt r32_22 1] false))))))) (.seq (.seq (.region 23 #[opAt r32_23 0, opAt r32_23 1, opAt r32_23 2] false) (.block 6 (.loop (.seq (.region 24 #[opAt r32_24 0] false) (.seq (.cond (.tmp 77) .skip (.exit 6)) (.seq (.block 7 (.seq (.region 25 #[opAt r32_25 0, opAt r32_25 1, opAt r32_25 2] false) (.region 26 #[opAt r32_26 0, opAt r32_26 1, opAt r32_26 2, opAt r32_26 3, opAt r32_26 4, opAt r32_26 5, opAt r32_26 6, opAt r32_26 7, opAt r32_26 8, opAt r32_26 9, opAt r32_26 10, opAt r32_26 11] true))) (.region 27 #[opAt r32_27 0, opAt r32_27 1] false))))))) (.seq (.region 28 #[opAt r32_28 0] false) .ret))))))))
theorem c32_eq : Try.f32.body = some c32 := by kernel_rfl
theorem S32_eq (γ : Calld) (a0 : AV) (H : AHeap) (K : AV → AHeap → Prop) : execC Try.prog γ pol32 Try.f32 c32 [a0] H K = S32 γ a0 H K := by kernel_rfl
theorem C32 {a0 : AV} {H : AHeap} {K : AV → AHeap → Prop} (h : S32 (CallsA Try.prog) a0 H K) : CallsA Try.prog 32 [a0] H K :=
  calls_of Try.func32 (ne_of_beq_false (by kernel_rfl)) c32_eq (by kernel_rfl) (by rw [S32_eq]; exact h)
/-! slices.Clone[[]int,int] -/
def pol58 : Pol := { lend := fun g => !([82, 161] : List Nat).contains g, keep := [], frz := fun _ => [], perm := fun r => [], bf := fun r => [], ret := true }
def S58 (γ : Calld) (a0 : AV) (H : AHeap) (K : AV → AHeap → Prop) : Prop :=
  optA (nilA 0 .eql a0 (.d (.sl true []))) fun v1 => ifA v1 (retF [.d (.sl true [])] H K) (newK H (fun n4 => bsA ti3 0 [] [] H n4) fun v2 H3 => newK H3 (fun n7 => apA 1 8 v2 a0 H3 n7) fun v5 H6 => retF [v5] H6 K)
noncomputable def r58_0 : List Oper := regOps Try.f58 0
noncomputable def r58_1 : List Oper := regOps Try.f58 1
noncomputable def r58_2 : List Oper := regOps Try.f58 2
noncomputable def r58_3 : List Oper := regOps Try.f58 3
noncomputable def c58 : Code := (.seq (.region 0 #[opAt r58_0 0] false) (.seq (.seq (.region 1 #[opAt r58_1 0, opAt r58_1 1] false) (.cond (.tmp 4) (.seq (.region 2 #[opAt r58_2 0] false) .ret) .skip)) (.seq (.region 3 #[opAt r58_3 0, opAt r58_3 1, opAt r58_3 2, opAt r58_3 3] false) .ret)))
theorem c58_eq : Try.f58.body = some c58 := by kernel_rfl
theorem S58_eq (γ : Calld) (a0 : AV) (H : AHeap) (K : AV → AHeap → Prop) : execC Try.prog γ pol58 Try.f58 c58 [a0] H K = S58 γ a0 H K := by kernel_rfl
theorem C58 {a0 : AV} {H : AHeap} {K : AV → AHeap → Prop} (h : S58 (CallsA Try.prog) a0 H K) : CallsA Try.prog 58 [a0] H K :=
  calls_of Try.func58 (ne_of_beq_false (by kernel_rfl)) c58_eq (by kernel_rfl) (by rw [S58_eq]; exact h)
/-! (*tithing/bus.Bus).Guess -/
def pol72 : Pol := { lend := fun g => !([82, 161] : List Nat).contains g, keep := [], frz := fun _ => [], perm := fun r => [], bf := fun r => [], ret := true }
def S72 (γ : Calld) (a0 a1 : AV) (H : AHeap) (K : AV → AHeap → Prop) : Prop :=
  frzLK [a0, a1] H fun l3 H4 => γ 150 l3 H4 fun v1 H2 => optA (intA .neq v1 (.d (.int .i64 0))) fun v5 => ifA v5 (retF [v1] H2 K) (optA (nilCkA a0) fun v6 => optA (fieldA ti156 v6 2) fun v7 => optA (ldV false 1 v7 H2) fun v8 => optA (indexAddrA ti154 1 v8 a1) fun v9 => optA (ldV false 1 v9 H2) fun v10 => optA (nilCkA v10) fun v11 => optA (fieldA ti162 v11 1) fun v12 => optA (ldV false 1 v12 H2) fun v13 => optA (unA .not v13) fun v14 => ifA v14 (retF [.d (.int .i64 2)] H2 K) (optA (nilCkA v10) fun v15 => optA (fieldA ti162 v15 2) fun v16 => optA (ldV false 1 v16 H2) fun v17 => optA (intA .neq v17 (.d (.int .i64 1))) fun v18 => ifA v18 (optA (nilCkA v10) fun v19 => optA (fieldA ti162 v19 2) fun v20 => stepK (stoA false 1 v20 (.d (.int .i64 1)) H2) H2 fun v21 H22 => optA (nilCkA v10) fun v23 => optA (fieldA ti162 v23 3) fun v24 => stepK (stoA false 1 v24 (.d (.int .i64 0)) H22) H22 fun v25 H26 => optA (nilCkA v10) fun v27 => optA (fieldA ti162 v27 4) fun v28 => stepK (stoA false 1 v28 (.d (.int .i64 0)) H26) H26 fun v29 H30 => retF [.d (.int .i64 0)] H30 K) (retF [.d (.int .i64 0)] H2 K)))
noncomputable def r72_0 : List Oper := regOps Try.f72 0
noncomputable def r72_1 : List Oper := regOps Try.f72 1
noncomputable def r72_2 : List Oper := regOps Try.f72 2
noncomputable def r72_3 : List Oper := regOps Try.f72 3
noncomputable def r72_4 : List Oper := regOps Try.f72 4
noncomputable def r72_5 : List Oper := regOps Try.f72 5
noncomputable def r72_6 : List Oper := regOps Try.f72 6
noncomputable def r72_7 : List Oper := regOps Try.f72 7
noncomputable def r72_8 : List Oper := regOps Try.f72 8
noncomputable def r72_9 : List Oper := regOps Try.f72 9
noncomputable def c72 : Code := (.seq (.region 0 #[opAt r72_0 0] false) (.seq (.seq (.region 1 #[opAt r72_1 0, opAt r72_1 1, opAt r72_1 2, opAt r72_1 3] false) (.seq (.region 2 #[opAt r72_2 0, opAt r72_2 1] false) (.cond (.tmp 11) (.seq (.region 3 #[opAt r72_3 0, opAt r72_3 1] false) .ret) .skip))) (.seq (.region 4 #[opAt r72_4 0, opAt r72_4 1, opAt r72_4 2, opAt r72_4 3, opAt r72_4 4, opAt r72_4 5, opAt r72_4 6, opAt r72_4 7] false) (.seq (.block 0 (.seq (.region 5 #[opAt r72_5 0, opAt r72_5 1, opAt r72_5 2, opAt r72_5 3, opAt r72_5 4, opAt r72_5 5] false) (.cond (.tmp 20) (.seq (.region 6 #[opAt r72_6 0] false) .ret) (.seq (.region 7 #[opAt r72_7 0, opAt r72_7 1, opAt r72_7 2, opAt r72_7 3, opAt r72_7 4, opAt r72_7 5] false) (.cond (.tmp 26) (.region 8 #[opAt r72_8 0, opAt r72_8 1, opAt r72_8 2, opAt r72_8 3, opAt r72_8 4, opAt r72_8 5, opAt r72_8 6, opAt r72_8 7, opAt r72_8 8, opAt r72_8 9, opAt r72_8 10, opAt r72_8 11] false) .skip))))) (.seq (.region 9 #[opAt r72_9 0] false) .ret)))))
theorem c72_eq : Try.f72.body = some c72 := by kernel_rfl
theorem S72_eq (γ : Calld) (a0 a1 : AV) (H : AHeap) (K : AV → AHeap → Prop) : execC Try.prog γ pol72 Try.f72 c72 [a0, a1] H K = S72 γ a0 a1 H K := by kernel_rfl
theorem C72 {a0 a1 : AV} {H : AHeap} {K : AV → AHeap → Prop} (h : S72 (CallsA Try.prog) a0 a1 H K) : CallsA Try.prog 72 [a0, a1] H K :=
  calls_of Try.func72 (ne_of_beq_false (by kernel_rfl)) c72_eq (by kernel_rfl) (by rw [S72_eq]; exact h)
/-! (*tithing/bus.Bus).Node -/
def pol73 : Pol := { lend := fun g => !([82, 161] : List Nat).contains g, keep := [], frz := fun _ => [], perm := fun r => [], bf := fun r => [], ret := true }
def S73 (γ : Calld) (a0 a1 : AV) (H : AHeap) (K : AV → AHeap → Prop) : Prop :=
  frzLK [a0, a1] H fun l3 H4 => γ 150 l3 H4 fun v1 H2 => optA (intA .neq v1 (.d (.int .i64 0))) fun v5 => ifA v5 (retF [.d (.int .i64 0)] H2 K) (optA (nilCkA a0) fun v6 => optA (fieldA ti156 v6 2) fun v7 => optA (ldV false 1 v7 H2) fun v8 => optA (indexAddrA ti154 1 v8 a1) fun v9 => optA (ldV false 1 v9 H2) fun v10 => optA (nilCkA v10) fun v11 => optA (fieldA ti162 v11 2) fun v12 => optA (ldV false 1 v12 H2) fun v13 => optA (intA .eql v13 (.d (.int .i64 1))) fun v14 => ifA v14 (frzLK [v10] H2 fun l17 H18 => γ 151 l17 H18 fun v15 H16 => retF [v15] H16 K) (optA (intA .eql v13 (.d (.int .i64 2))) fun v19 => ifA v19 (optA (nilCkA v10) fun v20 => optA (fieldA ti162 v20 5) fun v21 => optA (ldV false 1 v21 H2) fun v22 => retF [v22] H2 K) (retF [.d (.int .i64 0)] H2 K)))
noncomputable def r73_0 : List Oper := regOps Try.f73 0
noncomputable def r73_1 : List Oper := regOps Try.f73 1
noncomputable def r73_2 : List Oper := regOps Try.f73 2
noncomputable def r73_3 : List Oper := regOps Try.f73 3
noncomputable def r73_4 : List Oper := regOps Try.f73 4
noncomputable def r73_5 : List Oper := regOps Try.f73 5
noncomputable def r73_6 : List Oper := regOps Try.f73 6
noncomputable def r73_7 : List Oper := regOps Try.f73 7
noncomputable def r73_8 : List Oper := regOps Try.f73 8
noncomputable def r73_9 : List Oper := regOps Try.f73 9
noncomputable def c73 : Code := (.seq (.region 0 #[opAt r73_0 0] false) (.seq (.seq (.region 1 #[opAt r73_1 0, opAt r73_1 1, opAt r73_1 2, opAt r73_1 3] false) (.cond (.tmp 9) (.seq (.region 2 #[opAt r73_2 0] false) .ret) .skip)) (.seq (.seq (.region 3 #[opAt r73_3 0, opAt r73_3 1, opAt r73_3 2, opAt r73_3 3, opAt r73_3 4, opAt r73_3 5, opAt r73_3 6, opAt r73_3 7] false) (.seq (.region 4 #[opAt r73_4 0, opAt r73_4 1, opAt r73_4 2, opAt r73_4 3] false) (.block 0 (.seq (.region 5 #[opAt r73_5 0, opAt r73_5 1] false) (.cond (.tmp 21) (.seq (.region 6 #[opAt r73_6 0, opAt r73_6 1, opAt r73_6 2] false) .ret) (.seq (.region 7 #[opAt r73_7 0, opAt r73_7 1] false) (.cond (.tmp 25) (.seq (.region 8 #[opAt r73_8 0, opAt r73_8 1, opAt r73_8 2, opAt r73_8 3, opAt r73_8 4] false) .ret) .skip))))))) (.seq (.region 9 #[opAt r73_9 0] false) .ret))))
theorem c73_eq : Try.f73.body = some c73 := by kernel_rfl
theorem S73_eq (γ : Calld) (a0 a1 : AV) (H : AHeap) (K : AV → AHeap → Prop) : execC Try.prog γ pol73 Try.f73 c73 [a0, a1] H K = S73 γ a0 a1 H K := by kernel_rfl
theorem C73 {a0 a1 : AV} {H : AHeap} {K : AV → AHeap → Prop} (h : S73 (CallsA Try.prog) a0 a1 H K) : CallsA Try.prog 73 [a0, a1] H K :=
  calls_of Try.func73 (ne_of_beq_false (by kernel_rfl)) c73_eq (by kernel_rfl) (by rw [S73_eq]; exact h)
/-! slices.Sorted[int] -/
def pol74 : Pol := { lend := fun g => !([82, 161] : List Nat).contains g, keep := [], frz := fun _ => [], perm := fun r => [], bf := fun r => [], ret := true }
def S74 (γ : Calld) (a0 : AV) (H : AHeap) (K : AV → AHeap → Prop) : Prop :=
  frzLK [a0] H fun l3 H4 => γ 152 l3 H4 fun v1 H2 => frzLK [v1] H2 fun l7 H8 => γ 153 l7 H8 fun v5 H6 => retF [v1] H6 K
noncomputable def r74_0 : List Oper := regOps Try.f74 0
noncomputable def r74_1 : List Oper := regOps Try.f74 1
noncomputable def r74_2 : List Oper := regOps Try.f74 2
noncomputable def r74_3 : List Oper := regOps Try.f74 3
noncomputable def c74 : Code := (.seq (.region 0 #[opAt r74_0 0] false) (.seq (.region 1 #[opAt r74_1 0, opAt r74_1 1, opAt r74_1 2] false) (.seq (.region 2 #[opAt r74_2 0, opAt r74_2 1] false) (.seq (.region 3 #[opAt r74_3 0, opAt r74_3 1] false) .ret))))
theorem c74_eq : Try.f74.body = some c74 := by kernel_rfl
theorem S74_eq (γ : Calld) (a0 : AV) (H : AHeap) (K : AV → AHeap → Prop) : execC Try.prog γ pol74 Try.f74 c74 [a0] H K = S74 γ a0 H K := by kernel_rfl
theorem C74 {a0 : AV} {H : AHeap} {K : AV → AHeap → Prop} (h : S74 (CallsA Try.prog) a0 H K) : CallsA Try.prog 74 [a0] H K :=
  calls_of Try.func74 (ne_of_beq_false (by kernel_rfl)) c74_eq (by kernel_rfl) (by rw [S74_eq]; exact h)
/-! slices.Values[[]int,int] -/
def pol75 : Pol := { lend := fun g => !([82, 161] : List Nat).contains g, keep := [], frz := fun _ => [], perm := fun r => [], bf := fun r => [], ret := true }
def S75 (γ : Calld) (a0 : AV) (H : AHeap) (K : AV → AHeap → Prop) : Prop :=
  newK H (fun n3 => boxA a0 n3) fun v1 H2 => retF [.func 154 [] [v1]] H2 K
noncomputable def r75_0 : List Oper := regOps Try.f75 0
noncomputable def r75_1 : List Oper := regOps Try.f75 1
noncomputable def c75 : Code := (.seq (.region 0 #[opAt r75_0 0, opAt r75_0 1] false) (.seq (.region 1 #[opAt r75_1 0, opAt r75_1 1] false) .ret))
theorem c75_eq : Try.f75.body = some c75 := by kernel_rfl
theorem S75_eq (γ : Calld) (a0 : AV) (H : AHeap) (K : AV → AHeap → Prop) : execC Try.prog γ pol75 Try.f75 c75 [a0] H K = S75 γ a0 H K := by kernel_rfl
theorem C75 {a0 : AV} {H : AHeap} {K : AV → AHeap → Prop} (h : S75 (CallsA Try.prog) a0 H K) : CallsA Try.prog 75 [a0] H K :=
  calls_of Try.func75 (ne_of_beq_false (by kernel_rfl)) c75_eq (by kernel_rfl) (by rw [S75_eq]; exact h)
/-! (*tithing/bus.Bus).none -/
def pol76 : Pol := { lend := fun g => !([82, 161] : List Nat).contains g, keep := [], frz := fun _ => [], perm := fun r => [], bf := fun r => [], ret := true }
def S76 (γ : Calld) (a0 : AV) (H : AHeap) (K : AV → AHeap → Prop) : Prop :=
  optA (nilA 3 .eql a0 .nilptr) fun v1 => ifA v1 (retF [.d (.bool true)] H K) (optA (nilCkA a0) fun v2 => optA (fieldA ti156 v2 0) fun v3 => optA (ldV false 1 v3 H) fun v4 => optA (unA .not v4) fun v5 => retF [v5] H K)
noncomputable def r76_0 : List Oper := regOps Try.f76 0
noncomputable def r76_1 : List Oper := regOps Try.f76 1
noncomputable def c76 : Code := (.seq (.region 0 #[opAt r76_0 0] false) (.seq (.region 1 #[opAt r76_1 0, opAt r76_1 1, opAt r76_1 2, opAt r76_1 3, opAt r76_1 4, opAt r76_1 5, opAt r76_1 6, opAt r76_1 7, opAt r76_1 8, opAt r76_1 9] false) .ret))
theorem c76_eq : Try.f76.body = some c76 := by kernel_rfl
theorem S76_eq (γ : Calld) (a0 : AV) (H : AHeap) (K : AV → AHeap → Prop) : execC Try.prog γ pol76 Try.f76 c76 [a0] H K = S76 γ a0 H K := by kernel_rfl
theorem C76 {a0 : AV} {H : AHeap} {K : AV → AHeap → Prop} (h : S76 (CallsA Try.prog) a0 H K) : CallsA Try.prog 76 [a0] H K :=
  calls_of Try.func76 (ne_of_beq_false (by kernel_rfl)) c76_eq (by kernel_rfl) (by rw [S76_eq]; exact h)
/-! (*tithing/probe.Link).none -/
def pol77 : Pol := { lend := fun g => !([82, 161] : List Nat).contains g, keep := [], frz := fun _ => [], perm := fun r => [], bf := fun r => [], ret := true }
def S77 (γ : Calld) (a0 : AV) (H : AHeap) (K : AV → AHeap → Prop) : Prop :=
  optA (nilA 3 .eql a0 .nilptr) fun v1 => ifA v1 (retF [.d (.bool true)] H K) (optA (nilCkA a0) fun v2 => optA (fieldA ti159 v2 0) fun v3 => optA (ldV false 1 v3 H) fun v4 => optA (intA .eql v4 (.d (.int .i64 0))) fun v5 => retF [v5] H K)
noncomputable def r77_0 : List Oper := regOps Try.f77 0
noncomputable def r77_1 : List Oper := regOps Try.f77 1
noncomputable def c77 : Code := (.seq (.region 0 #[opAt r77_0 0] false) (.seq (.region 1 #[opAt r77_1 0, opAt r77_1 1, opAt r77_1 2, opAt r77_1 3, opAt r77_1 4, opAt r77_1 5, opAt r77_1 6, opAt r77_1 7, opAt r77_1 8, opAt r77_1 9] false) .ret))
theorem c77_eq : Try.f77.body = some c77 := by kernel_rfl
theorem S77_eq (γ : Calld) (a0 : AV) (H : AHeap) (K : AV → AHeap → Prop) : execC Try.prog γ pol77 Try.f77 c77 [a0] H K = S77 γ a0 H K := by kernel_rfl
theorem C77 {a0 : AV} {H : AHeap} {K : AV → AHeap → Prop} (h : S77 (CallsA Try.prog) a0 H K) : CallsA Try.prog 77 [a0] H K :=
  calls_of Try.func77 (ne_of_beq_false (by kernel_rfl)) c77_eq (by kernel_rfl) (by rw [S77_eq]; exact h)
/-! (*tithing/probe.Link).Probe -/
def pol78 : Pol := { lend := fun g => !([82, 161] : List Nat).contains g, keep := [], frz := fun _ => [], perm := fun r => [], bf := fun r => [], ret := true }
def S78 (γ : Calld) (a0 a1 : AV) (H : AHeap) (K : AV → AHeap → Prop) : Prop :=
  frzLK [a0, a1] H fun l3 H4 => γ 155 l3 H4 fun v1 H2 => optA (intA .neq v1 (.d (.int .i64 0))) fun v5 => ifA v5 (retF [v1] H2 K) (optA (nilCkA a0) fun v6 => optA (fieldA ti159 v6 3) fun v7 => optA (ldV false 1 v7 H2) fun v8 => optA (indexAddrA ti157 1 v8 a1) fun v9 => optA (ldV false 1 v9 H2) fun v10 => optA (nilCkA v10) fun v11 => optA (fieldA ti169 v11 1) fun v12 => optA (ldV false 1 v12 H2) fun v13 => optA (intA .neq v13 (.d (.int .i64 1))) fun v14 => ifA v14 (frzLK [v10] H2 fun l17 H18 => γ 156 l17 H18 fun v15 H16 => optA (nilCkA v10) fun v19 => optA (fieldA ti169 v19 1) fun v20 => stepK (stoA false 1 v20 (.d (.int .i64 1)) H16) H16 fun v21 H22 => retF [.d (.int .i64 0)] H22 K) (retF [.d (.int .i64 0)] H2 K))
noncomputable def r78_0 : List Oper := regOps Try.f78 0
noncomputable def r78_1 : List Oper := regOps Try.f78 1
noncomputable def r78_2 : List Oper := regOps Try.f78 2
noncomputable def r78_3 : List Oper := regOps Try.f78 3
noncomputable def r78_4 : List Oper := regOps Try.f78 4
noncomputable def r78_5 : List Oper := regOps Try.f78 5
noncomputable def r78_6 : List Oper := regOps Try.f78 6
noncomputable def r78_7 : List Oper := regOps Try.f78 7
noncomputable def r78_8 : List Oper := regOps Try.f78 8
noncomputable def c78 : Code := (.seq (.region 0 #[opAt r78_0 0] false) (.seq (.seq (.region 1 #[opAt r78_1 0, opAt r78_1 1, opAt r78_1 2, opAt r78_1 3] false) (.seq (.region 2 #[opAt r78_2 0, opAt r78_2 1] false) (.cond (.tmp 11) (.seq (.region 3 #[opAt r78_3 0, opAt r78_3 1] false) .ret) .skip))) (.seq (.seq (.region 4 #[opAt r78_4 0, opAt r78_4 1, opAt r78_4 2, opAt r78_4 3, opAt r78_4 4, opAt r78_4 5, opAt r78_4 6, opAt r78_4 7] false) (.seq (.region 5 #[opAt r78_5 0, opAt r78_5 1, opAt r78_5 2, opAt r78_5 3, opAt r78_5 4] false) (.cond (.tmp 24) (.seq (.region 6 #[opAt r78_6 0, opAt r78_6 1] false) (.region 7 #[opAt r78_7 0, opAt r78_7 1, opAt r78_7 2, opAt r78_7 3] false)) .skip))) (.seq (.region 8 #[opAt r78_8 0] false) .ret))))
theorem c78_eq : Try.f78.body = some c78 := by kernel_rfl
theorem S78_eq (γ : Calld) (a0 a1 : AV) (H : AHeap) (K : AV → AHeap → Prop) : execC Try.prog γ pol78 Try.f78 c78 [a0, a1] H K = S78 γ a0 a1 H K := by kernel_rfl
theorem C78 {a0 a1 : AV} {H : AHeap} {K : AV → AHeap → Prop} (h : S78 (CallsA Try.prog) a0 a1 H K) : CallsA Try.prog 78 [a0, a1] H K :=
  calls_of Try.func78 (ne_of_beq_false (by kernel_rfl)) c78_eq (by kernel_rfl) (by rw [S78_eq]; exact h)
/-! (*tithing/bus.Bus).Turn -/
def pol79 : Pol := { lend := fun g => !([82, 161] : List Nat).contains g, keep := [], frz := fun _ => [], perm := fun r => [], bf := fun r => [], ret := true }
def S79 (γ : Calld) (a0 a1 a2 : AV) (H : AHeap) (K : AV → AHeap → Prop) : Prop :=
  frzLK [a0, a1] H fun l3 H4 => γ 150 l3 H4 fun v1 H2 => optA (intA .neq v1 (.d (.int .i64 0))) fun v5 => ifA v5 (retF [v1] H2 K) (optA (nilCkA a0) fun v6 => optA (fieldA ti156 v6 2) fun v7 => optA (ldV false 1 v7 H2) fun v8 => optA (indexAddrA ti154 1 v8 a1) fun v9 => optA (ldV false 1 v9 H2) fun v10 => optA (nilCkA v10) fun v11 => optA (fieldA ti162 v11 1) fun v12 => optA (ldV false 1 v12 H2) fun v13 => optA (boolA .neq v13 a2) fun v14 => ifA v14 (optA (nilCkA v10) fun v15 => optA (fieldA ti162 v15 1) fun v16 => stepK (stoA false 1 v16 a2 H2) H2 fun v17 H18 => optA (nilCkA v10) fun v19 => optA (fieldA ti162 v19 2) fun v20 => stepK (stoA false 1 v20 (.d (.int .i64 0)) H18) H18 fun v21 H22 => retF [.d (.int .i64 0)] H22 K) (retF [.d (.int .i64 0)] H2 K))
noncomputable def r79_0 : List Oper := regOps Try.f79 0
noncomputable def r79_1 : List Oper := regOps Try.f79 1
noncomputable def r79_2 : List Oper := regOps Try.f79 2
noncomputable def r79_3 : List Oper := regOps Try.f79 3
noncomputable def r79_4 : List Oper := regOps Try.f79 4
noncomputable def r79_5 : List Oper := regOps Try.f79 5
noncomputable def r79_6 : List Oper := regOps Try.f79 6
noncomputable def r79_7 : List Oper := regOps Try.f79 7
noncomputable def c79 : Code := (.seq (.region 0 #[opAt r79_0 0] false) (.seq (.seq (.region 1 #[opAt r79_1 0, opAt r79_1 1, opAt r79_1 2, opAt r79_1 3] false) (.seq (.region 2 #[opAt r79_2 0, opAt r79_2 1] false) (.cond (.tmp 13) (.seq (.region 3 #[opAt r79_3 0, opAt r79_3 1] false) .ret) .skip))) (.seq (.region 4 #[opAt r79_4 0, opAt r79_4 1, opAt r79_4 2, opAt r79_4 3, opAt r79_4 4, opAt r79_4 5, opAt r79_4 6, opAt r79_4 7] false) (.seq (.seq (.region 5 #[opAt r79_5 0, opAt r79_5 1, opAt r79_5 2, opAt r79_5 3, opAt r79_5 4, opAt r79_5 5] false) (.cond (.tmp 27) (.region 6 #[opAt r79_6 0, opAt r79_6 1, opAt r79_6 2, opAt r79_6 3, opAt r79_6 4, opAt r79_6 5, opAt r79_6 6, opAt r79_6 7, opAt r79_6 8] false) .skip)) (.seq (.region 7 #[opAt r79_7 0] false) .ret)))))
theorem c79_eq : Try.f79.body = some c79 := by kernel_rfl
theorem S79_eq (γ : Calld) (a0 a1 a2 : AV) (H : AHeap) (K : AV → AHeap → Prop) : execC Try.prog γ pol79 Try.f79 c79 [a0, a1, a2] H K = S79 γ a0 a1 a2 H K := by kernel_rfl
theorem C79 {a0 a1 a2 : AV} {H : AHeap} {K : AV → AHeap → Prop} (h : S79 (CallsA Try.prog) a0 a1 a2 H K) : CallsA Try.prog 79 [a0, a1, a2] H K :=
  calls_of Try.func79 (ne_of_beq_false (by kernel_rfl)) c79_eq (by kernel_rfl) (by rw [S79_eq]; exact h)
/-! (*tithing/probe.Link).Leave -/
def pol80 : Pol := { lend := fun g => !([82, 161] : List Nat).contains g, keep := [], frz := fun _ => [], perm := fun r => [], bf := fun r => [], ret := true }
def S80 (γ : Calld) (a0 a1 : AV) (H : AHeap) (K : AV → AHeap → Prop) : Prop :=
  frzLK [a0, a1] H fun l3 H4 => γ 155 l3 H4 fun v1 H2 => optA (intA .neq v1 (.d (.int .i64 0))) fun v5 => ifA v5 (retF [v1] H2 K) (optA (nilCkA a0) fun v6 => optA (fieldA ti159 v6 3) fun v7 => optA (ldV false 1 v7 H2) fun v8 => optA (indexAddrA ti157 1 v8 a1) fun v9 => optA (ldV false 1 v9 H2) fun v10 => frzLK [v10] H2 fun l13 H14 => γ 156 l13 H14 fun v11 H12 => retF [.d (.int .i64 0)] H12 K)
noncomputable def r80_0 : List Oper := regOps Try.f80 0
noncomputable def r80_1 : List Oper := regOps Try.f80 1
noncomputable def r80_2 : List Oper := regOps Try.f80 2
noncomputable def r80_3 : List Oper := regOps Try.f80 3
noncomputable def r80_4 : List Oper := regOps Try.f80 4
noncomputable def r80_5 : List Oper := regOps Try.f80 5
noncomputable def c80 : Code := (.seq (.region 0 #[opAt r80_0 0] false) (.seq (.seq (.region 1 #[opAt r80_1 0, opAt r80_1 1, opAt r80_1 2, opAt r80_1 3] false) (.seq (.region 2 #[opAt r80_2 0, opAt r80_2 1] false) (.cond (.tmp 10) (.seq (.region 3 #[opAt r80_3 0, opAt r80_3 1] false) .ret) .skip))) (.seq (.region 4 #[opAt r80_4 0, opAt r80_4 1, opAt r80_4 2, opAt r80_4 3, opAt r80_4 4, opAt r80_4 5, opAt r80_4 6, opAt r80_4 7] false) (.seq (.region 5 #[opAt r80_5 0] false) .ret))))
theorem c80_eq : Try.f80.body = some c80 := by kernel_rfl
theorem S80_eq (γ : Calld) (a0 a1 : AV) (H : AHeap) (K : AV → AHeap → Prop) : execC Try.prog γ pol80 Try.f80 c80 [a0, a1] H K = S80 γ a0 a1 H K := by kernel_rfl
theorem C80 {a0 a1 : AV} {H : AHeap} {K : AV → AHeap → Prop} (h : S80 (CallsA Try.prog) a0 a1 H K) : CallsA Try.prog 80 [a0, a1] H K :=
  calls_of Try.func80 (ne_of_beq_false (by kernel_rfl)) c80_eq (by kernel_rfl) (by rw [S80_eq]; exact h)
/-! (*tithing/probe.Link).Step -/
def pol81 : Pol := { lend := fun g => !([82, 161] : List Nat).contains g, keep := [4, 15, 16, 17, 25, 26], frz := fun _ => [], perm := fun r => [], bf := fun r => [], ret := true }
def S81 (γ : Calld) (a0 : AV) (H : AHeap) (K : AV → AHeap → Prop) : Prop :=
  frzLK [a0] H fun l3 H4 => γ 77 l3 H4 fun v1 H2 => ifA v1 (retF [.d (.int .i64 7)] H2 K) (frzLK [a0] H2 fun l7 H8 => γ 157 l7 H8 fun v5 H6 => frzLK [a0] H6 fun l11 H12 => γ 158 l11 H12 fun v9 H10 => optA (nilCkA a0) fun v13 => optA (fieldA ti159 v13 3) fun v14 => optA (ldV false 1 v14 H10) fun v15 => optA (lenSl v15) fun v16 => loopA (fun X17 l18 H19 => optA (intA .lss (l18.getD 3 .junk) (l18.getD 2 .junk)) fun v20 => ifA v20 (optA (indexAddrA ti157 1 (l18.getD 1 .junk) (l18.getD 3 .junk)) fun v21 => optA (ldV false 1 v21 H19) fun v22 => optA (nilCkA v22) fun v23 => optA (fieldA ti169 v23 6) fun v24 => optA (ldV false 1 v24 H19) fun v25 => optA (lenSl v25) fun v26 => loopA (fun X27 l28 H29 => optA (intA .lss (l28.getD 5 .junk) (l28.getD 4 .junk)) fun v30 => ifA v30 (optA (nilCkA (l28.getD 0 .junk)) fun v31 => optA (fieldA ti169 v31 6) fun v32 => optA (ldV false 1 v32 H29) fun v33 => optA (indexAddrA ti167 4 v33 (l28.getD 5 .junk)) fun v34 => optA (fieldA ti224 v34 2) fun v35 => optA (ldV false 1 v35 H29) fun v36 => optA (intA .add v36 (.d (.int .i64 1))) fun v37 => optA (indexAddrA ti167 4 v33 (l28.getD 5 .junk)) fun v38 => optA (fieldA ti224 v38 2) fun v39 => stepK (stoA false 1 v39 v37 H29) H29 fun v40 H41 => optA (intA .add (l28.getD 5 .junk) (.d (.int .i64 1))) fun v42 => X27 [l28.getD 0 .junk, l28.getD 1 .junk, l28.getD 2 .junk, l28.getD 3 .junk, l28.getD 4 .junk, v42] H41) (optA (nilCkA (l28.getD 0 .junk)) fun v43 => optA (fieldA ti169 v43 6) fun v44 => optA (ldV false 1 v44 H29) fun v45 => frzLK [v45, .func 160 [] []] H29 fun l48 H49 => γ 159 l48 H49 fun v46 H47 => optA (nilCkA (l28.getD 0 .junk)) fun v50 => optA (fieldA ti169 v50 6) fun v51 => stepK (stoA false 1 v51 v46 H47) H47 fun v52 H53 => optA (intA .add (l28.getD 3 .junk) (.d (.int .i64 1))) fun v54 => X17 [l28.getD 0 .junk, l28.getD 1 .junk, l28.getD 2 .junk, v54, l28.getD 4 .junk, l28.getD 5 .junk] H53)) [v22, l18.getD 1 .junk, l18.getD 2 .junk, l18.getD 3 .junk, v26, .d (.int .i64 0)] H19) (retF [.d (.int .i64 0)] H19 K)) [.junk, v15, v16, .d (.int .i64 0), .junk, .junk] H10)
noncomputable def r81_0 : List Oper := regOps Try.f81 0
noncomputable def r81_1 : List Oper := regOps Try.f81 1
noncomputable def r81_2 : List Oper := regOps Try.f81 2
noncomputable def r81_3 : List Oper := regOps Try.f81 3
noncomputable def r81_4 : List Oper := regOps Try.f81 4
noncomputable def r81_5 : List Oper := regOps Try.f81 5
noncomputable def r81_6 : List Oper := regOps Try.f81 6
noncomputable def r81_7 : List Oper := regOps Try.f81 7
noncomputable def r81_8 : List Oper := regOps Try.f81 8
noncomputable def r81_9 : List Oper := regOps Try.f81 9
noncomputable def r81_10 : List Oper := regOps Try.f81 10
noncomputable def r81_11 : List Oper := regOps Try.f81 11
noncomputable def r81_12 : List Oper := regOps Try.f81 12
noncomputable def r81_13 : List Oper := regOps Try.f81 13
noncomputable def r81_14 : List Oper := regOps Try.f81 14
noncomputable def r81_15 : List Oper := regOps Try.f81 15
noncomputable def c81 : Code := (.seq (.region 0 #[opAt r81_0 0] false) (.seq (.seq (.region 1 #[opAt r81_1 0, opAt r81_1 1] false) (.cond (.tmp 7) (.seq (.region 2 #[opAt r81_2 0] false) .ret) .skip)) (.seq (.region 3 #[opAt r81_3 0, opAt r81_3 1] false) (.seq (.region 4 #[opAt r81_4 0, opAt r81_4 1] false) (.seq (.seq (.region 5 #[opAt r81_5 0, opAt r81_5 1, opAt r81_5 2, opAt r81_5 3, opAt r81_5 4, opAt r81_5 5] false) (.block 0 (.loop (.seq (.region 6 #[opAt r81_6 0] false) (.seq (.cond (.tmp 18) .skip (.exit 0)) (.seq (.block 1 (.seq (.region 7 #[opAt r81_7 0, opAt r81_7 1, opAt r81_7 2] false) (.seq (.seq (.region 8 #[opAt r81_8 0, opAt r81_8 1, opAt r81_8 2, opAt r81_8 3, opAt r81_8 4, opAt r81_8 5] false) (.block 2 (.loop (.seq (.region 9 #[opAt r81_9 0] false) (.seq (.cond (.tmp 27) .skip (.exit 2)) (.seq (.block 3 (.seq (.region 10 #[opAt r81_10 0, opAt r81_10 1] false) (.region 11 #[opAt r81_11 0, opAt r81_11 1, opAt r81_11 2, opAt r81_11 3, opAt r81_11 4, opAt r81_11 5, opAt r81_11 6, opAt r81_11 7, opAt r81_11 8, opAt r81_11 9, opAt r81_11 10, opAt r81_11 11] false))) (.region 12 #[opAt r81_12 0, opAt r81_12 1] false))))))) (.region 13 #[opAt r81_13 0, opAt r81_13 1, opAt r81_13 2, opAt r81_13 3, opAt r81_13 4, opAt r81_13 5, opAt r81_13 6, opAt r81_13 7, opAt r81_13 8] false)))) (.region 14 #[opAt r81_14 0, opAt r81_14 1] false))))))) (.seq (.region 15 #[opAt r81_15 0] false) .ret))))))
theorem c81_eq : Try.f81.body = some c81 := by kernel_rfl
theorem S81_eq (γ : Calld) (a0 : AV) (H : AHeap) (K : AV → AHeap → Prop) : execC Try.prog γ pol81 Try.f81 c81 [a0] H K = S81 γ a0 H K := by kernel_rfl
theorem C81 {a0 : AV} {H : AHeap} {K : AV → AHeap → Prop} (h : S81 (CallsA Try.prog) a0 H K) : CallsA Try.prog 81 [a0] H K :=
  calls_of Try.func81 (ne_of_beq_false (by kernel_rfl)) c81_eq (by kernel_rfl) (by rw [S81_eq]; exact h)
/-! slices.ContainsFunc[[]*tithing/bus.station,*tithing/bus.station] -/
def pol82 : Pol := { lend := fun g => !([82, 161] : List Nat).contains g, keep := [], frz := fun _ => [], perm := fun r => [], bf := fun r => [], ret := true }
def S82 (γ : Calld) (a0 a1 : AV) (H : AHeap) (K : AV → AHeap → Prop) : Prop :=
  γ 161 [a0, a1] H fun v1 H2 => optA (intA .geq v1 (.d (.int .i64 0))) fun v3 => retF [v3] H2 K
noncomputable def r82_0 : List Oper := regOps Try.f82 0
noncomputable def r82_1 : List Oper := regOps Try.f82 1
noncomputable def c82 : Code := (.seq (.region 0 #[opAt r82_0 0] false) (.seq (.region 1 #[opAt r82_1 0, opAt r82_1 1, opAt r82_1 2, opAt r82_1 3, opAt r82_1 4] false) .ret))
theorem c82_eq : Try.f82.body = some c82 := by kernel_rfl
theorem S82_eq (γ : Calld) (a0 a1 : AV) (H : AHeap) (K : AV → AHeap → Prop) : execC Try.prog γ pol82 Try.f82 c82 [a0, a1] H K = S82 γ a0 a1 H K := by kernel_rfl
theorem C82 {a0 a1 : AV} {H : AHeap} {K : AV → AHeap → Prop} (h : S82 (CallsA Try.prog) a0 a1 H K) : CallsA Try.prog 82 [a0, a1] H K :=
  calls_of Try.func82 (ne_of_beq_false (by kernel_rfl)) c82_eq (by kernel_rfl) (by rw [S82_eq]; exact h)
/-! (*tithing/bus.Bus).Quiet$1 -/
def pol83 : Pol := { lend := fun g => !([82, 161] : List Nat).contains g, keep := [], frz := fun _ => [], perm := fun r => [], bf := fun r => [], ret := true }
def S83 (γ : Calld) (a0 : AV) (H : AHeap) (K : AV → AHeap → Prop) : Prop :=
  optA (nilCkA a0) fun v1 => optA (fieldA ti162 v1 2) fun v2 => optA (ldV false 1 v2 H) fun v3 => optA (intA .eql v3 (.d (.int .i64 1))) fun v4 => retF [v4] H K
noncomputable def r83_0 : List Oper := regOps Try.f83 0
noncomputable def r83_1 : List Oper := regOps Try.f83 1
noncomputable def c83 : Code := (.seq (.region 0 #[opAt r83_0 0] false) (.seq (.region 1 #[opAt r83_1 0, opAt r83_1 1, opAt r83_1 2, opAt r83_1 3, opAt r83_1 4, opAt r83_1 5] false) .ret))
theorem c83_eq : Try.f83.body = some c83 := by kernel_rfl
theorem S83_eq (γ : Calld) (a0 : AV) (H : AHeap) (K : AV → AHeap → Prop) : execC Try.prog γ pol83 Try.f83 c83 [a0] H K = S83 γ a0 H K := by kernel_rfl
theorem C83 {a0 : AV} {H : AHeap} {K : AV → AHeap → Prop} (h : S83 (CallsA Try.prog) a0 H K) : CallsA Try.prog 83 [a0] H K :=
  calls_of Try.func83 (ne_of_beq_false (by kernel_rfl)) c83_eq (by kernel_rfl) (by rw [S83_eq]; exact h)
/-! (*tithing/bus.Bus).frame -/
def pol84 : Pol := { lend := fun g => !([82, 161] : List Nat).contains g, keep := [], frz := fun _ => [], perm := fun r => if r = 1 then [0, 1, 2, 3, 4, 5, 6, 7, 8, 9, 10, 11, 12, 13] else [], bf := fun r => if r = 1 then [0, 1, 3, 7, 0, 16, 48, 112, 255, 511, 1023, 1023, 2047, 8191] else [], ret := true }
def S84 (γ : Calld) (a0 : AV) (H : AHeap) (K : AV → AHeap → Prop) : Prop :=
  drA true (optA (nilCkA a0) fun v1 => optA (fieldA ti156 v1 1) fun v2 => optA (ldV false 1 v2 H) fun v3 => optA (nilCkA a0) fun v4 => optA (fieldA ti156 v4 3) fun v5 => optA (ldV false 1 v5 H) fun v6 => noRsA (aggL v3) (noRsA (aggL v6) (frzLK [v3, v6] H fun l8 H10 => ∃ r9, γ 162 l8 H10 (fun v H2 => v = r9 ∧ AHeap.le H10 H2) ∧ (optA (extractA r9 0) fun v11 => optA (extractA r9 1) fun v12 => optA (nilCkA a0) fun v13 => optA (fieldA ti156 v13 3) fun v14 => optA (ldV false 1 v14 H10) fun v15 => optA (intA .add v15 (.d (.int .i64 1))) fun v16 => optA (nilCkA a0) fun v17 => optA (fieldA ti156 v17 3) fun v18 => stepK (stoA false 1 v18 v16 H10) H10 fun v19 H20 => optA (unA .not v12) fun v21 => retF [v21] H20 K))))
noncomputable def r84_0 : List Oper := regOps Try.f84 0
noncomputable def r84_1 : List Oper := regOps Try.f84 1
noncomputable def r84_2 : List Oper := regOps Try.f84 2
noncomputable def r84_3 : List Oper := regOps Try.f84 3
noncomputable def c84 : Code := (.seq (.region 0 #[opAt r84_0 0] false) (.seq (.region 1 #[opAt r84_1 0, opAt r84_1 1, opAt r84_1 2, opAt r84_1 3, opAt r84_1 4, opAt r84_1 5, opAt r84_1 6, opAt r84_1 7, opAt r84_1 8, opAt r84_1 9, opAt r84_1 10, opAt r84_1 11, opAt r84_1 12, opAt r84_1 13] true) (.seq (.region 2 #[opAt r84_2 0, opAt r84_2 1, opAt r84_2 2, opAt r84_2 3, opAt r84_2 4, opAt r84_2 5, opAt r84_2 6, opAt r84_2 7] false) (.seq (.region 3 #[opAt r84_3 0, opAt r84_3 1, opAt r84_3 2] false) .ret))))
theorem c84_eq : Try.f84.body = some c84 := by kernel_rfl
theorem S84_eq (γ : Calld) (a0 : AV) (H : AHeap) (K : AV → AHeap → Prop) : execC Try.prog γ pol84 Try.f84 c84 [a0] H K = S84 γ a0 H K := by kernel_rfl
theorem C84 {a0 : AV} {H : AHeap} {K : AV → AHeap → Prop} (h : S84 (CallsA Try.prog) a0 H K) : CallsA Try.prog 84 [a0] H K :=
  calls_of Try.func84 (ne_of_beq_false (by kernel_rfl)) c84_eq (by kernel_rfl) (by rw [S84_eq]; exact h)
/-! (*tithing/bus.Bus).answers -/
def pol85 : Pol := { lend := fun g => !([82, 161] : List Nat).contains g, keep := [], frz := fun _ => [], perm := fun r => if r = 1 then [0, 1, 2, 3, 4, 5, 6, 7, 8, 9, 10, 11, 12, 13, 14, 15] else if r = 5 then [0, 1, 2, 3, 4, 5, 6, 7] else if r = 7 then [0, 1, 2, 3, 4, 5, 6, 7, 8, 9, 10, 11, 12, 13, 14, 15, 16, 17, 18, 19, 20, 21, 22, 23, 24, 25, 26, 27, 28, 29, 30, 31, 32] else [], bf := fun r => if r = 1 then [0, 1, 3, 7, 0, 31, 63, 0, 128, 384, 896, 0, 3968, 8064, 127, 32767] else if r = 5 then [0, 1, 3, 7, 0, 16, 63, 127] else if r = 7 then [0, 1, 0, 7, 15, 31, 63, 127, 255, 511, 63, 1087, 3135, 7231, 16383, 32767, 65535, 131071, 262143, 524287, 65535, 1114111, 3211263, 7405567, 16777215, 33554431, 67108863, 67108863, 268435455, 536870911, 1073741823, 2147483647, 4294967295] else [], ret := true }
def S85 (γ : Calld) (a0 a1 a2 : AV) (H : AHeap) (K : AV → AHeap → Prop) : Prop :=
  drA true (optA (nilCkA a0) fun v1 => optA (fieldA ti156 v1 2) fun v2 => optA (ldV false 1 v2 H) fun v3 => optA (indexAddrA ti154 1 v3 a1) fun v4 => optA (ldV false 1 v4 H) fun v5 => optA (nilCkA a0) fun v6 => optA (fieldA ti156 v6 2) fun v7 => optA (ldV false 1 v7 H) fun v8 => optA (indexAddrA ti154 1 v8 a2) fun v9 => optA (ldV false 1 v9 H) fun v10 => optA (intA .eql a1 a2) fun v11 => ifA v11 (retF [.d (.bool false)] H K) (optA (nilCkA v5) fun v12 => optA (fieldA ti162 v12 1) fun v13 => optA (ldV false 1 v13 H) fun v14 => optA (unA .not v14) fun v15 => ifA v15 (retF [.d (.bool false)] H K) (optA (nilCkA v5) fun v16 => optA (fieldA ti162 v16 2) fun v17 => optA (ldV false 1 v17 H) fun v18 => optA (intA .eql v18 (.d (.int .i64 2))) fun v19 => ifA v19 (drA true (optA (nilCkA v5) fun v20 => optA (fieldA ti162 v20 5) fun v21 => optA (ldV false 1 v21 H) fun v22 => apart (rsOf v10) v21 ∧ (noRsA (aggL v10) (frzLK [v10] H fun l24 H26 => ∃ r25, γ 151 l24 H26 (fun v H2 => v = r25 ∧ AHeap.le H26 H2) ∧ (optA (intA .eql v22 r25) fun v27 => retF [v27] H26 K))))) (optA (nilCkA v5) fun v28 => optA (fieldA ti162 v28 2) fun v29 => optA (ldV false 1 v29 H) fun v30 => optA (intA .eql v30 (.d (.int .i64 1))) fun v31 => ifA v31 (drA true (noRsA (aggL v5) (frzLK [v5] H fun l33 H35 => ∃ r34, γ 151 l33 H35 (fun v H2 => v = r34 ∧ AHeap.le H35 H2) ∧ (noRsA (aggL v10) (frzLK [v10] H35 fun l37 H39 => ∃ r38, γ 151 l37 H39 (fun v H2 => v = r38 ∧ AHeap.le H39 H2) ∧ (optA (intA .eql r34 r38) fun v40 => ifA v40 (optA (nilCkA v5) fun v41 => optA (fieldA ti162 v41 4) fun v42 => optA (ldV false 1 v42 H39) fun v43 => optA (nilCkA v10) fun v44 => optA (fieldA ti162 v44 4) fun v45 => optA (ldV false 1 v45 H39) fun v46 => optA (intA .gtr v43 v46) fun v47 => ifA v47 (retF [.d (.bool true)] H39 K) (optA (nilCkA v5) fun v48 => optA (fieldA ti162 v48 4) fun v49 => optA (ldV false 1 v49 H39) fun v50 => optA (nilCkA v10) fun v51 => optA (fieldA ti162 v51 4) fun v52 => optA (ldV false 1 v52 H39) fun v53 => optA (intA .eql v50 v53) fun v54 => ifA v54 (optA (intA .lss a1 a2) fun v55 => retF [v55] H39 K) (retF [.d (.bool false)] H39 K))) (retF [.d (.bool false)] H39 K))))))) (retF [.d (.bool false)] H K)))))
noncomputable def r85_0 : List Oper := regOps Try.f85 0
noncomputable def r85_1 : List Oper := regOps Try.f85 1
noncomputable def r85_2 : List Oper := regOps Try.f85 2
noncomputable def r85_3 : List Oper := regOps Try.f85 3
noncomputable def r85_4 : List Oper := regOps Try.f85 4
noncomputable def r85_5 : List Oper := regOps Try.f85 5
noncomputable def r85_6 : List Oper := regOps Try.f85 6
noncomputable def r85_7 : List Oper := regOps Try.f85 7
noncomputable def r85_8 : List Oper := regOps Try.f85 8
noncomputable def c85 : Code := (.seq (.region 0 #[opAt r85_0 0] false) (.seq (.region 1 #[opAt r85_1 0, opAt r85_1 1, opAt r85_1 2, opAt r85_1 3, opAt r85_1 4, opAt r85_1 5, opAt r85_1 6, opAt r85_1 7, opAt r85_1 8, opAt r85_1 9, opAt r85_1 10, opAt r85_1 11, opAt r85_1 12, opAt r85_1 13, opAt r85_1 14, opAt r85_1 15] true) (.seq (.block 0 (.seq (.region 2 #[opAt r85_2 0, opAt r85_2 1, opAt r85_2 2, opAt r85_2 3, opAt r85_2 4, opAt r85_2 5, opAt r85_2 6, opAt r85_2 7, opAt r85_2 8, opAt r85_2 9, opAt r85_2 10] false) (.cond (.tmp 23) (.seq (.region 3 #[opAt r85_3 0] false) .ret) (.seq (.region 4 #[opAt r85_4 0, opAt r85_4 1, opAt r85_4 2, opAt r85_4 3, opAt r85_4 4, opAt r85_4 5] false) (.cond (.tmp 34) (.seq (.region 5 #[opAt r85_5 0, opAt r85_5 1, opAt r85_5 2, opAt r85_5 3, opAt r85_5 4, opAt r85_5 5, opAt r85_5 6, opAt r85_5 7] true) .ret) (.seq (.region 6 #[opAt r85_6 0, opAt r85_6 1, opAt r85_6 2, opAt r85_6 3, opAt r85_6 4, opAt r85_6 5] false) (.cond (.tmp 47) (.seq (.region 7 #[opAt r85_7 0, opAt r85_7 1, opAt r85_7 2, opAt r85_7 3, opAt r85_7 4, opAt r85_7 5, opAt r85_7 6, opAt r85_7 7, opAt r85_7 8, opAt r85_7 9, opAt r85_7 10, opAt r85_7 11, opAt r85_7 12, opAt r85_7 13, opAt r85_7 14, opAt r85_7 15, opAt r85_7 16, opAt r85_7 17, opAt r85_7 18, opAt r85_7 19, opAt r85_7 20, opAt r85_7 21, opAt r85_7 22, opAt r85_7 23, opAt r85_7 24, opAt r85_7 25, opAt r85_7 26, opAt r85_7 27, opAt r85_7 28, opAt r85_7 29, opAt r85_7 30, opAt r85_7 31, opAt r85_7 32] true) .ret) .skip))))))) (.seq (.region 8 #[opAt r85_8 0] false) .ret))))
theorem c85_eq : Try.f85.body = some c85 := by kernel_rfl
theorem S85_eq (γ : Calld) (a0 a1 a2 : AV) (H : AHeap) (K : AV → AHeap → Prop) : execC Try.prog γ pol85 Try.f85 c85 [a0, a1, a2] H K = S85 γ a0 a1 a2 H K := by kernel_rfl
theorem C85 {a0 a1 a2 : AV} {H : AHeap} {K : AV → AHeap → Prop} (h : S85 (CallsA Try.prog) a0 a1 a2 H K) : CallsA Try.prog 85 [a0, a1, a2] H K :=
  calls_of Try.func85 (ne_of_beq_false (by kernel_rfl)) c85_eq (by kernel_rfl) (by rw [S85_eq]; exact h)
/-! (*tithing/bus.station).end -/
def pol86 : Pol := { lend := fun g => !([82, 161] : List Nat).contains g, keep := [], frz := fun _ => [], perm := fun r => [], bf := fun r => [], ret := true }
def S86 (γ : Calld) (a0 a1 : AV) (H : AHeap) (K : AV → AHeap → Prop) : Prop :=
  ifA a1 (optA (nilCkA a0) fun v1 => optA (fieldA ti162 v1 3) fun v2 => optA (ldV false 1 v2 H) fun v3 => optA (intA .add v3 (.d (.int .i64 1))) fun v4 => optA (nilCkA a0) fun v5 => optA (fieldA ti162 v5 3) fun v6 => stepK (stoA false 1 v6 v4 H) H fun v7 H8 => optA (nilCkA a0) fun v9 => optA (fieldA ti162 v9 4) fun v10 => stepK (stoA false 1 v10 (.d (.int .i64 0)) H8) H8 fun v11 H12 => optA (nilCkA a0) fun v13 => optA (fieldA ti162 v13 3) fun v14 => optA (ldV false 1 v14 H12) fun v15 => optA (intA .eql v15 (.d (.int .i64 253))) fun v16 => ifA v16 (optA (nilCkA a0) fun v17 => optA (fieldA ti162 v17 2) fun v18 => stepK (stoA false 1 v18 (.d (.int .i64 0)) H12) H12 fun v19 H20 => retF [] H20 K) (retF [] H12 K)) (optA (nilCkA a0) fun v21 => optA (fieldA ti162 v21 4) fun v22 => optA (ldV false 1 v22 H) fun v23 => optA (intA .add v23 (.d (.int .i64 1))) fun v24 => optA (nilCkA a0) fun v25 => optA (fieldA ti162 v25 4) fun v26 => stepK (stoA false 1 v26 v24 H) H fun v27 H28 => optA (nilCkA a0) fun v29 => optA (fieldA ti162 v29 4) fun v30 => optA (ldV false 1 v30 H28) fun v31 => optA (intA .eql v31 (.d (.int .i64 8))) fun v32 => ifA v32 (frzLK [a0] H28 fun l35 H36 => γ 151 l35 H36 fun v33 H34 => optA (nilCkA a0) fun v37 => optA (fieldA ti162 v37 2) fun v38 => stepK (stoA false 1 v38 (.d (.int .i64 2)) H34) H34 fun v39 H40 => optA (nilCkA a0) fun v41 => optA (fieldA ti162 v41 5) fun v42 => stepK (stoA false 1 v42 v33 H40) H40 fun v43 H44 => retF [] H44 K) (retF [] H28 K))
noncomputable def r86_0 : List Oper := regOps Try.f86 0
noncomputable def r86_1 : List Oper := regOps Try.f86 1
noncomputable def r86_2 : List Oper := regOps Try.f86 2
noncomputable def r86_3 : List Oper := regOps Try.f86 3
noncomputable def r86_4 : List Oper := regOps Try.f86 4
noncomputable def r86_5 : List Oper := regOps Try.f86 5
noncomputable def r86_6 : List Oper := regOps Try.f86 6
noncomputable def r86_7 : List Oper := regOps Try.f86 7
noncomputable def c86 : Code := (.seq (.seq (.region 0 #[opAt r86_0 0] false) (.cond (.tmp 4) (.seq (.region 1 #[opAt r86_1 0, opAt r86_1 1, opAt r86_1 2, opAt r86_1 3, opAt r86_1 4, opAt r86_1 5, opAt r86_1 6, opAt r86_1 7] false) (.seq (.region 2 #[opAt r86_2 0, opAt r86_2 1, opAt r86_2 2, opAt r86_2 3] false) (.seq (.seq (.region 3 #[opAt r86_3 0, opAt r86_3 1, opAt r86_3 2, opAt r86_3 3, opAt r86_3 4] false) (.cond (.tmp 19) (.region 4 #[opAt r86_4 0, opAt r86_4 1, opAt r86_4 2, opAt r86_4 3] false) .skip)) .ret))) .skip)) (.seq (.region 5 #[opAt r86_5 0, opAt r86_5 1, opAt r86_5 2, opAt r86_5 3, opAt r86_5 4, opAt r86_5 5, opAt r86_5 6, opAt r86_5 7] false) (.seq (.region 6 #[opAt r86_6 0, opAt r86_6 1, opAt r86_6 2, opAt r86_6 3, opAt r86_6 4] false) (.cond (.tmp 34) (.region 7 #[opAt r86_7 0, opAt r86_7 1, opAt r86_7 2, opAt r86_7 3, opAt r86_7 4, opAt r86_7 5, opAt r86_7 6, opAt r86_7 7, opAt r86_7 8, opAt r86_7 9] false) .skip))))
theorem c86_eq : Try.f86.body = some c86 := by kernel_rfl
theorem S86_eq (γ : Calld) (a0 a1 : AV) (H : AHeap) (K : AV → AHeap → Prop) : execC Try.prog γ pol86 Try.f86 c86 [a0, a1] H K = S86 γ a0 a1 H K := by kernel_rfl
theorem C86 {a0 a1 : AV} {H : AHeap} {K : AV → AHeap → Prop} (h : S86 (CallsA Try.prog) a0 a1 H K) : CallsA Try.prog 86 [a0, a1] H K :=
  calls_of Try.func86 (ne_of_beq_false (by kernel_rfl)) c86_eq (by kernel_rfl) (by rw [S86_eq]; exact h)
/-! (*tithing/bus.Bus).asked -/
def pol150 : Pol := { lend := fun g => !([82, 161] : List Nat).contains g, keep := [], frz := fun _ => [], perm := fun r => [], bf := fun r => [], ret := true }
def S150 (γ : Calld) (a0 a1 : AV) (H : AHeap) (K : AV → AHeap → Prop) : Prop :=
  frzLK [a0] H fun l3 H4 => γ 76 l3 H4 fun v1 H2 => ifA v1 (retF [.d (.int .i64 7)] H2 K) (frzLK [a0, a1] H2 fun l7 H8 => γ 191 l7 H8 fun v5 H6 => optA (unA .not v5) fun v9 => ifA v9 (retF [.d (.int .i64 2)] H6 K) (retF [.d (.int .i64 0)] H6 K))
noncomputable def r150_0 : List Oper := regOps Try.f150 0
noncomputable def r150_1 : List Oper := regOps Try.f150 1
noncomputable def r150_2 : List Oper := regOps Try.f150 2
noncomputable def r150_3 : List Oper := regOps Try.f150 3
noncomputable def r150_4 : List Oper := regOps Try.f150 4
noncomputable def r150_5 : List Oper := regOps Try.f150 5
noncomputable def c150 : Code := (.seq (.region 0 #[opAt r150_0 0] false) (.seq (.block 0 (.seq (.region 1 #[opAt r150_1 0, opAt r150_1 1, opAt r150_1 2] false) (.cond (.tmp 5) (.seq (.region 2 #[opAt r150_2 0] false) .ret) (.seq (.region 3 #[opAt r150_3 0, opAt r150_3 1, opAt r150_3 2, opAt r150_3 3, opAt r150_3 4] false) (.cond (.tmp 8) (.seq (.region 4 #[opAt r150_4 0] false) .ret) .skip))))) (.seq (.region 5 #[opAt r150_5 0] false) .ret)))
theorem c150_eq : Try.f150.body = some c150 := by kernel_rfl
theorem S150_eq (γ : Calld) (a0 a1 : AV) (H : AHeap) (K : AV → AHeap → Prop) : execC Try.prog γ pol150 Try.f150 c150 [a0, a1] H K = S150 γ a0 a1 H K := by kernel_rfl
theorem C150 {a0 a1 : AV} {H : AHeap} {K : AV → AHeap → Prop} (h : S150 (CallsA Try.prog) a0 a1 H K) : CallsA Try.prog 150 [a0, a1] H K :=
  calls_of Try.func150 (ne_of_beq_false (by kernel_rfl)) c150_eq (by kernel_rfl) (by rw [S150_eq]; exact h)
/-! (*tithing/bus.station).guess -/
def pol151 : Pol := { lend := fun g => !([82, 161] : List Nat).contains g, keep := [], frz := fun _ => [], perm := fun r => if r = 3 then [0, 1, 2, 3, 4, 5, 6, 7, 8, 9, 10, 11, 12, 13, 14, 15, 16, 17] else [], bf := fun r => if r = 3 then [0, 1, 3, 7, 0, 16, 48, 112, 0, 256, 768, 1792, 3840, 8176, 16383, 32767, 65535, 131071] else [], ret := true }
def S151 (γ : Calld) (a0 : AV) (H : AHeap) (K : AV → AHeap → Prop) : Prop :=
  optA (nilCkA a0) fun v1 => optA (fieldA ti162 v1 0) fun v2 => optA (ldV false 1 v2 H) fun v3 => optA (lenSl v3) fun v4 => optA (intA .eql v4 (.d (.int .i64 0))) fun v5 => ifA v5 (optA (nilCkA a0) fun v6 => optA (fieldA ti162 v6 3) fun v7 => optA (ldV false 1 v7 H) fun v8 => optA (intA .rem v8 (.d (.int .i64 253))) fun v9 => optA (intA .add (.d (.int .i64 1)) v9) fun v10 => retF [v10] H K) (drA true (optA (nilCkA a0) fun v11 => optA (fieldA ti162 v11 0) fun v12 => optA (ldV false 1 v12 H) fun v13 => optA (nilCkA a0) fun v14 => optA (fieldA ti162 v14 3) fun v15 => optA (ldV false 1 v15 H) fun v16 => optA (nilCkA a0) fun v17 => optA (fieldA ti162 v17 0) fun v18 => optA (ldV false 1 v18 H) fun v19 => optA (lenSl v19) fun v20 => optA (intA .rem v16 v20) fun v21 => optA (indexAddrA ti55 1 v13 v21) fun v22 => optA (ldV false 1 v22 H) fun v23 => optA (intA .rem v23 (.d (.int .i64 253))) fun v24 => optA (intA .add v24 (.d (.int .i64 253))) fun v25 => optA (intA .rem v25 (.d (.int .i64 253))) fun v26 => optA (intA .add (.d (.int .i64 1)) v26) fun v27 => retF [v27] H K))
noncomputable def r151_0 : List Oper := regOps Try.f151 0
noncomputable def r151_1 : List Oper := regOps Try.f151 1
noncomputable def r151_2 : List Oper := regOps Try.f151 2
noncomputable def r151_3 : List Oper := regOps Try.f151 3
noncomputable def r151_4 : List Oper := regOps Try.f151 4
noncomputable def c151 : Code := (.seq (.region 0 #[opAt r151_0 0] false) (.seq (.seq (.region 1 #[opAt r151_1 0, opAt r151_1 1, opAt r151_1 2, opAt r151_1 3, opAt r151_1 4, opAt r151_1 5] false) (.cond (.tmp 9) (.seq (.region 2 #[opAt r151_2 0, opAt r151_2 1, opAt r151_2 2, opAt r151_2 3, opAt r151_2 4, opAt r151_2 5, opAt r151_2 6] false) .ret) .skip)) (.seq (.region 3 #[opAt r151_3 0, opAt r151_3 1, opAt r151_3 2, opAt r151_3 3, opAt r151_3 4, opAt r151_3 5, opAt r151_3 6, opAt r151_3 7, opAt r151_3 8, opAt r151_3 9, opAt r151_3 10, opAt r151_3 11, opAt r151_3 12, opAt r151_3 13, opAt r151_3 14, opAt r151_3 15, opAt r151_3 16, opAt r151_3 17] true) (.seq (.region 4 #[opAt r151_4 0, opAt r151_4 1, opAt r151_4 2, opAt r151_4 3, opAt r151_4 4] false) .ret))))
theorem c151_eq : Try.f151.body = some c151 := by kernel_rfl
theorem S151_eq (γ : Calld) (a0 : AV) (H : AHeap) (K : AV → AHeap → Prop) : execC Try.prog γ pol151 Try.f151 c151 [a0] H K = S151 γ a0 H K := by kernel_rfl
theorem C151 {a0 : AV} {H : AHeap} {K : AV → AHeap → Prop} (h : S151 (CallsA Try.prog) a0 H K) : CallsA Try.prog 151 [a0] H K :=
  calls_of Try.func151 (ne_of_beq_false (by kernel_rfl)) c151_eq (by kernel_rfl) (by rw [S151_eq]; exact h)
/-! slices.Values[[]int,int]$1 -/
def pol154 : Pol := { lend := fun g => !([82, 161] : List Nat).contains g, keep := [0, 5, 6, 7], frz := fun _ => [], perm := fun r => [], bf := fun r => [], ret := true }
def S154 (γ : Calld) (a0 a1 : AV) (H : AHeap) (K : AV → AHeap → Prop) : Prop :=
  optA (ldV false 1 a1 H) fun v1 => optA (lenSl v1) fun v2 => loopA (fun X3 l4 H5 => optA (intA .lss (l4.getD 3 .junk) (l4.getD 2 .junk)) fun v6 => ifA v6 (optA (indexAddrA ti55 1 (l4.getD 1 .junk) (l4.getD 3 .junk)) fun v7 => optA (ldV false 1 v7 H5) fun v8 => callA γ pol154 (l4.getD 0 .junk) [v8] H5 fun v9 H10 => optA (unA .not v9) fun v11 => ifA v11 (retF [] H10 K) (optA (intA .add (l4.getD 3 .junk) (.d (.int .i64 1))) fun v12 => X3 [l4.getD 0 .junk, l4.getD 1 .junk, l4.getD 2 .junk, v12] H10)) (retF [] H5 K)) [a0, v1, v2, .d (.int .i64 0)] H
noncomputable def r154_0 : List Oper := regOps Try.f154 0
noncomputable def r154_1 : List Oper := regOps Try.f154 1
noncomputable def r154_2 : List Oper := regOps Try.f154 2
noncomputable def r154_3 : List Oper := regOps Try.f154 3
noncomputable def r154_4 : List Oper := regOps Try.f154 4
noncomputable def c154 : Code := (.seq (.region 0 #[opAt r154_0 0, opAt r154_0 1, opAt r154_0 2] false) (.block 0 (.loop (.seq (.region 1 #[opAt r154_1 0] false) (.seq (.cond (.tmp 8) .skip (.exit 0)) (.seq (.block 1 (.seq (.region 2 #[opAt r154_2 0, opAt r154_2 1, opAt r154_2 2] false) (.seq (.region 3 #[opAt r154_3 0, opAt r154_3 1, opAt r154_3 2, opAt r154_3 3] false) (.cond (.tmp 14) .ret .skip)))) (.region 4 #[opAt r154_4 0, opAt r154_4 1] false)))))))
theorem c154_eq : Try.f154.body = some c154 := by kernel_rfl
theorem S154_eq (γ : Calld) (a0 a1 : AV) (H : AHeap) (K : AV → AHeap → Prop) : execC Try.prog γ pol154 Try.f154 c154 [a0, a1] H K = S154 γ a0 a1 H K := by kernel_rfl
theorem C154 {a0 a1 : AV} {H : AHeap} {K : AV → AHeap → Prop} (h : S154 (CallsA Try.prog) a0 a1 H K) : CallsA Try.prog 154 [a0, a1] H K :=
  calls_of Try.func154 (ne_of_beq_false (by kernel_rfl)) c154_eq (by kernel_rfl) (by rw [S154_eq]; exact h)
/-! (*tithing/probe.Link).asked -/
def pol155 : Pol := { lend := fun g => !([82, 161] : List Nat).contains g, keep := [], frz := fun _ => [], perm := fun r => [], bf := fun r => [], ret := true }
def S155 (γ : Calld) (a0 a1 : AV) (H : AHeap) (K : AV → AHeap → Prop) : Prop :=
  frzLK [a0] H fun l3 H4 => γ 77 l3 H4 fun v1 H2 => ifA v1 (retF [.d (.int .i64 7)] H2 K) (optA (intA .lss a1 (.d (.int .i64 0))) fun v5 => ifA v5 (retF [.d (.int .i64 2)] H2 K) (optA (nilCkA a0) fun v6 => optA (fieldA ti159 v6 3) fun v7 => optA (ldV false 1 v7 H2) fun v8 => optA (lenSl v8) fun v9 => optA (intA .geq a1 v9) fun v10 => ifA v10 (retF [.d (.int .i64 2)] H2 K) (retF [.d (.int .i64 0)] H2 K)))
noncomputable def r155_0 : List Oper := regOps Try.f155 0
noncomputable def r155_1 : List Oper := regOps Try.f155 1
noncomputable def r155_2 : List Oper := regOps Try.f155 2
noncomputable def r155_3 : List Oper := regOps Try.f155 3
noncomputable def r155_4 : List Oper := regOps Try.f155 4
noncomputable def r155_5 : List Oper := regOps Try.f155 5
noncomputable def c155 : Code := (.seq (.region 0 #[opAt r155_0 0] false) (.seq (.block 0 (.seq (.region 1 #[opAt r155_1 0, opAt r155_1 1, opAt r155_1 2] false) (.cond (.tmp 5) (.seq (.region 2 #[opAt r155_2 0] false) .ret) (.seq (.region 3 #[opAt r155_3 0, opAt r155_3 1, opAt r155_3 2, opAt r155_3 3, opAt r155_3 4, opAt r155_3 5, opAt r155_3 6, opAt r155_3 7, opAt r155_3 8, opAt r155_3 9, opAt r155_3 10, opAt r155_3 11] false) (.cond (.tmp 8) (.seq (.region 4 #[opAt r155_4 0] false) .ret) .skip))))) (.seq (.region 5 #[opAt r155_5 0] false) .ret)))
theorem c155_eq : Try.f155.body = some c155 := by kernel_rfl
theorem S155_eq (γ : Calld) (a0 a1 : AV) (H : AHeap) (K : AV → AHeap → Prop) : execC Try.prog γ pol155 Try.f155 c155 [a0, a1] H K = S155 γ a0 a1 H K := by kernel_rfl
theorem C155 {a0 a1 : AV} {H : AHeap} {K : AV → AHeap → Prop} (h : S155 (CallsA Try.prog) a0 a1 H K) : CallsA Try.prog 155 [a0, a1] H K :=
  calls_of Try.func155 (ne_of_beq_false (by kernel_rfl)) c155_eq (by kernel_rfl) (by rw [S155_eq]; exact h)
/-! (*tithing/probe.station).leave -/
def pol156 : Pol := { lend := fun g => !([82, 161] : List Nat).contains g, keep := [], frz := fun _ => [], perm := fun r => [], bf := fun r => [], ret := true }
def S156 (γ : Calld) (a0 : AV) (H : AHeap) (K : AV → AHeap → Prop) : Prop :=
  optA (nilCkA a0) fun v1 => optA (fieldA ti169 v1 1) fun v2 => stepK (stoA false 1 v2 (.d (.int .i64 0)) H) H fun v3 H4 => optA (nilCkA a0) fun v5 => optA (fieldA ti169 v5 2) fun v6 => stepK (stoA false 1 v6 (.d (.int .i64 0)) H4) H4 fun v7 H8 => optA (nilCkA a0) fun v9 => optA (fieldA ti169 v9 3) fun v10 => stepK (stoA false 1 v10 (.d (.int .i64 0)) H8) H8 fun v11 H12 => optA (nilCkA a0) fun v13 => optA (fieldA ti169 v13 5) fun v14 => stepK (stoA false 1 v14 (.d (.sl true [])) H12) H12 fun v15 H16 => optA (nilCkA a0) fun v17 => optA (fieldA ti169 v17 6) fun v18 => stepK (stoA false 1 v18 (.d (.sl true [])) H16) H16 fun v19 H20 => retF [] H20 K
noncomputable def r156_0 : List Oper := regOps Try.f156 0
noncomputable def r156_1 : List Oper := regOps Try.f156 1
noncomputable def c156 : Code := (.seq (.region 0 #[opAt r156_0 0, opAt r156_0 1, opAt r156_0 2, opAt r156_0 3, opAt r156_0 4, opAt r156_0 5, opAt r156_0 6, opAt r156_0 7, opAt r156_0 8, opAt r156_0 9, opAt r156_0 10, opAt r156_0 11] false) (.region 1 #[opAt r156_1 0, opAt r156_1 1, opAt r156_1 2, opAt r156_1 3, opAt r156_1 4, opAt r156_1 5, opAt r156_1 6, opAt r156_1 7] false))
theorem c156_eq : Try.f156.body = some c156 := by kernel_rfl
theorem S156_eq (γ : Calld) (a0 : AV) (H : AHeap) (K : AV → AHeap → Prop) : execC Try.prog γ pol156 Try.f156 c156 [a0] H K = S156 γ a0 H K := by kernel_rfl
theorem C156 {a0 : AV} {H : AHeap} {K : AV → AHeap → Prop} (h : S156 (CallsA Try.prog) a0 H K) : CallsA Try.prog 156 [a0] H K :=
  calls_of Try.func156 (ne_of_beq_false (by kernel_rfl)) c156_eq (by kernel_rfl) (by rw [S156_eq]; exact h)
/-! (*tithing/probe.Link).probe -/
def pol157 : Pol := { lend := fun g => !([82, 161] : List Nat).contains g, keep := [0, 2, 3, 6, 8, 16, 17, 18, 45, 46, 47, 55, 56, 72, 73, 74], frz := fun _ => [], perm := fun r => [], bf := fun r => [], ret := true }
def S157 (γ : Calld) (a0 : AV) (H : AHeap) (K : AV → AHeap → Prop) : Prop :=
  optA (nilCkA a0) fun v1 => optA (fieldA ti159 v1 3) fun v2 => optA (ldV false 1 v2 H) fun v3 => optA (lenSl v3) fun v4 => loopA (fun X5 l6 H7 => optA (intA .lss (l6.getD 7 .junk) (l6.getD 6 .junk)) fun v8 => ifA v8 (optA (indexAddrA ti157 1 (l6.getD 5 .junk) (l6.getD 7 .junk)) fun v9 => optA (ldV false 1 v9 H7) fun v10 => optA (nilCkA v10) fun v11 => optA (fieldA ti169 v11 1) fun v12 => optA (ldV false 1 v12 H7) fun v13 => optA (intA .eql v13 (.d (.int .i64 1))) fun v14 => ifA v14 (newK H7 (fun n17 => bsA ti3 1 [0] [l6.getD 7 .junk] H7 n17) fun v15 H16 => newK H16 (fun n20 => apA 1 8 (l6.getD 1 .junk) v15 H16 n20) fun v18 H19 => frzLK [l6.getD 0 .junk] H19 fun l23 H24 => γ 195 l23 H24 fun v21 H22 => ifA v21 (newK H22 (fun n27 => bsA ti3 1 [0] [l6.getD 7 .junk] H22 n27) fun v25 H26 => newK H26 (fun n30 => apA 1 8 (l6.getD 2 .junk) v25 H26 n30) fun v28 H29 => optA (intA .add (l6.getD 7 .junk) (.d (.int .i64 1))) fun v31 => X5 [l6.getD 0 .junk, v18, v28, l6.getD 3 .junk, l6.getD 4 .junk, l6.getD 5 .junk, l6.getD 6 .junk, v31, l6.getD 8 .junk, l6.getD 9 .junk, l6.getD 10 .junk, l6.getD 11 .junk, l6.getD 12 .junk, l6.getD 13 .junk, l6.getD 14 .junk, l6.getD 15 .junk] H29) (optA (intA .add (l6.getD 7 .junk) (.d (.int .i64 1))) fun v32 => X5 [l6.getD 0 .junk, v18, l6.getD 2 .junk, l6.getD 3 .junk, l6.getD 4 .junk, l6.getD 5 .junk, l6.getD 6 .junk, v32, l6.getD 8 .junk, l6.getD 9 .junk, l6.getD 10 .junk, l6.getD 11 .junk, l6.getD 12 .junk, l6.getD 13 .junk, l6.getD 14 .junk, l6.getD 15 .junk] H22)) (optA (intA .add (l6.getD 7 .junk) (.d (.int .i64 1))) fun v33 => X5 [l6.getD 0 .junk, l6.getD 1 .junk, l6.getD 2 .junk, l6.getD 3 .junk, l6.getD 4 .junk, l6.getD 5 .junk, l6.getD 6 .junk, v33, l6.getD 8 .junk, l6.getD 9 .junk, l6.getD 10 .junk, l6.getD 11 .junk, l6.getD 12 .junk, l6.getD 13 .junk, l6.getD 14 .junk, l6.getD 15 .junk] H7)) (optA (nilCkA (l6.getD 0 .junk)) fun v34 => optA (fieldA ti159 v34 3) fun v35 => optA (ldV false 1 v35 H7) fun v36 => optA (lenSl v36) fun v37 => newK H7 (fun n40 => mkSlA ti4 v37 v37 n40) fun v38 H39 => optA (lenSl (l6.getD 2 .junk)) fun v41 => loopA (fun X42 l43 H44 => optA (intA .lss (l43.getD 10 .junk) (l43.getD 9 .junk)) fun v45 => ifA v45 (optA (indexAddrA ti55 1 (l43.getD 8 .junk) (l43.getD 10 .junk)) fun v46 => optA (ldV false 1 v46 H44) fun v47 => optA (nilCkA (l43.getD 0 .junk)) fun v48 => optA (fieldA ti159 v48 3) fun v49 => optA (ldV false 1 v49 H44) fun v50 => optA (lenSl v50) fun v51 => loopA (fun X52 l53 H54 => optA (intA .lss (l53.getD 12 .junk) (l53.getD 11 .junk)) fun v55 => ifA v55 (frzLK [l53.getD 0 .junk, l53.getD 12 .junk, l53.getD 4 .junk] H54 fun l58 H59 => γ 196 l58 H59 fun v56 H57 => ifA v56 (frzLK [l53.getD 0 .junk] H57 fun l62 H63 => γ 195 l62 H63 fun v60 H61 => ifA v60 (optA (indexAddrA ti53 1 (l53.getD 3 .junk) (l53.getD 4 .junk)) fun v64 => stepK (stoA false 1 v64 (.d (.bool true)) H61) H61 fun v65 H66 => optA (intA .add (l53.getD 12 .junk) (.d (.int .i64 1))) fun v67 => X52 [l53.getD 0 .junk, l53.getD 1 .junk, l53.getD 2 .junk, l53.getD 3 .junk, l53.getD 4 .junk, l53.getD 5 .junk, l53.getD 6 .junk, l53.getD 7 .junk, l53.getD 8 .junk, l53.getD 9 .junk, l53.getD 10 .junk, l53.getD 11 .junk, v67, l53.getD 13 .junk, l53.getD 14 .junk, l53.getD 15 .junk] H66) (optA (intA .add (l53.getD 12 .junk) (.d (.int .i64 1))) fun v68 => X52 [l53.getD 0 .junk, l53.getD 1 .junk, l53.getD 2 .junk, l53.getD 3 .junk, l53.getD 4 .junk, l53.getD 5 .junk, l53.getD 6 .junk, l53.getD 7 .junk, l53.getD 8 .junk, l53.getD 9 .junk, l53.getD 10 .junk, l53.getD 11 .junk, v68, l53.getD 13 .junk, l53.getD 14 .junk, l53.getD 15 .junk] H61)) (optA (intA .add (l53.getD 12 .junk) (.d (.int .i64 1))) fun v69 => X52 [l53.getD 0 .junk, l53.getD 1 .junk, l53.getD 2 .junk, l53.getD 3 .junk, l53.getD 4 .junk, l53.getD 5 .junk, l53.getD 6 .junk, l53.getD 7 .junk, l53.getD 8 .junk, l53.getD 9 .junk, l53.getD 10 .junk, l53.getD 11 .junk, v69, l53.getD 13 .junk, l53.getD 14 .junk, l53.getD 15 .junk] H57)) (optA (intA .add (l53.getD 10 .junk) (.d (.int .i64 1))) fun v70 => X42 [l53.getD 0 .junk, l53.getD 1 .junk, l53.getD 2 .junk, l53.getD 3 .junk, l53.getD 4 .junk, l53.getD 5 .junk, l53.getD 6 .junk, l53.getD 7 .junk, l53.getD 8 .junk, l53.getD 9 .junk, v70, l53.getD 11 .junk, l53.getD 12 .junk, l53.getD 13 .junk, l53.getD 14 .junk, l53.getD 15 .junk] H54)) [l43.getD 0 .junk, l43.getD 1 .junk, l43.getD 2 .junk, l43.getD 3 .junk, v47, l43.getD 5 .junk, l43.getD 6 .junk, l43.getD 7 .junk, l43.getD 8 .junk, l43.getD 9 .junk, l43.getD 10 .junk, v51, .d (.int .i64 0), l43.getD 13 .junk, l43.getD 14 .junk, l43.getD 15 .junk] H44) (optA (lenSl (l43.getD 1 .junk)) fun v71 => loopA (fun X72 l73 H74 => optA (intA .lss (l73.getD 15 .junk) (l73.getD 14 .junk)) fun v75 => ifA v75 (optA (indexAddrA ti55 1 (l73.getD 13 .junk) (l73.getD 15 .junk)) fun v76 => optA (ldV false 1 v76 H74) fun v77 => optA (nilCkA (l73.getD 0 .junk)) fun v78 => optA (fieldA ti159 v78 3) fun v79 => optA (ldV false 1 v79 H74) fun v80 => optA (indexAddrA ti157 1 v80 v77) fun v81 => optA (ldV false 1 v81 H74) fun v82 => optA (indexAddrA ti53 1 (l73.getD 3 .junk) v77) fun v83 => optA (ldV false 1 v83 H74) fun v84 => ifA v84 (optA (nilCkA v82) fun v85 => optA (fieldA ti169 v85 2) fun v86 => optA (ldV false 1 v86 H74) fun v87 => optA (intA .add v87 (.d (.int .i64 1))) fun v88 => optA (nilCkA v82) fun v89 => optA (fieldA ti169 v89 2) fun v90 => stepK (stoA false 1 v90 v88 H74) H74 fun v91 H92 => optA (nilCkA v82) fun v93 => optA (fieldA ti169 v93 3) fun v94 => stepK (stoA false 1 v94 (.d (.int .i64 0)) H92) H92 fun v95 H96 => optA (nilCkA v82) fun v97 => optA (fieldA ti169 v97 2) fun v98 => optA (ldV false 1 v98 H96) fun v99 => optA (intA .eql v99 (.d (.int .i64 600))) fun v100 => ifA v100 (optA (nilCkA v82) fun v101 => optA (fieldA ti169 v101 1) fun v102 => stepK (stoA false 1 v102 (.d (.int .i64 3)) H96) H96 fun v103 H104 => optA (intA .add (l73.getD 15 .junk) (.d (.int .i64 1))) fun v105 => X72 [l73.getD 0 .junk, l73.getD 1 .junk, l73.getD 2 .junk, l73.getD 3 .junk, l73.getD 4 .junk, l73.getD 5 .junk, l73.getD 6 .junk, l73.getD 7 .junk, l73.getD 8 .junk, l73.getD 9 .junk, l73.getD 10 .junk, l73.getD 11 .junk, l73.getD 12 .junk, l73.getD 13 .junk, l73.getD 14 .junk, v105] H104) (optA (intA .add (l73.getD 15 .junk) (.d (.int .i64 1))) fun v106 => X72 [l73.getD 0 .junk, l73.getD 1 .junk, l73.getD 2 .junk, l73.getD 3 .junk, l73.getD 4 .junk, l73.getD 5 .junk, l73.getD 6 .junk, l73.getD 7 .junk, l73.getD 8 .junk, l73.getD 9 .junk, l73.getD 10 .junk, l73.getD 11 .junk, l73.getD 12 .junk, l73.getD 13 .junk, l73.getD 14 .junk, v106] H96)) (optA (nilCkA v82) fun v107 => optA (fieldA ti169 v107 3) fun v108 => optA (ldV false 1 v108 H74) fun v109 => optA (intA .add v109 (.d (.int .i64 1))) fun v110 => optA (nilCkA v82) fun v111 => optA (fieldA ti169 v111 3) fun v112 => stepK (stoA false 1 v112 v110 H74) H74 fun v113 H114 => optA (nilCkA v82) fun v115 => optA (fieldA ti169 v115 3) fun v116 => optA (ldV false 1 v116 H114) fun v117 => optA (intA .eql v117 (.d (.int .i64 10))) fun v118 => ifA v118 (optA (nilCkA v82) fun v119 => optA (fieldA ti169 v119 2) fun v120 => optA (ldV false 1 v120 H114) fun v121 => frzLK [l73.getD 0 .junk, v82, v121] H114 fun l124 H125 => γ 197 l124 H125 fun v122 H123 => optA (nilCkA v82) fun v126 => optA (fieldA ti169 v126 1) fun v127 => stepK (stoA false 1 v127 (.d (.int .i64 2)) H123) H123 fun v128 H129 => optA (nilCkA v82) fun v130 => optA (fieldA ti169 v130 4) fun v131 => stepK (stoA true 2 v131 v122 H129) H129 fun v132 H133 => optA (intA .add (l73.getD 15 .junk) (.d (.int .i64 1))) fun v134 => X72 [l73.getD 0 .junk, l73.getD 1 .junk, l73.getD 2 .junk, l73.getD 3 .junk, l73.getD 4 .junk, l73.getD 5 .junk, l73.getD 6 .junk, l73.getD 7 .junk, l73.getD 8 .junk, l73.getD 9 .junk, l73.getD 10 .junk, l73.getD 11 .junk, l73.getD 12 .junk, l73.getD 13 .junk, l73.getD 14 .junk, v134] H133) (optA (intA .add (l73.getD 15 .junk) (.d (.int .i64 1))) fun v135 => X72 [l73.getD 0 .junk, l73.getD 1 .junk, l73.getD 2 .junk, l73.getD 3 .junk, l73.getD 4 .junk, l73.getD 5 .junk, l73.getD 6 .junk, l73.getD 7 .junk, l73.getD 8 .junk, l73.getD 9 .junk, l73.getD 10 .junk, l73.getD 11 .junk, l73.getD 12 .junk, l73.getD 13 .junk, l73.getD 14 .junk, v135] H114))) (retF [] H74 K)) [l43.getD 0 .junk, l43.getD 1 .junk, l43.getD 2 .junk, l43.getD 3 .junk, l43.getD 4 .junk, l43.getD 5 .junk, l43.getD 6 .junk, l43.getD 7 .junk, l43.getD 8 .junk, l43.getD 9 .junk, l43.getD 10 .junk, l43.getD 11 .junk, l43.getD 12 .junk, l43.getD 1 .junk, v71, .d (.int .i64 0)] H44)) [l6.getD 0 .junk, l6.getD 1 .junk, l6.getD 2 .junk, v38, l6.getD 4 .junk, l6.getD 5 .junk, l6.getD 6 .junk, l6.getD 7 .junk, l6.getD 2 .junk, v41, .d (.int .i64 0), l6.getD 11 .junk, l6.getD 12 .junk, l6.getD 13 .junk, l6.getD 14 .junk, l6.getD 15 .junk] H39)) [a0, .d (.sl true []), .d (.sl true []), .junk, .junk, v3, v4, .d (.int .i64 0), .junk, .junk, .junk, .junk, .junk, .junk, .junk, .junk] H
noncomputable def r157_0 : List Oper := regOps Try.f157 0
noncomputable def r157_1 : List Oper := regOps Try.f157 1
noncomputable def r157_2 : List Oper := regOps Try.f157 2
noncomputable def r157_3 : List Oper := regOps Try.f157 3
noncomputable def r157_4 : List Oper := regOps Try.f157 4
noncomputable def r157_5 : List Oper := regOps Try.f157 5
noncomputable def r157_6 : List Oper := regOps Try.f157 6
noncomputable def r157_7 : List Oper := regOps Try.f157 7
noncomputable def r157_8 : List Oper := regOps Try.f157 8
noncomputable def r157_9 : List Oper := regOps Try.f157 9
noncomputable def r157_10 : List Oper := regOps Try.f157 10
noncomputable def r157_11 : List Oper := regOps Try.f157 11
noncomputable def r157_12 : List Oper := regOps Try.f157 12
noncomputable def r157_13 : List Oper := regOps Try.f157 13
noncomputable def r157_14 : List Oper := regOps Try.f157 14
noncomputable def r157_15 : List Oper := regOps Try.f157 15
noncomputable def r157_16 : List Oper := regOps Try.f157 16
noncomputable def r157_17 : List Oper := regOps Try.f157 17
noncomputable def r157_18 : List Oper := regOps Try.f157 18
noncomputable def r157_19 : List Oper := regOps Try.f157 19
noncomputable def r157_20 : List Oper := regOps Try.f157 20
noncomputable def r157_21 : List Oper := regOps Try.f157 21
noncomputable def r157_22 : List Oper := regOps Try.f157 22
noncomputable def r157_23 : List Oper := regOps Try.f157 23
noncomputable def r157_24 : List Oper := regOps Try.f157 24
noncomputable def r157_25 : List Oper := regOps Try.f157 25
noncomputable def r157_26 : List Oper := regOps Try.f157 26
noncomputable def r157_27 : List Oper := regOps Try.f157 27
noncomputable def r157_28 : List Oper := regOps Try.f157 28
noncomputable def r157_29 : List Oper := regOps Try.f157 29
noncomputable def r157_30 : List Oper := regOps Try.f157 30
noncomputable def r157_31 : List Oper := regOps Try.f157 31
noncomputable def r157_32 : List Oper := regOps Try.f157 32
noncomputable def c157 : Code := (.seq (.region 0 #[opAt r157_0 0, opAt r157_0 1] false) (.seq (.seq (.region 1 #[opAt r157_1 0, opAt r157_1 1, opAt r157_1 2, opAt r157_1 3, opAt r157_1 4, opAt r157_1 5] false) (.block 0 (.loop (.seq (.region 2 #[opAt r157_2 0] false) (.seq (.cond (.tmp 19) .skip (.exit 0)) (.seq (.block 1 (.seq (.region 3 #[opAt r157_3 0, opAt r157_3 1, opAt r157_3 2, opAt r157_3 3, opAt r157_3 4] false) (.seq (.region 4 #[opAt r157_4 0, opAt r157_4 1, opAt r157_4 2, opAt r157_4 3, opAt r157_4 4] false) (.cond (.tmp 27) (.seq (.region 5 #[opAt r157_5 0, opAt r157_5 1, opAt r157_5 2, opAt r157_5 3, opAt r157_5 4] false) (.seq (.region 6 #[opAt r157_6 0, opAt r157_6 1] false) (.cond (.tmp 33) (.region 7 #[opAt r157_7 0, opAt r157_7 1, opAt r157_7 2, opAt r157_7 3, opAt r157_7 4] false) .skip))) .skip)))) (.region 8 #[opAt r157_8 0, opAt r157_8 1] false))))))) (.seq (.region 9 #[opAt r157_9 0, opAt r157_9 1, opAt r157_9 2, opAt r157_9 3, opAt r157_9 4, opAt r157_9 5, opAt r157_9 6] false) (.seq (.seq (.region 10 #[opAt r157_10 0, opAt r157_10 1, opAt r157_10 2] false) (.block 2 (.loop (.seq (.region 11 #[opAt r157_11 0] false) (.seq (.cond (.tmp 48) .skip (.exit 2)) (.seq (.block 3 (.seq (.region 12 #[opAt r157_12 0, opAt r157_12 1, opAt r157_12 2] false) (.seq (.region 13 #[opAt r157_13 0, opAt r157_13 1, opAt r157_13 2, opAt r157_13 3, opAt r157_13 4, opAt r157_13 5] false) (.block 4 (.loop (.seq (.region 14 #[opAt r157_14 0] false) (.seq (.cond (.tmp 57) .skip (.exit 4)) (.seq (.block 5 (.seq (.region 15 #[opAt r157_15 0, opAt r157_15 1] false) (.seq (.region 16 #[opAt r157_16 0, opAt r157_16 1, opAt r157_16 2, opAt r157_16 3, opAt r157_16 4, opAt r157_16 5, opAt r157_16 6, opAt r157_16 7] false) (.cond (.tmp 66) (.region 17 #[opAt r157_17 0, opAt r157_17 1, opAt r157_17 2, opAt r157_17 3] false) .skip)))) (.region 18 #[opAt r157_18 0, opAt r157_18 1] false))))))))) (.region 19 #[opAt r157_19 0, opAt r157_19 1] false))))))) (.seq (.region 20 #[opAt r157_20 0, opAt r157_20 1, opAt r157_20 2] false) (.block 6 (.loop (.seq (.region 21 #[opAt r157_21 0] false) (.seq (.cond (.tmp 75) .skip (.exit 6)) (.seq (.block 7 (.seq (.region 22 #[opAt r157_22 0, opAt r157_22 1, opAt r157_22 2] false) (.seq (.region 23 #[opAt r157_23 0, opAt r157_23 1, opAt r157_23 2, opAt r157_23 3, opAt r157_23 4, opAt r157_23 5, opAt r157_23 6, opAt r157_23 7] false) (.seq (.seq (.region 24 #[opAt r157_24 0, opAt r157_24 1, opAt r157_24 2, opAt r157_24 3] false) (.cond (.tmp 88) (.seq (.region 25 #[opAt r157_25 0, opAt r157_25 1, opAt r157_25 2, opAt r157_25 3, opAt r157_25 4, opAt r157_25 5, opAt r157_25 6, opAt r157_25 7] false) (.seq (.region 26 #[opAt r157_26 0, opAt r157_26 1, opAt r157_26 2, opAt r157_26 3] false) (.seq (.seq (.region 27 #[opAt r157_27 0, opAt r157_27 1, opAt r157_27 2, opAt r157_27 3, opAt r157_27 4] false) (.cond (.tmp 103) (.region 28 #[opAt r157_28 0, opAt r157_28 1, opAt r157_28 2, opAt r157_28 3] false) .skip)) (.exit 7)))) .skip)) (.seq (.region 29 #[opAt r157_29 0, opAt r157_29 1, opAt r157_29 2, opAt r157_29 3, opAt r157_29 4, opAt r157_29 5, opAt r157_29 6, opAt r157_29 7] false) (.seq (.region 30 #[opAt r157_30 0, opAt r157_30 1, opAt r157_30 2, opAt r157_30 3, opAt r157_30 4] false) (.cond (.tmp 118) (.region 31 #[opAt r157_31 0, opAt r157_31 1, opAt r157_31 2, opAt r157_31 3, opAt r157_31 4, opAt r157_31 5, opAt r157_31 6, opAt r157_31 7, opAt r157_31 8, opAt r157_31 9, opAt r157_31 10, opAt r157_31 11, opAt r157_31 12, opAt r157_31 13, opAt r157_31 14] false) .skip))))))) (.region 32 #[opAt r157_32 0, opAt r157_32 1] false)))))))))))
theorem c157_eq : Try.f157.body = some c157 := by kernel_rfl
theorem S157_eq (γ : Calld) (a0 : AV) (H : AHeap) (K : AV → AHeap → Prop) : execC Try.prog γ pol157 Try.f157 c157 [a0] H K = S157 γ a0 H K := by kernel_rfl
theorem C157 {a0 : AV} {H : AHeap} {K : AV → AHeap → Prop} (h : S157 (CallsA Try.prog) a0 H K) : CallsA Try.prog 157 [a0] H K :=
  calls_of Try.func157 (ne_of_beq_false (by kernel_rfl)) c157_eq (by kernel_rfl) (by rw [S157_eq]; exact h)
/-! (*tithing/probe.Link).ask -/
def pol158 : Pol := { lend := fun g => !([82, 161] : List Nat).contains g, keep := [0, 2, 3, 4, 13, 14, 15, 24, 25, 56, 57, 58, 76, 77, 78], frz := fun _ => [], perm := fun r => if r = 21 then [0, 1, 2, 3, 4, 5, 6, 7, 8, 9] else [], bf := fun r => if r = 21 then [0, 0, 2, 6, 14, 0, 62, 127, 255, 511] else [], ret := true }
def S158 (γ : Calld) (a0 : AV) (H : AHeap) (K : AV → AHeap → Prop) : Prop :=
  optA (nilCkA a0) fun v1 => optA (fieldA ti159 v1 3) fun v2 => optA (ldV false 1 v2 H) fun v3 => optA (lenSl v3) fun v4 => loopA (fun X5 l6 H7 => optA (intA .lss (l6.getD 6 .junk) (l6.getD 5 .junk)) fun v8 => ifA v8 (optA (indexAddrA ti157 1 (l6.getD 4 .junk) (l6.getD 6 .junk)) fun v9 => optA (ldV false 1 v9 H7) fun v10 => optA (nilCkA v10) fun v11 => optA (fieldA ti169 v11 5) fun v12 => optA (ldV false 1 v12 H7) fun v13 => optA (lenSl v13) fun v14 => loopA (fun X15 l16 H17 => optA (intA .lss (l16.getD 8 .junk) (l16.getD 7 .junk)) fun v18 => ifA v18 (optA (nilCkA (l16.getD 3 .junk)) fun v19 => optA (fieldA ti169 v19 5) fun v20 => optA (ldV false 1 v20 H17) fun v21 => optA (indexAddrA ti166 3 v21 (l16.getD 8 .junk)) fun v22 => optA (fieldA ti273 v22 1) fun v23 => optA (ldV false 1 v23 H17) fun v24 => optA (intA .add v24 (.d (.int .i64 1))) fun v25 => optA (indexAddrA ti166 3 v21 (l16.getD 8 .junk)) fun v26 => optA (fieldA ti273 v26 1) fun v27 => stepK (stoA false 1 v27 v25 H17) H17 fun v28 H29 => frzLK [l16.getD 0 .junk] H29 fun l32 H33 => γ 195 l32 H33 fun v30 H31 => ifA v30 (optA (nilCkA (l16.getD 3 .junk)) fun v34 => optA (fieldA ti169 v34 5) fun v35 => optA (ldV false 1 v35 H31) fun v36 => optA (indexAddrA ti166 3 v36 (l16.getD 8 .junk)) fun v37 => optA (fieldA ti273 v37 0) fun v38 => optA (ldV true 2 v38 H31) fun v39 => stepK (bdA Try.prog ti275 [0, 1] [l16.getD 2 .junk, v39] H31) H31 fun v40 H41 => newK H41 (fun n44 => bsA ti275 1 [0] [v40] H41 n44) fun v42 H43 => newK H43 (fun n47 => apA 3 24 (l16.getD 1 .junk) v42 H43 n47) fun v45 H46 => optA (intA .add (l16.getD 8 .junk) (.d (.int .i64 1))) fun v48 => X15 [l16.getD 0 .junk, v45, l16.getD 2 .junk, l16.getD 3 .junk, l16.getD 4 .junk, l16.getD 5 .junk, l16.getD 6 .junk, l16.getD 7 .junk, v48, l16.getD 9 .junk, l16.getD 10 .junk, l16.getD 11 .junk, l16.getD 12 .junk, l16.getD 13 .junk, l16.getD 14 .junk] H46) (optA (intA .add (l16.getD 8 .junk) (.d (.int .i64 1))) fun v49 => X15 [l16.getD 0 .junk, l16.getD 1 .junk, l16.getD 2 .junk, l16.getD 3 .junk, l16.getD 4 .junk, l16.getD 5 .junk, l16.getD 6 .junk, l16.getD 7 .junk, v49, l16.getD 9 .junk, l16.getD 10 .junk, l16.getD 11 .junk, l16.getD 12 .junk, l16.getD 13 .junk, l16.getD 14 .junk] H31)) (optA (intA .add (l16.getD 6 .junk) (.d (.int .i64 1))) fun v50 => X5 [l16.getD 0 .junk, l16.getD 1 .junk, l16.getD 2 .junk, l16.getD 3 .junk, l16.getD 4 .junk, l16.getD 5 .junk, v50, l16.getD 7 .junk, l16.getD 8 .junk, l16.getD 9 .junk, l16.getD 10 .junk, l16.getD 11 .junk, l16.getD 12 .junk, l16.getD 13 .junk, l16.getD 14 .junk] H17)) [l6.getD 0 .junk, l6.getD 1 .junk, l6.getD 6 .junk, v10, l6.getD 4 .junk, l6.getD 5 .junk, l6.getD 6 .junk, v14, .d (.int .i64 0), l6.getD 9 .junk, l6.getD 10 .junk, l6.getD 11 .junk, l6.getD 12 .junk, l6.getD 13 .junk, l6.getD 14 .junk] H7) (optA (lenSl (l6.getD 1 .junk)) fun v51 => loopA (fun X52 l53 H54 => optA (intA .lss (l53.getD 11 .junk) (l53.getD 10 .junk)) fun v55 => ifA v55 (optA (indexAddrA ti271 3 (l53.getD 9 .junk) (l53.getD 11 .junk)) fun v56 => optA (ldV true 3 v56 H54) fun v57 => newK H54 (fun n60 => some (.ptr n60 0 0 0, [(n60, .mem 0 0 3 [[.d (.int .i64 0), .d (.int .i64 0), .d (.int .i64 0)]])])) fun v58 H59 => stepK (stoA true 3 v58 v57 H59) H59 fun v61 H62 => optA (fieldA ti275 v58 0) fun v63 => optA (ldV false 1 v63 H62) fun v64 => frzLK [l53.getD 0 .junk, v64] H62 fun l67 H68 => γ 198 l67 H68 fun v65 H66 => optA (fieldA ti275 v58 0) fun v69 => optA (ldV false 1 v69 H66) fun v70 => optA (fieldA ti275 v58 1) fun v71 => optA (ldV true 2 v71 H66) fun v72 => frzLK [l53.getD 0 .junk, v70, v72] H66 fun l75 H76 => γ 199 l75 H76 fun v73 H74 => optA (intA .add (l53.getD 11 .junk) (.d (.int .i64 1))) fun v77 => X52 [l53.getD 0 .junk, l53.getD 1 .junk, l53.getD 2 .junk, l53.getD 3 .junk, l53.getD 4 .junk, l53.getD 5 .junk, l53.getD 6 .junk, l53.getD 7 .junk, l53.getD 8 .junk, l53.getD 9 .junk, l53.getD 10 .junk, v77, l53.getD 12 .junk, l53.getD 13 .junk, l53.getD 14 .junk] H74) (optA (nilCkA (l53.getD 0 .junk)) fun v78 => optA (fieldA ti159 v78 3) fun v79 => optA (ldV false 1 v79 H54) fun v80 => optA (lenSl v80) fun v81 => loopA (fun X82 l83 H84 => optA (intA .lss (l83.getD 14 .junk) (l83.getD 13 .junk)) fun v85 => ifA v85 (optA (indexAddrA ti157 1 (l83.getD 12 .junk) (l83.getD 14 .junk)) fun v86 => optA (ldV false 1 v86 H84) fun v87 => newK H84 (fun n90 => some (.ptr n90 0 0 0, [(n90, .mem 0 0 1 [[.nilptr]])])) fun v88 H89 => stepK (stoA false 1 v88 v87 H89) H89 fun v91 H92 => drA true (optA (ldV false 1 v88 H92) fun v93 => optA (ldV false 1 v88 H92) fun v94 => optA (nilCkA v94) fun v95 => optA (fieldA ti169 v95 5) fun v96 => optA (ldV false 1 v96 H92) fun v97 => apart (rsOf v97) v88 ∧ (apart (rsOf (.func 201 [] [v88])) v88 ∧ (noRsA (aggL v97) (noRsA (aggL (.func 201 [] [v88])) (frzLK [v97, .func 201 [] [v88]] H92 fun l99 H101 => ∃ r100, γ 200 l99 H101 (fun v H2 => v = r100 ∧ AHeap.le H101 H2) ∧ (optA (nilCkA v93) fun v102 => optA (fieldA ti169 v102 5) fun v103 => noRsA (aggL r100) (stepK (stoA false 1 v103 r100 H101) H101 fun v104 H105 => optA (intA .add (l83.getD 14 .junk) (.d (.int .i64 1))) fun v106 => X82 [l83.getD 0 .junk, l83.getD 1 .junk, l83.getD 2 .junk, l83.getD 3 .junk, l83.getD 4 .junk, l83.getD 5 .junk, l83.getD 6 .junk, l83.getD 7 .junk, l83.getD 8 .junk, l83.getD 9 .junk, l83.getD 10 .junk, l83.getD 11 .junk, l83.getD 12 .junk, l83.getD 13 .junk, v106] H105)))))))) (retF [] H84 K)) [l53.getD 0 .junk, l53.getD 1 .junk, l53.getD 2 .junk, l53.getD 3 .junk, l53.getD 4 .junk, l53.getD 5 .junk, l53.getD 6 .junk, l53.getD 7 .junk, l53.getD 8 .junk, l53.getD 9 .junk, l53.getD 10 .junk, l53.getD 11 .junk, v80, v81, .d (.int .i64 0)] H54)) [l6.getD 0 .junk, l6.getD 1 .junk, l6.getD 2 .junk, l6.getD 3 .junk, l6.getD 4 .junk, l6.getD 5 .junk, l6.getD 6 .junk, l6.getD 7 .junk, l6.getD 8 .junk, l6.getD 1 .junk, v51, .d (.int .i64 0), l6.getD 12 .junk, l6.getD 13 .junk, l6.getD 14 .junk] H7)) [a0, .d (.sl true []), .junk, .junk, v3, v4, .d (.int .i64 0), .junk, .junk, .junk, .junk, .junk, .junk, .junk, .junk] H
noncomputable def r158_0 : List Oper := regOps Try.f158 0
noncomputable def r158_1 : List Oper := regOps Try.f158 1
noncomputable def r158_2 : List Oper := regOps Try.f158 2
noncomputable def r158_3 : List Oper := regOps Try.f158 3
noncomputable def r158_4 : List Oper := regOps Try.f158 4
noncomputable def r158_5 : List Oper := regOps Try.f158 5
noncomputable def r158_6 : List Oper := regOps Try.f158 6
noncomputable def r158_7 : List Oper := regOps Try.f158 7
noncomputable def r158_8 : List Oper := regOps Try.f158 8
noncomputable def r158_9 : List Oper := regOps Try.f158 9
noncomputable def r158_10 : List Oper := regOps Try.f158 10
noncomputable def r158_11 : List Oper := regOps Try.f158 11
noncomputable def r158_12 : List Oper := regOps Try.f158 12
noncomputable def r158_13 : List Oper := regOps Try.f158 13
noncomputable def r158_14 : List Oper := regOps Try.f158 14
noncomputable def r158_15 : List Oper := regOps Try.f158 15
noncomputable def r158_16 : List Oper := regOps Try.f158 16
noncomputable def r158_17 : List Oper := regOps Try.f158 17
noncomputable def r158_18 : List Oper := regOps Try.f158 18
noncomputable def r158_19 : List Oper := regOps Try.f158 19
noncomputable def r158_20 : List Oper := regOps Try.f158 20
noncomputable def r158_21 : List Oper := regOps Try.f158 21
noncomputable def r158_22 : List Oper := regOps Try.f158 22
noncomputable def c158 : Code := (.seq (.region 0 #[opAt r158_0 0] false) (.seq (.seq (.region 1 #[opAt r158_1 0, opAt r158_1 1, opAt r158_1 2, opAt r158_1 3, opAt r158_1 4, opAt r158_1 5] false) (.block 0 (.loop (.seq (.region 2 #[opAt r158_2 0] false) (.seq (.cond (.tmp 16) .skip (.exit 0)) (.seq (.block 1 (.seq (.region 3 #[opAt r158_3 0, opAt r158_3 1, opAt r158_3 2, opAt r158_3 3, opAt r158_3 4] false) (.seq (.region 4 #[opAt r158_4 0, opAt r158_4 1, opAt r158_4 2, opAt r158_4 3, opAt r158_4 4, opAt r158_4 5] false) (.block 2 (.loop (.seq (.region 5 #[opAt r158_5 0] false) (.seq (.cond (.tmp 26) .skip (.exit 2)) (.seq (.block 3 (.seq (.region 6 #[opAt r158_6 0, opAt r158_6 1] false) (.seq (.region 7 #[opAt r158_7 0, opAt r158_7 1, opAt r158_7 2, opAt r158_7 3, opAt r158_7 4, opAt r158_7 5, opAt r158_7 6, opAt r158_7 7, opAt r158_7 8, opAt r158_7 9, opAt r158_7 10, opAt r158_7 11] false) (.seq (.region 8 #[opAt r158_8 0, opAt r158_8 1] false) (.cond (.tmp 40) (.region 9 #[opAt r158_9 0, opAt r158_9 1, opAt r158_9 2, opAt r158_9 3, opAt r158_9 4, opAt r158_9 5, opAt r158_9 6, opAt r158_9 7, opAt r158_9 8, opAt r158_9 9, opAt r158_9 10, opAt r158_9 11, opAt r158_9 12, opAt r158_9 13] false) .skip))))) (.region 10 #[opAt r158_10 0, opAt r158_10 1] false))))))))) (.region 11 #[opAt r158_11 0, opAt r158_11 1] false))))))) (.seq (.seq (.region 12 #[opAt r158_12 0, opAt r158_12 1, opAt r158_12 2] false) (.block 4 (.loop (.seq (.region 13 #[opAt r158_13 0] false) (.seq (.cond (.tmp 59) .skip (.exit 4)) (.seq (.block 5 (.seq (.region 14 #[opAt r158_14 0, opAt r158_14 1, opAt r158_14 2, opAt r158_14 3] false) (.seq (.region 15 #[opAt r158_15 0, opAt r158_15 1, opAt r158_15 2, opAt r158_15 3] false) (.region 16 #[opAt r158_16 0, opAt r158_16 1, opAt r158_16 2, opAt r158_16 3, opAt r158_16 4, opAt r158_16 5] false)))) (.region 17 #[opAt r158_17 0, opAt r158_17 1] false))))))) (.seq (.region 18 #[opAt r158_18 0, opAt r158_18 1, opAt r158_18 2, opAt r158_18 3, opAt r158_18 4, opAt r158_18 5] false) (.block 6 (.loop (.seq (.region 19 #[opAt r158_19 0] false) (.seq (.cond (.tmp 79) .skip (.exit 6)) (.seq (.block 7 (.seq (.region 20 #[opAt r158_20 0, opAt r158_20 1, opAt r158_20 2, opAt r158_20 3] false) (.region 21 #[opAt r158_21 0, opAt r158_21 1, opAt r158_21 2, opAt r158_21 3, opAt r158_21 4, opAt r158_21 5, opAt r158_21 6, opAt r158_21 7, opAt r158_21 8, opAt r158_21 9] true))) (.region 22 #[opAt r158_22 0, opAt r158_22 1] false))))))))))
theorem c158_eq : Try.f158.body = some c158 := by kernel_rfl
theorem S158_eq (γ : Calld) (a0 : AV) (H : AHeap) (K : AV → AHeap → Prop) : execC Try.prog γ pol158 Try.f158 c158 [a0] H K = S158 γ a0 H K := by kernel_rfl
theorem C158 {a0 : AV} {H : AHeap} {K : AV → AHeap → Prop} (h : S158 (CallsA Try.prog) a0 H K) : CallsA Try.prog 158 [a0] H K :=
  calls_of Try.func158 (ne_of_beq_false (by kernel_rfl)) c158_eq (by kernel_rfl) (by rw [S158_eq]; exact h)
/-! slices.DeleteFunc[[]tithing/probe.hint,tithing/probe.hint] -/
def pol159 : Pol := { lend := fun g => !([82, 161] : List Nat).contains g, keep := [0, 1, 5, 6], frz := fun _ => [], perm := fun r => [], bf := fun r => [], ret := true }
def S159 (γ : Calld) (a0 a1 : AV) (H : AHeap) (K : AV → AHeap → Prop) : Prop :=
  frzLK [a0, a1] H fun l3 H4 => γ 203 l3 H4 fun v1 H2 => optA (intA .eql v1 (.d (.int .i64 (-1)))) fun v5 => ifA v5 (retF [a0] H2 K) (optA (intA .add v1 (.d (.int .i64 1))) fun v6 => loopA (fun X7 l8 H9 => optA (lenSl (l8.getD 0 .junk)) fun v10 => optA (intA .lss (l8.getD 3 .junk) v10) fun v11 => ifA v11 (optA (indexAddrA ti167 4 (l8.getD 0 .junk) (l8.getD 3 .junk)) fun v12 => optA (ldV true 4 v12 H9) fun v13 => newK H9 (fun n16 => some (.ptr n16 0 0 0, [(n16, .mem 0 0 4 [[.d (.int .i64 0), .d (.int .i64 0), .d (.int .i64 0), .d (.int .i64 0)]])])) fun v14 H15 => stepK (stoA true 4 v14 v13 H15) H15 fun v17 H18 => optA (ldV true 4 v14 H18) fun v19 => callA γ pol159 (l8.getD 1 .junk) [v19] H18 fun v20 H21 => optA (unA .not v20) fun v22 => ifA v22 (optA (ldV true 4 v14 H21) fun v23 => optA (indexAddrA ti167 4 (l8.getD 0 .junk) (l8.getD 2 .junk)) fun v24 => stepK (stoA true 4 v24 v23 H21) H21 fun v25 H26 => optA (intA .add (l8.getD 2 .junk) (.d (.int .i64 1))) fun v27 => optA (intA .add (l8.getD 3 .junk) (.d (.int .i64 1))) fun v28 => X7 [l8.getD 0 .junk, l8.getD 1 .junk, v27, v28] H26) (optA (intA .add (l8.getD 3 .junk) (.d (.int .i64 1))) fun v29 => X7 [l8.getD 0 .junk, l8.getD 1 .junk, l8.getD 2 .junk, v29] H21)) (optA (sliceA 4 (l8.getD 0 .junk) (some (l8.getD 2 .junk)) none none H9) fun v30 => False)) [a0, a1, v1, v6] H2)
noncomputable def r159_0 : List Oper := regOps Try.f159 0
noncomputable def r159_1 : List Oper := regOps Try.f159 1
noncomputable def r159_2 : List Oper := regOps Try.f159 2
noncomputable def r159_3 : List Oper := regOps Try.f159 3
noncomputable def r159_4 : List Oper := regOps Try.f159 4
noncomputable def r159_5 : List Oper := regOps Try.f159 5
noncomputable def r159_6 : List Oper := regOps Try.f159 6
noncomputable def r159_7 : List Oper := regOps Try.f159 7
noncomputable def r159_8 : List Oper := regOps Try.f159 8
noncomputable def r159_9 : List Oper := regOps Try.f159 9
noncomputable def r159_10 : List Oper := regOps Try.f159 10
noncomputable def r159_11 : List Oper := regOps Try.f159 11
noncomputable def r159_12 : List Oper := regOps Try.f159 12
noncomputable def c159 : Code := (.seq (.region 0 #[opAt r159_0 0] false) (.seq (.region 1 #[opAt r159_1 0, opAt r159_1 1, opAt r159_1 2, opAt r159_1 3] false) (.seq (.seq (.region 2 #[opAt r159_2 0, opAt r159_2 1] false) (.cond (.tmp 12) (.seq (.region 3 #[opAt r159_3 0, opAt r159_3 1] false) .ret) .skip)) (.seq (.seq (.region 4 #[opAt r159_4 0, opAt r159_4 1, opAt r159_4 2] false) (.block 0 (.loop (.seq (.seq (.region 5 #[opAt r159_5 0, opAt r159_5 1, opAt r159_5 2, opAt r159_5 3] false) (.cond (.tmp 19) .skip (.exit 0))) (.seq (.block 1 (.seq (.region 7 #[opAt r159_6 0, opAt r159_6 1, opAt r159_6 2, opAt r159_6 3, opAt r159_6 4, opAt r159_6 5] false) (.seq (.region 8 #[opAt r159_7 0, opAt r159_7 1, opAt r159_7 2, opAt r159_7 3] false) (.cond (.tmp 29) (.seq (.region 9 #[opAt r159_8 0, opAt r159_8 1, opAt r159_8 2, opAt r159_8 3, opAt r159_8 4] false) (.region 10 #[opAt r159_9 0, opAt r159_9 1, opAt r159_9 2] false)) .skip)))) (.region 6 #[opAt r159_10 0, opAt r159_10 1, opAt r159_10 2] false)))))) (.seq (.region 11 #[opAt r159_11 0, opAt r159_11 1, opAt r159_11 2, opAt r159_11 3] false) (.seq (.region 12 #[opAt r159_12 0, opAt r159_12 1, opAt r159_12 2, opAt r159_12 3] false) .ret))))))
theorem c159_eq : Try.f159.body = some c159 := by kernel_rfl
theorem S159_eq (γ : Calld) (a0 a1 : AV) (H : AHeap) (K : AV → AHeap → Prop) : execC Try.prog γ pol159 Try.f159 c159 [a0, a1] H K = S159 γ a0 a1 H K := by kernel_rfl
theorem C159 {a0 a1 : AV} {H : AHeap} {K : AV → AHeap → Prop} (h : S159 (CallsA Try.prog) a0 a1 H K) : CallsA Try.prog 159 [a0, a1] H K :=
  calls_of Try.func159 (ne_of_beq_false (by kernel_rfl)) c159_eq (by kernel_rfl) (by rw [S159_eq]; exact h)
/-! (*tithing/probe.Link).Step$1 -/
def pol160 : Pol := { lend := fun g => !([82, 161] : List Nat).contains g, keep := [], frz := fun _ => [], perm := fun r => [], bf := fun r => [], ret := true }
def S160 (γ : Calld) (a0 : AV) (H : AHeap) (K : AV → AHeap → Prop) : Prop :=
  newK H (fun n3 => boxA a0 n3) fun v1 H2 => optA (fieldA ti224 v1 2) fun v4 => optA (ldV false 1 v4 H2) fun v5 => optA (intA .gtr v5 (.d (.int .i64 20))) fun v6 => retF [v6] H2 K
noncomputable def r160_0 : List Oper := regOps Try.f160 0
noncomputable def r160_1 : List Oper := regOps Try.f160 1
noncomputable def c160 : Code := (.seq (.region 0 #[opAt r160_0 0, opAt r160_0 1] false) (.seq (.region 1 #[opAt r160_1 0, opAt r160_1 1, opAt r160_1 2, opAt r160_1 3] false) .ret))
theorem c160_eq : Try.f160.body = some c160 := by kernel_rfl
theorem S160_eq (γ : Calld) (a0 : AV) (H : AHeap) (K : AV → AHeap → Prop) : execC Try.prog γ pol160 Try.f160 c160 [a0] H K = S160 γ a0 H K := by kernel_rfl
theorem C160 {a0 : AV} {H : AHeap} {K : AV → AHeap → Prop} (h : S160 (CallsA Try.prog) a0 H K) : CallsA Try.prog 160 [a0] H K :=
  calls_of Try.func160 (ne_of_beq_false (by kernel_rfl)) c160_eq (by kernel_rfl) (by rw [S160_eq]; exact h)
/-! slices.IndexFunc[[]*tithing/bus.station,*tithing/bus.station] -/
def pol161 : Pol := { lend := fun g => !([82, 161] : List Nat).contains g, keep := [0, 1, 7, 8], frz := fun _ => [], perm := fun r => [], bf := fun r => [], ret := true }
def S161 (γ : Calld) (a0 a1 : AV) (H : AHeap) (K : AV → AHeap → Prop) : Prop :=
  optA (lenSl a0) fun v1 => loopA (fun X2 l3 H4 => optA (intA .lss (l3.getD 3 .junk) (l3.getD 2 .junk)) fun v5 => ifA v5 (optA (indexAddrA ti154 1 (l3.getD 0 .junk) (l3.getD 3 .junk)) fun v6 => optA (ldV false 1 v6 H4) fun v7 => callA γ pol161 (l3.getD 1 .junk) [v7] H4 fun v8 H9 => ifA v8 (retF [l3.getD 3 .junk] H9 K) (optA (intA .add (l3.getD 3 .junk) (.d (.int .i64 1))) fun v10 => X2 [l3.getD 0 .junk, l3.getD 1 .junk, l3.getD 2 .junk, v10] H9)) (retF [.d (.int .i64 (-1))] H4 K)) [a0, a1, v1, .d (.int .i64 0)] H
noncomputable def r161_0 : List Oper := regOps Try.f161 0
noncomputable def r161_1 : List Oper := regOps Try.f161 1
noncomputable def r161_2 : List Oper := regOps Try.f161 2
noncomputable def r161_3 : List Oper := regOps Try.f161 3
noncomputable def r161_4 : List Oper := regOps Try.f161 4
noncomputable def r161_5 : List Oper := regOps Try.f161 5
noncomputable def r161_6 : List Oper := regOps Try.f161 6
noncomputable def r161_7 : List Oper := regOps Try.f161 7
noncomputable def c161 : Code := (.seq (.region 0 #[opAt r161_0 0] false) (.seq (.seq (.region 1 #[opAt r161_1 0, opAt r161_1 1, opAt r161_1 2] false) (.block 0 (.loop (.seq (.region 2 #[opAt r161_2 0] false) (.seq (.cond (.tmp 9) .skip (.exit 0)) (.seq (.block 1 (.seq (.region 3 #[opAt r161_3 0, opAt r161_3 1] false) (.seq (.region 4 #[opAt r161_4 0, opAt r161_4 1, opAt r161_4 2, opAt r161_4 3, opAt r161_4 4, opAt r161_4 5] false) (.cond (.tmp 16) (.seq (.region 5 #[opAt r161_5 0, opAt r161_5 1] false) .ret) .skip)))) (.region 6 #[opAt r161_6 0, opAt r161_6 1] false))))))) (.seq (.region 7 #[opAt r161_7 0] false) .ret)))
theorem c161_eq : Try.f161.body = some c161 := by kernel_rfl
theorem S161_eq (γ : Calld) (a0 a1 : AV) (H : AHeap) (K : AV → AHeap → Prop) : execC Try.prog γ pol161 Try.f161 c161 [a0, a1] H K = S161 γ a0 a1 H K := by kernel_rfl
theorem C161 {a0 a1 : AV} {H : AHeap} {K : AV → AHeap → Prop} (h : S161 (CallsA Try.prog) a0 a1 H K) : CallsA Try.prog 161 [a0, a1] H K :=
  calls_of Try.func161 (ne_of_beq_false (by kernel_rfl)) c161_eq (by kernel_rfl) (by rw [S161_eq]; exact h)
/-! slices.BinarySearch[[]int,int] -/
def pol162 : Pol := { lend := fun g => !([82, 161] : List Nat).contains g, keep := [0, 1, 6, 7, 8], frz := fun _ => [], perm := fun r => [], bf := fun r => [], ret := true }
def S162 (γ : Calld) (a0 a1 : AV) (H : AHeap) (K : AV → AHeap → Prop) : Prop :=
  optA (lenSl a0) fun v1 => loopA (fun X2 l3 H4 => optA (intA .lss (l3.getD 3 .junk) (l3.getD 4 .junk)) fun v5 => ifA v5 (optA (intA .add (l3.getD 3 .junk) (l3.getD 4 .junk)) fun v6 => optA (cvI .u64 v6) fun v7 => optA (intA .shr v7 (.d (.int .u64 1))) fun v8 => optA (cvI .i64 v8) fun v9 => optA (indexAddrA ti55 1 (l3.getD 0 .junk) v9) fun v10 => optA (ldV false 1 v10 H4) fun v11 => frzLK [v11, l3.getD 1 .junk] H4 fun l14 H15 => γ 204 l14 H15 fun v12 H13 => ifA v12 (optA (intA .add v9 (.d (.int .i64 1))) fun v16 => X2 [l3.getD 0 .junk, l3.getD 1 .junk, l3.getD 2 .junk, v16, l3.getD 4 .junk] H13) (X2 [l3.getD 0 .junk, l3.getD 1 .junk, l3.getD 2 .junk, l3.getD 3 .junk, v9] H13)) (optA (intA .lss (l3.getD 3 .junk) (l3.getD 2 .junk)) fun v17 => ifA v17 (optA (indexAddrA ti55 1 (l3.getD 0 .junk) (l3.getD 3 .junk)) fun v18 => optA (ldV false 1 v18 H4) fun v19 => optA (intA .eql v19 (l3.getD 1 .junk)) fun v20 => ifA v20 (retF [l3.getD 3 .junk, .d (.bool true)] H4 K) (optA (indexAddrA ti55 1 (l3.getD 0 .junk) (l3.getD 3 .junk)) fun v21 => optA (ldV false 1 v21 H4) fun v22 => frzLK [v22] H4 fun l25 H26 => γ 205 l25 H26 fun v23 H24 => ifA v23 (frzLK [l3.getD 1 .junk] H24 fun l29 H30 => γ 205 l29 H30 fun v27 H28 => retF [l3.getD 3 .junk, v27] H28 K) (retF [l3.getD 3 .junk, .d (.bool false)] H24 K))) (retF [l3.getD 3 .junk, .d (.bool false)] H4 K))) [a0, a1, v1, .d (.int .i64 0), v1] H
noncomputable def r162_0 : List Oper := regOps Try.f162 0
noncomputable def r162_1 : List Oper := regOps Try.f162 1
noncomputable def r162_2 : List Oper := regOps Try.f162 2
noncomputable def r162_3 : List Oper := regOps Try.f162 3
noncomputable def r162_4 : List Oper := regOps Try.f162 4
noncomputable def r162_5 : List Oper := regOps Try.f162 5
noncomputable def r162_6 : List Oper := regOps Try.f162 6
noncomputable def r162_7 : List Oper := regOps Try.f162 7
noncomputable def r162_8 : List Oper := regOps Try.f162 8
noncomputable def c162 : Code := (.seq (.region 0 #[opAt r162_0 0, opAt r162_0 1] false) (.seq (.region 1 #[opAt r162_1 0, opAt r162_1 1, opAt r162_1 2] false) (.seq (.region 2 #[opAt r162_2 0, opAt r162_2 1, opAt r162_2 2] false) (.seq (.block 0 (.loop (.seq (.seq (.region 3 #[opAt r162_3 0, opAt r162_3 1, opAt r162_3 2] false) (.cond (.tmp 15) .skip (.exit 0))) (.block 1 (.seq (.region 4 #[opAt r162_4 0, opAt r162_4 1, opAt r162_4 2, opAt r162_4 3, opAt r162_4 4, opAt r162_4 5, opAt r162_4 6] false) (.seq (.region 5 #[opAt r162_5 0, opAt r162_5 1, opAt r162_5 2, opAt r162_5 3, opAt r162_5 4, opAt r162_5 5] false) (.cond (.tmp 27) (.region 6 #[opAt r162_6 0, opAt r162_6 1, opAt r162_6 2] false) (.region 7 #[opAt r162_7 0, opAt r162_7 1] false)))))))) (.seq (.region 8 #[opAt r162_8 0, opAt r162_8 1, opAt r162_8 2, opAt r162_8 3, opAt r162_8 4, opAt r162_8 5, opAt r162_8 6, opAt r162_8 7, opAt r162_8 8, opAt r162_8 9, opAt r162_8 10, opAt r162_8 11, opAt r162_8 12, opAt r162_8 13, opAt r162_8 14, opAt r162_8 15, opAt r162_8 16, opAt r162_8 17, opAt r162_8 18, opAt r162_8 19, opAt r162_8 20, opAt r162_8 21, opAt r162_8 22, opAt r162_8 23, opAt r162_8 24] false) .ret)))))
theorem c162_eq : Try.f162.body = some c162 := by kernel_rfl
theorem S162_eq (γ : Calld) (a0 a1 : AV) (H : AHeap) (K : AV → AHeap → Prop) : execC Try.prog γ pol162 Try.f162 c162 [a0, a1] H K = S162 γ a0 a1 H K := by kernel_rfl
theorem C162 {a0 a1 : AV} {H : AHeap} {K : AV → AHeap → Prop} (h : S162 (CallsA Try.prog) a0 a1 H K) : CallsA Try.prog 162 [a0, a1] H K :=
  calls_of Try.func162 (ne_of_beq_false (by kernel_rfl)) c162_eq (by kernel_rfl) (by rw [S162_eq]; exact h)
/-! (*tithing/bus.Bus).has -/
def pol191 : Pol := { lend := fun g => !([82, 161] : List Nat).contains g, keep := [], frz := fun _ => [], perm := fun r => [], bf := fun r => [], ret := true }
def S191 (γ : Calld) (a0 a1 : AV) (H : AHeap) (K : AV → AHeap → Prop) : Prop :=
  optA (intA .geq a1 (.d (.int .i64 0))) fun v1 => ifA v1 (optA (nilCkA a0) fun v2 => optA (fieldA ti156 v2 2) fun v3 => optA (ldV false 1 v3 H) fun v4 => optA (lenSl v4) fun v5 => optA (intA .lss a1 v5) fun v6 => retF [v6] H K) (retF [.d (.bool false)] H K)
noncomputable def r191_0 : List Oper := regOps Try.f191 0
noncomputable def r191_1 : List Oper := regOps Try.f191 1
noncomputable def c191 : Code := (.seq (.region 0 #[opAt r191_0 0] false) (.seq (.region 1 #[opAt r191_1 0, opAt r191_1 1, opAt r191_1 2, opAt r191_1 3, opAt r191_1 4, opAt r191_1 5, opAt r191_1 6, opAt r191_1 7, opAt r191_1 8, opAt r191_1 9, opAt r191_1 10, opAt r191_1 11] false) .ret))
theorem c191_eq : Try.f191.body = some c191 := by kernel_rfl
theorem S191_eq (γ : Calld) (a0 a1 : AV) (H : AHeap) (K : AV → AHeap → Prop) : execC Try.prog γ pol191 Try.f191 c191 [a0, a1] H K = S191 γ a0 a1 H K := by kernel_rfl
theorem C191 {a0 a1 : AV} {H : AHeap} {K : AV → AHeap → Prop} (h : S191 (CallsA Try.prog) a0 a1 H K) : CallsA Try.prog 191 [a0, a1] H K :=
  calls_of Try.func191 (ne_of_beq_false (by kernel_rfl)) c191_eq (by kernel_rfl) (by rw [S191_eq]; exact h)
/-! (*tithing/probe.Link).frame -/
def pol195 : Pol := { lend := fun g => !([82, 161] : List Nat).contains g, keep := [], frz := fun _ => [], perm := fun r => if r = 1 then [0, 1, 2, 3, 4, 5, 6, 7, 8, 9, 10, 11, 12, 13] else [], bf := fun r => if r = 1 then [0, 1, 3, 7, 0, 16, 48, 112, 255, 511, 1023, 1023, 2047, 8191] else [], ret := true }
def S195 (γ : Calld) (a0 : AV) (H : AHeap) (K : AV → AHeap → Prop) : Prop :=
  drA true (optA (nilCkA a0) fun v1 => optA (fieldA ti159 v1 2) fun v2 => optA (ldV false 1 v2 H) fun v3 => optA (nilCkA a0) fun v4 => optA (fieldA ti159 v4 4) fun v5 => optA (ldV false 1 v5 H) fun v6 => noRsA (aggL v3) (noRsA (aggL v6) (frzLK [v3, v6] H fun l8 H10 => ∃ r9, γ 162 l8 H10 (fun v H2 => v = r9 ∧ AHeap.le H10 H2) ∧ (optA (extractA r9 0) fun v11 => optA (extractA r9 1) fun v12 => optA (nilCkA a0) fun v13 => optA (fieldA ti159 v13 4) fun v14 => optA (ldV false 1 v14 H10) fun v15 => optA (intA .add v15 (.d (.int .i64 1))) fun v16 => optA (nilCkA a0) fun v17 => optA (fieldA ti159 v17 4) fun v18 => stepK (stoA false 1 v18 v16 H10) H10 fun v19 H20 => optA (unA .not v12) fun v21 => retF [v21] H20 K))))
noncomputable def r195_0 : List Oper := regOps Try.f195 0
noncomputable def r195_1 : List Oper := regOps Try.f195 1
noncomputable def r195_2 : List Oper := regOps Try.f195 2
noncomputable def r195_3 : List Oper := regOps Try.f195 3
noncomputable def c195 : Code := (.seq (.region 0 #[opAt r195_0 0] false) (.seq (.region 1 #[opAt r195_1 0, opAt r195_1 1, opAt r195_1 2, opAt r195_1 3, opAt r195_1 4, opAt r195_1 5, opAt r195_1 6, opAt r195_1 7, opAt r195_1 8, opAt r195_1 9, opAt r195_1 10, opAt r195_1 11, opAt r195_1 12, opAt r195_1 13] true) (.seq (.region 2 #[opAt r195_2 0, opAt r195_2 1, opAt r195_2 2, opAt r195_2 3, opAt r195_2 4, opAt r195_2 5, opAt r195_2 6, opAt r195_2 7] false) (.seq (.region 3 #[opAt r195_3 0, opAt r195_3 1, opAt r195_3 2] false) .ret))))
theorem c195_eq : Try.f195.body = some c195 := by kernel_rfl
theorem S195_eq (γ : Calld) (a0 : AV) (H : AHeap) (K : AV → AHeap → Prop) : execC Try.prog γ pol195 Try.f195 c195 [a0] H K = S195 γ a0 H K := by kernel_rfl
theorem C195 {a0 : AV} {H : AHeap} {K : AV → AHeap → Prop} (h : S195 (CallsA Try.prog) a0 H K) : CallsA Try.prog 195 [a0] H K :=
  calls_of Try.func195 (ne_of_beq_false (by kernel_rfl)) c195_eq (by kernel_rfl) (by rw [S195_eq]; exact h)
/-! (*tithing/probe.Link).answers -/
def pol196 : Pol := { lend := fun g => !([82, 161] : List Nat).contains g, keep := [], frz := fun _ => [], perm := fun r => if r = 1 then [0, 1, 2, 3, 4, 5, 6, 7, 8, 9, 10, 11, 12, 13, 14, 15] else if r = 7 then [0, 1, 2, 3, 4, 5, 6] else if r = 9 then [0, 1, 2, 3, 4, 5, 6, 7, 8, 9, 10, 11, 12, 13, 14, 15, 16, 17, 18, 19, 20, 21, 22, 23, 24, 25, 26, 27, 28, 29, 30, 31, 32, 33, 34, 35, 36] else [], bf := fun r => if r = 1 then [0, 1, 3, 7, 0, 31, 63, 0, 128, 384, 896, 0, 3968, 8064, 127, 32767] else if r = 7 then [0, 1, 3, 7, 0, 31, 63] else if r = 9 then [0, 0, 0, 4, 12, 28, 63, 0, 255, 511, 1023, 2047, 4095, 8191, 1023, 17407, 50175, 115711, 262143, 524287, 1048575, 2097151, 4194303, 8388607, 1048575, 17825791, 51380223, 118489087, 268435455, 536870911, 1073741823, 1073741823, 4294967295, 8589934591, 17179869183, 34359738367, 68719476735] else [], ret := true }
def S196 (γ : Calld) (a0 a1 a2 : AV) (H : AHeap) (K : AV → AHeap → Prop) : Prop :=
  drA true (optA (nilCkA a0) fun v1 => optA (fieldA ti159 v1 3) fun v2 => optA (ldV false 1 v2 H) fun v3 => optA (indexAddrA ti157 1 v3 a1) fun v4 => optA (ldV false 1 v4 H) fun v5 => optA (nilCkA a0) fun v6 => optA (fieldA ti159 v6 3) fun v7 => optA (ldV false 1 v7 H) fun v8 => optA (indexAddrA ti157 1 v8 a2) fun v9 => optA (ldV false 1 v9 H) fun v10 => optA (intA .eql a1 a2) fun v11 => ifA v11 (retF [.d (.bool false)] H K) (optA (nilCkA v10) fun v12 => optA (fieldA ti169 v12 2) fun v13 => optA (ldV false 1 v13 H) fun v14 => frzLK [a0, v10, v14] H fun l17 H18 => γ 197 l17 H18 fun v15 H16 => newK H16 (fun n21 => some (.ptr n21 0 0 0, [(n21, .mem 0 0 2 [[.d (.int .i64 0), .d (.int .i64 0)]])])) fun v19 H20 => stepK (stoA true 2 v19 v15 H20) H20 fun v22 H23 => optA (nilCkA v5) fun v24 => optA (fieldA ti169 v24 1) fun v25 => optA (ldV false 1 v25 H23) fun v26 => optA (intA .eql v26 (.d (.int .i64 2))) fun v27 => ifA v27 (drA true (optA (nilCkA v5) fun v28 => optA (fieldA ti169 v28 4) fun v29 => optA (ldV true 2 v29 H23) fun v30 => optA (ldV true 2 v19 H23) fun v31 => optA (aggA Try.prog .eql 165 v30 v31) fun v32 => retF [v32] H23 K)) (optA (intA .eql v26 (.d (.int .i64 1))) fun v33 => ifA v33 (drA true (optA (nilCkA v5) fun v34 => optA (fieldA ti169 v34 2) fun v35 => optA (ldV false 1 v35 H23) fun v36 => noRsA (aggL a0) (noRsA (aggL v5) (noRsA (aggL v36) (frzLK [a0, v5, v36] H23 fun l38 H40 => ∃ r39, γ 197 l38 H40 (fun v H2 => v = r39 ∧ AHeap.le H40 H2) ∧ (apart (rsOf a0) v19 ∧ (apart (rsOf v5) v19 ∧ (apart (rsOf v36) v19 ∧ (optA (ldV true 2 v19 H40) fun v41 => optA (aggA Try.prog .eql 165 r39 v41) fun v42 => ifA v42 (optA (nilCkA v5) fun v43 => optA (fieldA ti169 v43 3) fun v44 => optA (ldV false 1 v44 H40) fun v45 => optA (nilCkA v10) fun v46 => optA (fieldA ti169 v46 3) fun v47 => optA (ldV false 1 v47 H40) fun v48 => optA (intA .gtr v45 v48) fun v49 => ifA v49 (retF [.d (.bool true)] H40 K) (optA (nilCkA v5) fun v50 => optA (fieldA ti169 v50 3) fun v51 => optA (ldV false 1 v51 H40) fun v52 => optA (nilCkA v10) fun v53 => optA (fieldA ti169 v53 3) fun v54 => optA (ldV false 1 v54 H40) fun v55 => optA (intA .eql v52 v55) fun v56 => ifA v56 (optA (intA .lss a1 a2) fun v57 => retF [v57] H40 K) (retF [.d (.bool false)] H40 K))) (retF [.d (.bool false)] H40 K)))))))))) (retF [.d (.bool false)] H23 K))))
noncomputable def r196_0 : List Oper := regOps Try.f196 0
noncomputable def r196_1 : List Oper := regOps Try.f196 1
noncomputable def r196_2 : List Oper := regOps Try.f196 2
noncomputable def r196_3 : List Oper := regOps Try.f196 3
noncomputable def r196_4 : List Oper := regOps Try.f196 4
noncomputable def r196_5 : List Oper := regOps Try.f196 5
noncomputable def r196_6 : List Oper := regOps Try.f196 6
noncomputable def r196_7 : List Oper := regOps Try.f196 7
noncomputable def r196_8 : List Oper := regOps Try.f196 8
noncomputable def r196_9 : List Oper := regOps Try.f196 9
noncomputable def r196_10 : List Oper := regOps Try.f196 10
noncomputable def c196 : Code := (.seq (.region 0 #[opAt r196_0 0] false) (.seq (.region 1 #[opAt r196_1 0, opAt r196_1 1, opAt r196_1 2, opAt r196_1 3, opAt r196_1 4, opAt r196_1 5, opAt r196_1 6, opAt r196_1 7, opAt r196_1 8, opAt r196_1 9, opAt r196_1 10, opAt r196_1 11, opAt r196_1 12, opAt r196_1 13, opAt r196_1 14, opAt r196_1 15] true) (.seq (.seq (.region 2 #[opAt r196_2 0, opAt r196_2 1, opAt r196_2 2] false) (.cond (.tmp 26) (.seq (.region 3 #[opAt r196_3 0] false) .ret) .skip)) (.seq (.region 4 #[opAt r196_4 0, opAt r196_4 1, opAt r196_4 2, opAt r196_4 3, opAt r196_4 4, opAt r196_4 5, opAt r196_4 6, opAt r196_4 7, opAt r196_4 8] false) (.seq (.seq (.region 5 #[opAt r196_5 0, opAt r196_5 1, opAt r196_5 2, opAt r196_5 3] false) (.block 0 (.seq (.region 6 #[opAt r196_6 0, opAt r196_6 1] false) (.cond (.tmp 38) (.seq (.region 7 #[opAt r196_7 0, opAt r196_7 1, opAt r196_7 2, opAt r196_7 3, opAt r196_7 4, opAt r196_7 5, opAt r196_7 6] true) .ret) (.seq (.region 8 #[opAt r196_8 0, opAt r196_8 1] false) (.cond (.tmp 46) (.seq (.region 9 #[opAt r196_9 0, opAt r196_9 1, opAt r196_9 2, opAt r196_9 3, opAt r196_9 4, opAt r196_9 5, opAt r196_9 6, opAt r196_9 7, opAt r196_9 8, opAt r196_9 9, opAt r196_9 10, opAt r196_9 11, opAt r196_9 12, opAt r196_9 13, opAt r196_9 14, opAt r196_9 15, opAt r196_9 16, opAt r196_9 17, opAt r196_9 18, opAt r196_9 19, opAt r196_9 20, opAt r196_9 21, opAt r196_9 22, opAt r196_9 23, opAt r196_9 24, opAt r196_9 25, opAt r196_9 26, opAt r196_9 27, opAt r196_9 28, opAt r196_9 29, opAt r196_9 30, opAt r196_9 31, opAt r196_9 32, opAt r196_9 33, opAt r196_9 34, opAt r196_9 35, opAt r196_9 36] true) .ret) .skip)))))) (.seq (.region 10 #[opAt r196_10 0] false) .ret))))))
theorem c196_eq : Try.f196.body = some c196 := by kernel_rfl
theorem S196_eq (γ : Calld) (a0 a1 a2 : AV) (H : AHeap) (K : AV → AHeap → Prop) : execC Try.prog γ pol196 Try.f196 c196 [a0, a1, a2] H K = S196 γ a0 a1 a2 H K := by kernel_rfl
theorem C196 {a0 a1 a2 : AV} {H : AHeap} {K : AV → AHeap → Prop} (h : S196 (CallsA Try.prog) a0 a1 a2 H K) : CallsA Try.prog 196 [a0, a1, a2] H K :=
  calls_of Try.func196 (ne_of_beq_false (by kernel_rfl)) c196_eq (by kernel_rfl) (by rw [S196_eq]; exact h)
/-! (*tithing/probe.Link).address -/
def pol197 : Pol := { lend := fun g => !([82, 161] : List Nat).contains g, keep := [], frz := fun _ => [], perm := fun r => if r = 3 then [0, 1, 2, 3, 4, 5, 6, 7, 8, 9, 10, 11, 12, 13, 14, 15, 16, 17, 18, 19, 20, 21, 22, 23, 24, 25, 26, 27, 28] else if r = 5 then [0, 1, 2, 3, 4, 5, 6, 7, 8, 9, 10, 11, 12, 13, 14, 15, 16, 17, 18, 19, 20, 21, 22] else [], bf := fun r => if r = 3 then [0, 1, 3, 7, 0, 0, 32, 96, 224, 480, 1008, 2047, 4095, 0, 8192, 24576, 57344, 0, 0, 262144, 786432, 1835008, 3932160, 8257536, 16769024, 33546240, 67100672, 134217727, 268435455] else if r = 5 then [0, 1, 3, 7, 0, 16, 0, 64, 192, 448, 0, 1024, 3072, 7168, 16320, 32704, 65520, 131071, 0, 262144, 786432, 2097151, 4194303] else [], ret := true }
def S197 (γ : Calld) (a0 a1 a2 : AV) (H : AHeap) (K : AV → AHeap → Prop) : Prop :=
  newK H (fun n3 => some (.ptr n3 0 0 0, [(n3, .mem 0 0 2 [[.d (.int .i64 0), .d (.int .i64 0)]])])) fun v1 H2 => optA (nilCkA a1) fun v4 => optA (fieldA ti169 v4 0) fun v5 => optA (ldV false 1 v5 H2) fun v6 => optA (lenSl v6) fun v7 => optA (intA .gtr v7 (.d (.int .i64 0))) fun v8 => ifA v8 (drA true (optA (nilCkA a1) fun v9 => optA (fieldA ti169 v9 0) fun v10 => optA (ldV false 1 v10 H2) fun v11 => optA (nilCkA a1) fun v12 => optA (fieldA ti169 v12 0) fun v13 => optA (ldV false 1 v13 H2) fun v14 => optA (lenSl v14) fun v15 => optA (intA .rem a2 v15) fun v16 => optA (indexAddrA ti55 1 v11 v16) fun v17 => optA (ldV false 1 v17 H2) fun v18 => optA (nilCkA a1) fun v19 => optA (fieldA ti169 v19 0) fun v20 => optA (ldV false 1 v20 H2) fun v21 => optA (nilCkA a1) fun v22 => optA (fieldA ti169 v22 0) fun v23 => optA (ldV false 1 v23 H2) fun v24 => optA (lenSl v24) fun v25 => optA (intA .rem a2 v25) fun v26 => optA (indexAddrA ti55 1 v21 v26) fun v27 => optA (ldV false 1 v27 H2) fun v28 => optA (unA .neg v28) fun v29 => optA (foldA max2A [v18, v29]) fun v30 => optA (foldA max2A [v30, .d (.int .i64 0)]) fun v31 => drA true (optA (nilCkA a0) fun v32 => optA (fieldA ti159 v32 0) fun v33 => optA (ldV false 1 v33 H2) fun v34 => optA (intA .quo v31 (.d (.int .i64 253))) fun v35 => optA (nilCkA a0) fun v36 => optA (fieldA ti159 v36 1) fun v37 => optA (ldV false 1 v37 H2) fun v38 => optA (nilCkA a0) fun v39 => optA (fieldA ti159 v39 0) fun v40 => optA (ldV false 1 v40 H2) fun v41 => optA (intA .sub v38 v41) fun v42 => optA (intA .add v42 (.d (.int .i64 1))) fun v43 => optA (intA .rem v35 v43) fun v44 => optA (intA .add v34 v44) fun v45 => optA (intA .rem v31 (.d (.int .i64 253))) fun v46 => optA (intA .add (.d (.int .i64 1)) v46) fun v47 => noRsA (aggL v45) (noRsA (aggL v47) (stepK (bdA Try.prog ti165 [0, 1] [v45, v47] H2) H2 fun v48 H49 => noRsA (aggL v48) (stepK (stoA true 2 v1 v48 H49) H49 fun v50 H51 => optA (ldV true 2 v1 H51) fun v52 => retF [v52] H51 K)))))) (optA (foldA max2A [a2, .d (.int .i64 0)]) fun v53 => drA true (optA (nilCkA a0) fun v54 => optA (fieldA ti159 v54 0) fun v55 => optA (ldV false 1 v55 H2) fun v56 => optA (intA .quo v53 (.d (.int .i64 253))) fun v57 => optA (nilCkA a0) fun v58 => optA (fieldA ti159 v58 1) fun v59 => optA (ldV false 1 v59 H2) fun v60 => optA (nilCkA a0) fun v61 => optA (fieldA ti159 v61 0) fun v62 => optA (ldV false 1 v62 H2) fun v63 => optA (intA .sub v60 v63) fun v64 => optA (intA .add v64 (.d (.int .i64 1))) fun v65 => optA (intA .rem v57 v65) fun v66 => optA (intA .add v56 v66) fun v67 => optA (intA .rem v53 (.d (.int .i64 253))) fun v68 => optA (intA .add (.d (.int .i64 1)) v68) fun v69 => noRsA (aggL v67) (noRsA (aggL v69) (stepK (bdA Try.prog ti165 [0, 1] [v67, v69] H2) H2 fun v70 H71 => noRsA (aggL v70) (stepK (stoA true 2 v1 v70 H71) H71 fun v72 H73 => optA (ldV true 2 v1 H73) fun v74 => retF [v74] H73 K)))))
noncomputable def r197_0 : List Oper := regOps Try.f197 0
noncomputable def r197_1 : List Oper := regOps Try.f197 1
noncomputable def r197_2 : List Oper := regOps Try.f197 2
noncomputable def r197_3 : List Oper := regOps Try.f197 3
noncomputable def r197_4 : List Oper := regOps Try.f197 4
noncomputable def r197_5 : List Oper := regOps Try.f197 5
noncomputable def c197 : Code := (.seq (.region 0 #[opAt r197_0 0] false) (.seq (.region 1 #[opAt r197_1 0, opAt r197_1 1] false) (.seq (.seq (.region 2 #[opAt r197_2 0, opAt r197_2 1, opAt r197_2 2, opAt r197_2 3, opAt r197_2 4, opAt r197_2 5] false) (.cond (.tmp 14) (.region 3 #[opAt r197_3 0, opAt r197_3 1, opAt r197_3 2, opAt r197_3 3, opAt r197_3 4, opAt r197_3 5, opAt r197_3 6, opAt r197_3 7, opAt r197_3 8, opAt r197_3 9, opAt r197_3 10, opAt r197_3 11, opAt r197_3 12, opAt r197_3 13, opAt r197_3 14, opAt r197_3 15, opAt r197_3 16, opAt r197_3 17, opAt r197_3 18, opAt r197_3 19, opAt r197_3 20, opAt r197_3 21, opAt r197_3 22, opAt r197_3 23, opAt r197_3 24, opAt r197_3 25, opAt r197_3 26, opAt r197_3 27, opAt r197_3 28] true) .skip)) (.seq (.region 4 #[opAt r197_4 0, opAt r197_4 1, opAt r197_4 2] false) (.seq (.region 5 #[opAt r197_5 0, opAt r197_5 1, opAt r197_5 2, opAt r197_5 3, opAt r197_5 4, opAt r197_5 5, opAt r197_5 6, opAt r197_5 7, opAt r197_5 8, opAt r197_5 9, opAt r197_5 10, opAt r197_5 11, opAt r197_5 12, opAt r197_5 13, opAt r197_5 14, opAt r197_5 15, opAt r197_5 16, opAt r197_5 17, opAt r197_5 18, opAt r197_5 19, opAt r197_5 20, opAt r197_5 21, opAt r197_5 22] true) .ret)))))
theorem c197_eq : Try.f197.body = some c197 := by kernel_rfl
theorem S197_eq (γ : Calld) (a0 a1 a2 : AV) (H : AHeap) (K : AV → AHeap → Prop) : execC Try.prog γ pol197 Try.f197 c197 [a0, a1, a2] H K = S197 γ a0 a1 a2 H K := by kernel_rfl
theorem C197 {a0 a1 a2 : AV} {H : AHeap} {K : AV → AHeap → Prop} (h : S197 (CallsA Try.prog) a0 a1 a2 H K) : CallsA Try.prog 197 [a0, a1, a2] H K :=
  calls_of Try.func197 (ne_of_beq_false (by kernel_rfl)) c197_eq (by kernel_rfl) (by rw [S197_eq]; exact h)
/-! (*tithing/probe.Link).glean -/
def pol198 : Pol := { lend := fun g => !([82, 161] : List Nat).contains g, keep := [0, 1, 9, 10, 11], frz := fun _ => [], perm := fun r => [], bf := fun r => [], ret := true }
def S198 (γ : Calld) (a0 a1 : AV) (H : AHeap) (K : AV → AHeap → Prop) : Prop :=
  optA (nilCkA a0) fun v1 => optA (fieldA ti159 v1 3) fun v2 => optA (ldV false 1 v2 H) fun v3 => optA (lenSl v3) fun v4 => loopA (fun X5 l6 H7 => optA (intA .lss (l6.getD 4 .junk) (l6.getD 3 .junk)) fun v8 => ifA v8 (optA (indexAddrA ti157 1 (l6.getD 2 .junk) (l6.getD 4 .junk)) fun v9 => optA (ldV false 1 v9 H7) fun v10 => optA (intA .neq (l6.getD 4 .junk) (l6.getD 1 .junk)) fun v11 => ifA v11 (optA (nilCkA v10) fun v12 => optA (fieldA ti169 v12 1) fun v13 => optA (ldV false 1 v13 H7) fun v14 => optA (intA .eql v14 (.d (.int .i64 2))) fun v15 => ifA v15 (optA (nilCkA (l6.getD 0 .junk)) fun v16 => optA (fieldA ti159 v16 3) fun v17 => optA (ldV false 1 v17 H7) fun v18 => optA (indexAddrA ti157 1 v18 (l6.getD 1 .junk)) fun v19 => optA (ldV false 1 v19 H7) fun v20 => optA (nilCkA v20) fun v21 => optA (fieldA ti169 v21 4) fun v22 => optA (ldV true 2 v22 H7) fun v23 => frzLK [v10, v23, l6.getD 1 .junk] H7 fun l26 H27 => γ 222 l26 H27 fun v24 H25 => optA (intA .add (l6.getD 4 .junk) (.d (.int .i64 1))) fun v28 => X5 [l6.getD 0 .junk, l6.getD 1 .junk, l6.getD 2 .junk, l6.getD 3 .junk, v28] H25) (optA (intA .add (l6.getD 4 .junk) (.d (.int .i64 1))) fun v29 => X5 [l6.getD 0 .junk, l6.getD 1 .junk, l6.getD 2 .junk, l6.getD 3 .junk, v29] H7)) (optA (intA .add (l6.getD 4 .junk) (.d (.int .i64 1))) fun v30 => X5 [l6.getD 0 .junk, l6.getD 1 .junk, l6.getD 2 .junk, l6.getD 3 .junk, v30] H7)) (retF [] H7 K)) [a0, a1, v3, v4, .d (.int .i64 0)] H
noncomputable def r198_0 : List Oper := regOps Try.f198 0
noncomputable def r198_1 : List Oper := regOps Try.f198 1
noncomputable def r198_2 : List Oper := regOps Try.f198 2
noncomputable def r198_3 : List Oper := regOps Try.f198 3
noncomputable def r198_4 : List Oper := regOps Try.f198 4
noncomputable def r198_5 : List Oper := regOps Try.f198 5
noncomputable def c198 : Code := (.seq (.region 0 #[opAt r198_0 0, opAt r198_0 1, opAt r198_0 2, opAt r198_0 3, opAt r198_0 4, opAt r198_0 5] false) (.block 0 (.loop (.seq (.region 1 #[opAt r198_1 0] false) (.seq (.cond (.tmp 12) .skip (.exit 0)) (.seq (.block 1 (.seq (.region 2 #[opAt r198_2 0, opAt r198_2 1, opAt r198_2 2, opAt r198_2 3, opAt r198_2 4] false) (.seq (.region 3 #[opAt r198_3 0, opAt r198_3 1, opAt r198_3 2, opAt r198_3 3, opAt r198_3 4, opAt r198_3 5, opAt r198_3 6, opAt r198_3 7, opAt r198_3 8, opAt r198_3 9] false) (.cond (.tmp 25) (.region 4 #[opAt r198_4 0, opAt r198_4 1, opAt r198_4 2, opAt r198_4 3, opAt r198_4 4, opAt r198_4 5, opAt r198_4 6, opAt r198_4 7, opAt r198_4 8, opAt r198_4 9, opAt r198_4 10, opAt r198_4 11, opAt r198_4 12] false) .skip)))) (.region 5 #[opAt r198_5 0, opAt r198_5 1] false)))))))
theorem c198_eq : Try.f198.body = some c198 := by kernel_rfl
theorem S198_eq (γ : Calld) (a0 a1 : AV) (H : AHeap) (K : AV → AHeap → Prop) : execC Try.prog γ pol198 Try.f198 c198 [a0, a1] H K = S198 γ a0 a1 H K := by kernel_rfl
theorem C198 {a0 a1 : AV} {H : AHeap} {K : AV → AHeap → Prop} (h : S198 (CallsA Try.prog) a0 a1 H K) : CallsA Try.prog 198 [a0, a1] H K :=
  calls_of Try.func198 (ne_of_beq_false (by kernel_rfl)) c198_eq (by kernel_rfl) (by rw [S198_eq]; exact h)
/-! (*tithing/probe.Link).answer -/
def pol199 : Pol := { lend := fun g => !([82, 161] : List Nat).contains g, keep := [0, 1, 5, 11, 12, 13], frz := fun _ => [], perm := fun r => if r = 4 then [0, 1, 2, 3, 4, 5, 6, 7, 8, 9, 10, 11, 12, 13, 14, 15, 16, 17, 18, 19, 20, 21] else if r = 5 then [0, 1, 2, 3, 4, 5, 6, 7, 8, 9] else [], bf := fun r => if r = 4 then [0, 0, 3, 7, 15, 31, 63, 127, 255, 511, 1023, 2047, 4095, 8191, 16383, 2047, 65535, 131071, 262143, 524287, 1048575, 2097151] else if r = 5 then [0, 1, 3, 7, 0, 31, 63, 0, 0, 511] else [], ret := true, tail := fun r => ([5] : List Nat).contains r }
def S199 (γ : Calld) (a0 a1 a2 : AV) (H : AHeap) (K : AV → AHeap → Prop) : Prop :=
  newK H (fun n3 => boxA a2 n3) fun v1 H2 => optA (nilCkA a0) fun v4 => optA (fieldA ti159 v4 3) fun v5 => optA (ldV false 1 v5 H2) fun v6 => optA (lenSl v6) fun v7 => loopA (fun X8 l9 H10 => optA (intA .lss (l9.getD 5 .junk) (l9.getD 4 .junk)) fun v11 => ifA v11 (optA (indexAddrA ti157 1 (l9.getD 3 .junk) (l9.getD 5 .junk)) fun v12 => optA (ldV false 1 v12 H10) fun v13 => drA true (optA (intA .neq (l9.getD 5 .junk) (l9.getD 1 .junk)) fun v14 => ifA v14 (optA (nilCkA v13) fun v15 => optA (fieldA ti169 v15 1) fun v16 => optA (ldV false 1 v16 H10) fun v17 => optA (intA .eql v17 (.d (.int .i64 2))) fun v18 => ifA v18 (optA (nilCkA v13) fun v19 => optA (fieldA ti169 v19 4) fun v20 => optA (ldV true 2 v20 H10) fun v21 => optA (ldV true 2 (l9.getD 2 .junk) H10) fun v22 => optA (aggA Try.prog .eql 165 v21 v22) fun v23 => ifA v23 (noRsA (aggL (l9.getD 0 .junk)) (frzLK [l9.getD 0 .junk] H10 fun l25 H27 => ∃ r26, γ 195 l25 H27 (fun v H2 => v = r26 ∧ AHeap.le H27 H2) ∧ (ifA r26 (drA true (optA (nilCkA (l9.getD 0 .junk)) fun v28 => optA (fieldA ti159 v28 3) fun v29 => optA (ldV false 1 v29 H27) fun v30 => optA (indexAddrA ti157 1 v30 (l9.getD 1 .junk)) fun v31 => optA (ldV false 1 v31 H27) fun v32 => optA (ldV true 2 (l9.getD 2 .junk) H27) fun v33 => frzLK [v32, v33, l9.getD 5 .junk] H27 fun l36 H37 => γ 222 l36 H37 fun v34 H35 => optA (intA .add (l9.getD 5 .junk) (.d (.int .i64 1))) fun v38 => X8 [l9.getD 0 .junk, l9.getD 1 .junk, l9.getD 2 .junk, l9.getD 3 .junk, l9.getD 4 .junk, v38] H35)) (optA (intA .add (l9.getD 5 .junk) (.d (.int .i64 1))) fun v39 => X8 [l9.getD 0 .junk, l9.getD 1 .junk, l9.getD 2 .junk, l9.getD 3 .junk, l9.getD 4 .junk, v39] H27)))) (optA (intA .add (l9.getD 5 .junk) (.d (.int .i64 1))) fun v40 => X8 [l9.getD 0 .junk, l9.getD 1 .junk, l9.getD 2 .junk, l9.getD 3 .junk, l9.getD 4 .junk, v40] H10)) (optA (intA .add (l9.getD 5 .junk) (.d (.int .i64 1))) fun v41 => X8 [l9.getD 0 .junk, l9.getD 1 .junk, l9.getD 2 .junk, l9.getD 3 .junk, l9.getD 4 .junk, v41] H10)) (optA (intA .add (l9.getD 5 .junk) (.d (.int .i64 1))) fun v42 => X8 [l9.getD 0 .junk, l9.getD 1 .junk, l9.getD 2 .junk, l9.getD 3 .junk, l9.getD 4 .junk, v42] H10))) (retF [] H10 K)) [a0, a1, v1, v6, v7, .d (.int .i64 0)] H2
noncomputable def r199_0 : List Oper := regOps Try.f199 0
noncomputable def r199_1 : List Oper := regOps Try.f199 1
noncomputable def r199_2 : List Oper := regOps Try.f199 2
noncomputable def r199_3 : List Oper := regOps Try.f199 3
noncomputable def r199_4 : List Oper := regOps Try.f199 4
noncomputable def r199_5 : List Oper := regOps Try.f199 5
noncomputable def r199_6 : List Oper := regOps Try.f199 6
noncomputable def c199 : Code := (.seq (.region 0 #[opAt r199_0 0] false) (.seq (.region 1 #[opAt r199_1 0, opAt r199_1 1, opAt r199_1 2, opAt r199_1 3, opAt r199_1 4, opAt r199_1 5] false) (.block 0 (.loop (.seq (.region 2 #[opAt r199_2 0] false) (.seq (.cond (.tmp 14) .skip (.exit 0)) (.seq (.block 1 (.seq (.region 3 #[opAt r199_3 0, opAt r199_3 1, opAt r199_3 2, opAt r199_3 3, opAt r199_3 4] false) (.seq (.region 4 #[opAt r199_4 0, opAt r199_4 1, opAt r199_4 2, opAt r199_4 3, opAt r199_4 4, opAt r199_4 5, opAt r199_4 6, opAt r199_4 7, opAt r199_4 8, opAt r199_4 9, opAt r199_4 10, opAt r199_4 11, opAt r199_4 12, opAt r199_4 13, opAt r199_4 14, opAt r199_4 15, opAt r199_4 16, opAt r199_4 17, opAt r199_4 18, opAt r199_4 19, opAt r199_4 20, opAt r199_4 21] true) (.cond (.tmp 39) (.region 5 #[opAt r199_5 0, opAt r199_5 1, opAt r199_5 2, opAt r199_5 3, opAt r199_5 4, opAt r199_5 5, opAt r199_5 6, opAt r199_5 7, opAt r199_5 8, opAt r199_5 9] true) .skip)))) (.region 6 #[opAt r199_6 0, opAt r199_6 1] false))))))))
theorem c199_eq : Try.f199.body = some c199 := by kernel_rfl
theorem S199_eq (γ : Calld) (a0 a1 a2 : AV) (H : AHeap) (K : AV → AHeap → Prop) : execC Try.prog γ pol199 Try.f199 c199 [a0, a1, a2] H K = S199 γ a0 a1 a2 H K := by kernel_rfl
theorem C199 {a0 a1 a2 : AV} {H : AHeap} {K : AV → AHeap → Prop} (h : S199 (CallsA Try.prog) a0 a1 a2 H K) : CallsA Try.prog 199 [a0, a1, a2] H K :=
  calls_of Try.func199 (ne_of_beq_false (by kernel_rfl)) c199_eq (by kernel_rfl) (by rw [S199_eq]; exact h)
/-! slices.DeleteFunc[[]tithing/probe.ask,tithing/probe.ask] -/
def pol200 : Pol := { lend := fun g => !([82, 161] : List Nat).contains g, keep := [0, 1, 5, 6], frz := fun _ => [], perm := fun r => [], bf := fun r => [], ret := true }
def S200 (γ : Calld) (a0 a1 : AV) (H : AHeap) (K : AV → AHeap → Prop) : Prop :=
  frzLK [a0, a1] H fun l3 H4 => γ 223 l3 H4 fun v1 H2 => optA (intA .eql v1 (.d (.int .i64 (-1)))) fun v5 => ifA v5 (retF [a0] H2 K) (optA (intA .add v1 (.d (.int .i64 1))) fun v6 => loopA (fun X7 l8 H9 => optA (lenSl (l8.getD 0 .junk)) fun v10 => optA (intA .lss (l8.getD 3 .junk) v10) fun v11 => ifA v11 (optA (indexAddrA ti166 3 (l8.getD 0 .junk) (l8.getD 3 .junk)) fun v12 => optA (ldV true 3 v12 H9) fun v13 => newK H9 (fun n16 => some (.ptr n16 0 0 0, [(n16, .mem 0 0 3 [[.d (.int .i64 0), .d (.int .i64 0), .d (.int .i64 0)]])])) fun v14 H15 => stepK (stoA true 3 v14 v13 H15) H15 fun v17 H18 => optA (ldV true 3 v14 H18) fun v19 => callA γ pol200 (l8.getD 1 .junk) [v19] H18 fun v20 H21 => optA (unA .not v20) fun v22 => ifA v22 (optA (ldV true 3 v14 H21) fun v23 => optA (indexAddrA ti166 3 (l8.getD 0 .junk) (l8.getD 2 .junk)) fun v24 => stepK (stoA true 3 v24 v23 H21) H21 fun v25 H26 => optA (intA .add (l8.getD 2 .junk) (.d (.int .i64 1))) fun v27 => optA (intA .add (l8.getD 3 .junk) (.d (.int .i64 1))) fun v28 => X7 [l8.getD 0 .junk, l8.getD 1 .junk, v27, v28] H26) (optA (intA .add (l8.getD 3 .junk) (.d (.int .i64 1))) fun v29 => X7 [l8.getD 0 .junk, l8.getD 1 .junk, l8.getD 2 .junk, v29] H21)) (optA (sliceA 3 (l8.getD 0 .junk) (some (l8.getD 2 .junk)) none none H9) fun v30 => False)) [a0, a1, v1, v6] H2)
noncomputable def r200_0 : List Oper := regOps Try.f200 0
noncomputable def r200_1 : List Oper := regOps Try.f200 1
noncomputable def r200_2 : List Oper := regOps Try.f200 2
noncomputable def r200_3 : List Oper := regOps Try.f200 3
noncomputable def r200_4 : List Oper := regOps Try.f200 4
noncomputable def r200_5 : List Oper := regOps Try.f200 5
noncomputable def r200_6 : List Oper := regOps Try.f200 6
noncomputable def r200_7 : List Oper := regOps Try.f200 7
noncomputable def r200_8 : List Oper := regOps Try.f200 8
noncomputable def r200_9 : List Oper := regOps Try.f200 9
noncomputable def r200_10 : List Oper := regOps Try.f200 10
noncomputable def r200_11 : List Oper := regOps Try.f200 11
noncomputable def r200_12 : List Oper := regOps Try.f200 12
noncomputable def c200 : Code := (.seq (.region 0 #[opAt r200_0 0] false) (.seq (.region 1 #[opAt r200_1 0, opAt r200_1 1, opAt r200_1 2, opAt r200_1 3] false) (.seq (.seq (.region 2 #[opAt r200_2 0, opAt r200_2 1] false) (.cond (.tmp 12) (.seq (.region 3 #[opAt r200_3 0, opAt r200_3 1] false) .ret) .skip)) (.seq (.seq (.region 4 #[opAt r200_4 0, opAt r200_4 1, opAt r200_4 2] false) (.block 0 (.loop (.seq (.seq (.region 5 #[opAt r200_5 0, opAt r200_5 1, opAt r200_5 2, opAt r200_5 3] false) (.cond (.tmp 19) .skip (.exit 0))) (.seq (.block 1 (.seq (.region 7 #[opAt r200_6 0, opAt r200_6 1, opAt r200_6 2, opAt r200_6 3, opAt r200_6 4, opAt r200_6 5] false) (.seq (.region 8 #[opAt r200_7 0, opAt r200_7 1, opAt r200_7 2, opAt r200_7 3] false) (.cond (.tmp 29) (.seq (.region 9 #[opAt r200_8 0, opAt r200_8 1, opAt r200_8 2, opAt r200_8 3, opAt r200_8 4] false) (.region 10 #[opAt r200_9 0, opAt r200_9 1, opAt r200_9 2] false)) .skip)))) (.region 6 #[opAt r200_10 0, opAt r200_10 1, opAt r200_10 2] false)))))) (.seq (.region 11 #[opAt r200_11 0, opAt r200_11 1, opAt r200_11 2, opAt r200_11 3] false) (.seq (.region 12 #[opAt r200_12 0, opAt r200_12 1, opAt r200_12 2, opAt r200_12 3] false) .ret))))))
theorem c200_eq : Try.f200.body = some c200 := by kernel_rfl
theorem S200_eq (γ : Calld) (a0 a1 : AV) (H : AHeap) (K : AV → AHeap → Prop) : execC Try.prog γ pol200 Try.f200 c200 [a0, a1] H K = S200 γ a0 a1 H K := by kernel_rfl
theorem C200 {a0 a1 : AV} {H : AHeap} {K : AV → AHeap → Prop} (h : S200 (CallsA Try.prog) a0 a1 H K) : CallsA Try.prog 200 [a0, a1] H K :=
  calls_of Try.func200 (ne_of_beq_false (by kernel_rfl)) c200_eq (by kernel_rfl) (by rw [S200_eq]; exact h)
/-! (*tithing/probe.Link).ask$1 -/
def pol201 : Pol := { lend := fun g => !([82, 161] : List Nat).contains g, keep := [], frz := fun _ => [], perm := fun r => [], bf := fun r => [], ret := true }
def S201 (γ : Calld) (a0 a1 : AV) (H : AHeap) (K : AV → AHeap → Prop) : Prop :=
  newK H (fun n3 => boxA a0 n3) fun v1 H2 => optA (fieldA ti273 v1 1) fun v4 => optA (ldV false 1 v4 H2) fun v5 => optA (intA .geq v5 (.d (.int .i64 5))) fun v6 => ifA v6 (retF [.d (.bool true)] H2 K) (optA (ldV false 1 a1 H2) fun v7 => optA (fieldA ti273 v1 0) fun v8 => optA (ldV true 2 v8 H2) fun v9 => frzLK [v7, v9] H2 fun l12 H13 => γ 202 l12 H13 fun v10 H11 => optA (intA .geq v10 (.d (.int .i64 0))) fun v14 => retF [v14] H11 K)
noncomputable def r201_0 : List Oper := regOps Try.f201 0
noncomputable def r201_1 : List Oper := regOps Try.f201 1
noncomputable def c201 : Code := (.seq (.region 0 #[opAt r201_0 0, opAt r201_0 1] false) (.seq (.region 1 #[opAt r201_1 0, opAt r201_1 1, opAt r201_1 2, opAt r201_1 3, opAt r201_1 4, opAt r201_1 5, opAt r201_1 6, opAt r201_1 7, opAt r201_1 8, opAt r201_1 9, opAt r201_1 10] false) .ret))
theorem c201_eq : Try.f201.body = some c201 := by kernel_rfl
theorem S201_eq (γ : Calld) (a0 a1 : AV) (H : AHeap) (K : AV → AHeap → Prop) : execC Try.prog γ pol201 Try.f201 c201 [a0, a1] H K = S201 γ a0 a1 H K := by kernel_rfl
theorem C201 {a0 a1 : AV} {H : AHeap} {K : AV → AHeap → Prop} (h : S201 (CallsA Try.prog) a0 a1 H K) : CallsA Try.prog 201 [a0, a1] H K :=
  calls_of Try.func201 (ne_of_beq_false (by kernel_rfl)) c201_eq (by kernel_rfl) (by rw [S201_eq]; exact h)
/-! (*tithing/probe.station).hint -/
def pol202 : Pol := { lend := fun g => !([82, 161] : List Nat).contains g, keep := [], frz := fun _ => [], perm := fun r => [], bf := fun r => [], ret := true }
def S202 (γ : Calld) (a0 a1 : AV) (H : AHeap) (K : AV → AHeap → Prop) : Prop :=
  newK H (fun n3 => boxA a1 n3) fun v1 H2 => optA (nilCkA a0) fun v4 => optA (fieldA ti169 v4 6) fun v5 => optA (ldV false 1 v5 H2) fun v6 => frzLK [v6, .func 224 [] [v1]] H2 fun l9 H10 => γ 203 l9 H10 fun v7 H8 => retF [v7] H8 K
noncomputable def r202_0 : List Oper := regOps Try.f202 0
noncomputable def r202_1 : List Oper := regOps Try.f202 1
noncomputable def c202 : Code := (.seq (.region 0 #[opAt r202_0 0, opAt r202_0 1] false) (.seq (.region 1 #[opAt r202_1 0, opAt r202_1 1, opAt r202_1 2, opAt r202_1 3, opAt r202_1 4, opAt r202_1 5, opAt r202_1 6] false) .ret))
theorem c202_eq : Try.f202.body = some c202 := by kernel_rfl
theorem S202_eq (γ : Calld) (a0 a1 : AV) (H : AHeap) (K : AV → AHeap → Prop) : execC Try.prog γ pol202 Try.f202 c202 [a0, a1] H K = S202 γ a0 a1 H K := by kernel_rfl
theorem C202 {a0 a1 : AV} {H : AHeap} {K : AV → AHeap → Prop} (h : S202 (CallsA Try.prog) a0 a1 H K) : CallsA Try.prog 202 [a0, a1] H K :=
  calls_of Try.func202 (ne_of_beq_false (by kernel_rfl)) c202_eq (by kernel_rfl) (by rw [S202_eq]; exact h)
/-! slices.IndexFunc[[]tithing/probe.hint,tithing/probe.hint] -/
def pol203 : Pol := { lend := fun g => !([82, 161] : List Nat).contains g, keep := [0, 1, 7, 8], frz := fun _ => [], perm := fun r => [], bf := fun r => [], ret := true }
def S203 (γ : Calld) (a0 a1 : AV) (H : AHeap) (K : AV → AHeap → Prop) : Prop :=
  optA (lenSl a0) fun v1 => loopA (fun X2 l3 H4 => optA (intA .lss (l3.getD 3 .junk) (l3.getD 2 .junk)) fun v5 => ifA v5 (optA (indexAddrA ti167 4 (l3.getD 0 .junk) (l3.getD 3 .junk)) fun v6 => optA (ldV true 4 v6 H4) fun v7 => callA γ pol203 (l3.getD 1 .junk) [v7] H4 fun v8 H9 => ifA v8 (retF [l3.getD 3 .junk] H9 K) (optA (intA .add (l3.getD 3 .junk) (.d (.int .i64 1))) fun v10 => X2 [l3.getD 0 .junk, l3.getD 1 .junk, l3.getD 2 .junk, v10] H9)) (retF [.d (.int .i64 (-1))] H4 K)) [a0, a1, v1, .d (.int .i64 0)] H
noncomputable def r203_0 : List Oper := regOps Try.f203 0
noncomputable def r203_1 : List Oper := regOps Try.f203 1
noncomputable def r203_2 : List Oper := regOps Try.f203 2
noncomputable def r203_3 : List Oper := regOps Try.f203 3
noncomputable def r203_4 : List Oper := regOps Try.f203 4
noncomputable def r203_5 : List Oper := regOps Try.f203 5
noncomputable def r203_6 : List Oper := regOps Try.f203 6
noncomputable def r203_7 : List Oper := regOps Try.f203 7
noncomputable def c203 : Code := (.seq (.region 0 #[opAt r203_0 0] false) (.seq (.seq (.region 1 #[opAt r203_1 0, opAt r203_1 1, opAt r203_1 2] false) (.block 0 (.loop (.seq (.region 2 #[opAt r203_2 0] false) (.seq (.cond (.tmp 9) .skip (.exit 0)) (.seq (.block 1 (.seq (.region 3 #[opAt r203_3 0, opAt r203_3 1] false) (.seq (.region 4 #[opAt r203_4 0, opAt r203_4 1, opAt r203_4 2, opAt r203_4 3, opAt r203_4 4, opAt r203_4 5] false) (.cond (.tmp 16) (.seq (.region 5 #[opAt r203_5 0, opAt r203_5 1] false) .ret) .skip)))) (.region 6 #[opAt r203_6 0, opAt r203_6 1] false))))))) (.seq (.region 7 #[opAt r203_7 0] false) .ret)))
theorem c203_eq : Try.f203.body = some c203 := by kernel_rfl
theorem S203_eq (γ : Calld) (a0 a1 : AV) (H : AHeap) (K : AV → AHeap → Prop) : execC Try.prog γ pol203 Try.f203 c203 [a0, a1] H K = S203 γ a0 a1 H K := by kernel_rfl
theorem C203 {a0 a1 : AV} {H : AHeap} {K : AV → AHeap → Prop} (h : S203 (CallsA Try.prog) a0 a1 H K) : CallsA Try.prog 203 [a0, a1] H K :=
  calls_of Try.func203 (ne_of_beq_false (by kernel_rfl)) c203_eq (by kernel_rfl) (by rw [S203_eq]; exact h)
/-! cmp.Less[int] -/
def pol204 : Pol := { lend := fun g => !([82, 161] : List Nat).contains g, keep := [], frz := fun _ => [], perm := fun r => [], bf := fun r => [], ret := true }
def S204 (γ : Calld) (a0 a1 : AV) (H : AHeap) (K : AV → AHeap → Prop) : Prop :=
  frzLK [a0] H fun l3 H4 => γ 211 l3 H4 fun v1 H2 => ifA v1 (frzLK [a1] H2 fun l7 H8 => γ 211 l7 H8 fun v5 H6 => optA (unA .not v5) fun v9 => ifA v9 (retF [.d (.bool true)] H6 K) (optA (intA .lss a0 a1) fun v10 => retF [v10] H6 K)) (optA (intA .lss a0 a1) fun v11 => retF [v11] H2 K)
noncomputable def r204_0 : List Oper := regOps Try.f204 0
noncomputable def r204_1 : List Oper := regOps Try.f204 1
noncomputable def c204 : Code := (.seq (.region 0 #[opAt r204_0 0] false) (.seq (.region 1 #[opAt r204_1 0, opAt r204_1 1, opAt r204_1 2, opAt r204_1 3, opAt r204_1 4, opAt r204_1 5, opAt r204_1 6, opAt r204_1 7, opAt r204_1 8, opAt r204_1 9, opAt r204_1 10, opAt r204_1 11, opAt r204_1 12] false) .ret))
theorem c204_eq : Try.f204.body = some c204 := by kernel_rfl
theorem S204_eq (γ : Calld) (a0 a1 : AV) (H : AHeap) (K : AV → AHeap → Prop) : execC Try.prog γ pol204 Try.f204 c204 [a0, a1] H K = S204 γ a0 a1 H K := by kernel_rfl
theorem C204 {a0 a1 : AV} {H : AHeap} {K : AV → AHeap → Prop} (h : S204 (CallsA Try.prog) a0 a1 H K) : CallsA Try.prog 204 [a0, a1] H K :=
  calls_of Try.func204 (ne_of_beq_false (by kernel_rfl)) c204_eq (by kernel_rfl) (by rw [S204_eq]; exact h)
/-! slices.isNaN[int] -/
def pol205 : Pol := { lend := fun g => !([82, 161] : List Nat).contains g, keep := [], frz := fun _ => [], perm := fun r => [], bf := fun r => [], ret := true }
def S205 (γ : Calld) (a0 : AV) (H : AHeap) (K : AV → AHeap → Prop) : Prop :=
  optA (intA .neq a0 a0) fun v1 => retF [v1] H K
noncomputable def r205_0 : List Oper := regOps Try.f205 0
noncomputable def r205_1 : List Oper := regOps Try.f205 1
noncomputable def c205 : Code := (.seq (.region 0 #[opAt r205_0 0] false) (.seq (.region 1 #[opAt r205_1 0, opAt r205_1 1, opAt r205_1 2, opAt r205_1 3] false) .ret))
theorem c205_eq : Try.f205.body = some c205 := by kernel_rfl
theorem S205_eq (γ : Calld) (a0 : AV) (H : AHeap) (K : AV → AHeap → Prop) : execC Try.prog γ pol205 Try.f205 c205 [a0] H K = S205 γ a0 H K := by kernel_rfl
theorem C205 {a0 : AV} {H : AHeap} {K : AV → AHeap → Prop} (h : S205 (CallsA Try.prog) a0 H K) : CallsA Try.prog 205 [a0] H K :=
  calls_of Try.func205 (ne_of_beq_false (by kernel_rfl)) c205_eq (by kernel_rfl) (by rw [S205_eq]; exact h)
/-! cmp.isNaN[int] -/
def pol211 : Pol := { lend := fun g => !([82, 161] : List Nat).contains g, keep := [], frz := fun _ => [], perm := fun r => [], bf := fun r => [], ret := true }
def S211 (γ : Calld) (a0 : AV) (H : AHeap) (K : AV → AHeap → Prop) : Prop :=
  optA (intA .neq a0 a0) fun v1 => retF [v1] H K
noncomputable def r211_0 : List Oper := regOps Try.f211 0
noncomputable def r211_1 : List Oper := regOps Try.f211 1
noncomputable def c211 : Code := (.seq (.region 0 #[opAt r211_0 0] false) (.seq (.region 1 #[opAt r211_1 0, opAt r211_1 1, opAt r211_1 2, opAt r211_1 3] false) .ret))
theorem c211_eq : Try.f211.body = some c211 := by kernel_rfl
theorem S211_eq (γ : Calld) (a0 : AV) (H : AHeap) (K : AV → AHeap → Prop) : execC Try.prog γ pol211 Try.f211 c211 [a0] H K = S211 γ a0 H K := by kernel_rfl
theorem C211 {a0 : AV} {H : AHeap} {K : AV → AHeap → Prop} (h : S211 (CallsA Try.prog) a0 H K) : CallsA Try.prog 211 [a0] H K :=
  calls_of Try.func211 (ne_of_beq_false (by kernel_rfl)) c211_eq (by kernel_rfl) (by rw [S211_eq]; exact h)
/-! (*tithing/probe.station).learn -/
def pol222 : Pol := { lend := fun g => !([82, 161] : List Nat).contains g, keep := [], frz := fun _ => [], perm := fun r => if r = 4 then [0, 1, 2, 3, 4, 5, 6, 7] else if r = 5 then [0, 1, 2, 3, 4, 5, 6, 7, 8, 9, 10] else [], bf := fun r => if r = 4 then [0, 1, 3, 7, 0, 0, 63, 127] else if r = 5 then [0, 0, 2, 6, 14, 0, 32, 126, 255, 511, 1023] else [], ret := true }
def S222 (γ : Calld) (a0 a1 a2 : AV) (H : AHeap) (K : AV → AHeap → Prop) : Prop :=
  newK H (fun n3 => boxA a1 n3) fun v1 H2 => optA (ldV true 2 v1 H2) fun v4 => stepK (bdA Try.prog ti224 [0, 1] [v4, a2] H2) H2 fun v5 H6 => newK H6 (fun n9 => some (.ptr n9 0 0 0, [(n9, .mem 0 0 4 [[.d (.int .i64 0), .d (.int .i64 0), .d (.int .i64 0), .d (.int .i64 0)]])])) fun v7 H8 => stepK (stoA true 4 v7 v5 H8) H8 fun v10 H11 => optA (ldV true 2 v1 H11) fun v12 => frzLK [a0, v12] H11 fun l15 H16 => γ 202 l15 H16 fun v13 H14 => optA (intA .geq v13 (.d (.int .i64 0))) fun v17 => ifA v17 (drA true (optA (nilCkA a0) fun v18 => optA (fieldA ti169 v18 6) fun v19 => optA (ldV false 1 v19 H14) fun v20 => optA (ldV true 4 v7 H14) fun v21 => optA (indexAddrA ti167 4 v20 v13) fun v22 => noRsA (aggL v21) (stepK (stoA true 4 v22 v21 H14) H14 fun v23 H24 => retF [] H24 K))) (drA true (optA (nilCkA a0) fun v25 => optA (fieldA ti169 v25 6) fun v26 => optA (ldV false 1 v26 H14) fun v27 => optA (ldV true 4 v7 H14) fun v28 => apart (rsOf v28) v26 ∧ (noRsA (aggL v28) (newK H14 (fun n31 => bsA ti224 1 [0] [v28] H14 n31) fun v29 H30 => newK H30 (fun n34 => apA 4 32 v27 v29 H30 n34) fun v32 H33 => optA (nilCkA a0) fun v35 => optA (fieldA ti169 v35 6) fun v36 => noRsA (aggL v32) (stepK (stoA false 1 v36 v32 H33) H33 fun v37 H38 => retF [] H38 K)))))
noncomputable def r222_0 : List Oper := regOps Try.f222 0
noncomputable def r222_1 : List Oper := regOps Try.f222 1
noncomputable def r222_2 : List Oper := regOps Try.f222 2
noncomputable def r222_3 : List Oper := regOps Try.f222 3
noncomputable def r222_4 : List Oper := regOps Try.f222 4
noncomputable def r222_5 : List Oper := regOps Try.f222 5
noncomputable def c222 : Code := (.seq (.region 0 #[opAt r222_0 0] false) (.seq (.region 1 #[opAt r222_1 0, opAt r222_1 1, opAt r222_1 2, opAt r222_1 3, opAt r222_1 4] false) (.seq (.region 2 #[opAt r222_2 0, opAt r222_2 1, opAt r222_2 2, opAt r222_2 3] false) (.seq (.region 3 #[opAt r222_3 0, opAt r222_3 1] false) (.cond (.tmp 15) (.region 4 #[opAt r222_4 0, opAt r222_4 1, opAt r222_4 2, opAt r222_4 3, opAt r222_4 4, opAt r222_4 5, opAt r222_4 6, opAt r222_4 7] true) (.region 5 #[opAt r222_5 0, opAt r222_5 1, opAt r222_5 2, opAt r222_5 3, opAt r222_5 4, opAt r222_5 5, opAt r222_5 6, opAt r222_5 7, opAt r222_5 8, opAt r222_5 9, opAt r222_5 10] true))))))
theorem c222_eq : Try.f222.body = some c222 := by kernel_rfl
theorem S222_eq (γ : Calld) (a0 a1 a2 : AV) (H : AHeap) (K : AV → AHeap → Prop) : execC Try.prog γ pol222 Try.f222 c222 [a0, a1, a2] H K = S222 γ a0 a1 a2 H K := by kernel_rfl
theorem C222 {a0 a1 a2 : AV} {H : AHeap} {K : AV → AHeap → Prop} (h : S222 (CallsA Try.prog) a0 a1 a2 H K) : CallsA Try.prog 222 [a0, a1, a2] H K :=
  calls_of Try.func222 (ne_of_beq_false (by kernel_rfl)) c222_eq (by kernel_rfl) (by rw [S222_eq]; exact h)
/-! slices.IndexFunc[[]tithing/probe.ask,tithing/probe.ask] -/
def pol223 : Pol := { lend := fun g => !([82, 161] : List Nat).contains g, keep := [0, 1, 7, 8], frz := fun _ => [], perm := fun r => [], bf := fun r => [], ret := true }
def S223 (γ : Calld) (a0 a1 : AV) (H : AHeap) (K : AV → AHeap → Prop) : Prop :=
  optA (lenSl a0) fun v1 => loopA (fun X2 l3 H4 => optA (intA .lss (l3.getD 3 .junk) (l3.getD 2 .junk)) fun v5 => ifA v5 (optA (indexAddrA ti166 3 (l3.getD 0 .junk) (l3.getD 3 .junk)) fun v6 => optA (ldV true 3 v6 H4) fun v7 => callA γ pol223 (l3.getD 1 .junk) [v7] H4 fun v8 H9 => ifA v8 (retF [l3.getD 3 .junk] H9 K) (optA (intA .add (l3.getD 3 .junk) (.d (.int .i64 1))) fun v10 => X2 [l3.getD 0 .junk, l3.getD 1 .junk, l3.getD 2 .junk, v10] H9)) (retF [.d (.int .i64 (-1))] H4 K)) [a0, a1, v1, .d (.int .i64 0)] H
noncomputable def r223_0 : List Oper := regOps Try.f223 0
noncomputable def r223_1 : List Oper := regOps Try.f223 1
noncomputable def r223_2 : List Oper := regOps Try.f223 2
noncomputable def r223_3 : List Oper := regOps Try.f223 3
noncomputable def r223_4 : List Oper := regOps Try.f223 4
noncomputable def r223_5 : List Oper := regOps Try.f223 5
noncomputable def r223_6 : List Oper := regOps Try.f223 6
noncomputable def r223_7 : List Oper := regOps Try.f223 7
noncomputable def c223 : Code := (.seq (.region 0 #[opAt r223_0 0] false) (.seq (.seq (.region 1 #[opAt r223_1 0, opAt r223_1 1, opAt r223_1 2] false) (.block 0 (.loop (.seq (.region 2 #[opAt r223_2 0] false) (.seq (.cond (.tmp 9) .skip (.exit 0)) (.seq (.block 1 (.seq (.region 3 #[opAt r223_3 0, opAt r223_3 1] false) (.seq (.region 4 #[opAt r223_4 0, opAt r223_4 1, opAt r223_4 2, opAt r223_4 3, opAt r223_4 4, opAt r223_4 5] false) (.cond (.tmp 16) (.seq (.region 5 #[opAt r223_5 0, opAt r223_5 1] false) .ret) .skip)))) (.region 6 #[opAt r223_6 0, opAt r223_6 1] false))))))) (.seq (.region 7 #[opAt r223_7 0] false) .ret)))
theorem c223_eq : Try.f223.body = some c223 := by kernel_rfl
theorem S223_eq (γ : Calld) (a0 a1 : AV) (H : AHeap) (K : AV → AHeap → Prop) : execC Try.prog γ pol223 Try.f223 c223 [a0, a1] H K = S223 γ a0 a1 H K := by kernel_rfl
theorem C223 {a0 a1 : AV} {H : AHeap} {K : AV → AHeap → Prop} (h : S223 (CallsA Try.prog) a0 a1 H K) : CallsA Try.prog 223 [a0, a1] H K :=
  calls_of Try.func223 (ne_of_beq_false (by kernel_rfl)) c223_eq (by kernel_rfl) (by rw [S223_eq]; exact h)
/-! (*tithing/probe.station).hint$1 -/
def pol224 : Pol := { lend := fun g => !([82, 161] : List Nat).contains g, keep := [], frz := fun _ => [], perm := fun r => [], bf := fun r => [], ret := true }
def S224 (γ : Calld) (a0 a1 : AV) (H : AHeap) (K : AV → AHeap → Prop) : Prop :=
  newK H (fun n3 => boxA a0 n3) fun v1 H2 => optA (fieldA ti224 v1 0) fun v4 => optA (ldV true 2 v4 H2) fun v5 => optA (ldV true 2 a1 H2) fun v6 => optA (aggA Try.prog .eql 165 v5 v6) fun v7 => retF [v7] H2 K
noncomputable def r224_0 : List Oper := regOps Try.f224 0
noncomputable def r224_1 : List Oper := regOps Try.f224 1
noncomputable def c224 : Code := (.seq (.region 0 #[opAt r224_0 0, opAt r224_0 1] false) (.seq (.region 1 #[opAt r224_1 0, opAt r224_1 1, opAt r224_1 2, opAt r224_1 3, opAt r224_1 4] false) .ret))
theorem c224_eq : Try.f224.body = some c224 := by kernel_rfl
theorem S224_eq (γ : Calld) (a0 a1 : AV) (H : AHeap) (K : AV → AHeap → Prop) : execC Try.prog γ pol224 Try.f224 c224 [a0, a1] H K = S224 γ a0 a1 H K := by kernel_rfl
theorem C224 {a0 a1 : AV} {H : AHeap} {K : AV → AHeap → Prop} (h : S224 (CallsA Try.prog) a0 a1 H K) : CallsA Try.prog 224 [a0, a1] H K :=
  calls_of Try.func224 (ne_of_beq_false (by kernel_rfl)) c224_eq (by kernel_rfl) (by rw [S224_eq]; exact h)
end Go.Proofs.Ytgnnkpgceahjdaa

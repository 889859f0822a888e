/- What the functions do, printed by a program of mine out of their code; Lean checks each equation. -/
import Derived.Test.YtofjhihigmimbaaT10
import Derived.Test.YtofjhihigmimbaaA26
import Derived.Test.YtofjhihigmimbaaProg
import Derived.KernelRfl
set_option maxRecDepth 100000
set_option linter.unusedVariables false
namespace Go.Proofs.Ytofjhihigmimbaa
open Go Go.AM Go.Proofs
def ti3 : TI := { agg := false, size := 1, bytes := 8, zero := [.d (.int .i64 0)], k := .int .i64 }
def ti27 : TI := { agg := false, size := 1, bytes := 24, zero := [.d (.sl true [])], k := .slice 38 }
def ti38 : TI := { agg := true, size := 13, bytes := 120, zero := [.d (.int .i64 0), .d (.sl true []), .d (.int .i64 0), .d (.int .i64 0), .d (.bool false), .d (.int .i64 0), .d (.int .i64 0), .d (.int .i64 0), .d (.int .i64 0), .d (.bool false), .d (.bool false), .d (.bool false), .d (.sl true [])], k := .struct [(0, 3), (1, 22), (2, 3), (3, 3), (4, 4), (5, 24)] }
theorem ti38_f0 {i v e o : Nat} : fieldA ti38 (.ptr i v e o) 0 = some (.ptr i v e (o + 0)) := rfl
theorem ti38_v0 {cs : List Dat} {o : Nat} : fieldA ti38 (.vptr cs o) 0 = some (.vptr cs (o + 0)) := rfl
theorem ti38_f1 {i v e o : Nat} : fieldA ti38 (.ptr i v e o) 1 = some (.ptr i v e (o + 1)) := rfl
theorem ti38_v1 {cs : List Dat} {o : Nat} : fieldA ti38 (.vptr cs o) 1 = some (.vptr cs (o + 1)) := rfl
theorem ti38_f2 {i v e o : Nat} : fieldA ti38 (.ptr i v e o) 2 = some (.ptr i v e (o + 2)) := rfl
theorem ti38_v2 {cs : List Dat} {o : Nat} : fieldA ti38 (.vptr cs o) 2 = some (.vptr cs (o + 2)) := rfl
theorem ti38_f3 {i v e o : Nat} : fieldA ti38 (.ptr i v e o) 3 = some (.ptr i v e (o + 3)) := rfl
theorem ti38_v3 {cs : List Dat} {o : Nat} : fieldA ti38 (.vptr cs o) 3 = some (.vptr cs (o + 3)) := rfl
theorem ti38_f4 {i v e o : Nat} : fieldA ti38 (.ptr i v e o) 4 = some (.ptr i v e (o + 4)) := rfl
theorem ti38_v4 {cs : List Dat} {o : Nat} : fieldA ti38 (.vptr cs o) 4 = some (.vptr cs (o + 4)) := rfl
theorem ti38_f5 {i v e o : Nat} : fieldA ti38 (.ptr i v e o) 5 = some (.ptr i v e (o + 5)) := rfl
theorem ti38_v5 {cs : List Dat} {o : Nat} : fieldA ti38 (.vptr cs o) 5 = some (.vptr cs (o + 5)) := rfl
def ti60 : TI := { agg := false, size := 1, bytes := 24, zero := [.d (.sl true [])], k := .slice 24 }
def ti103 : TI := { agg := false, size := 1, bytes := 24, zero := [.d (.sl true [])], k := .slice 111 }
def ti105 : TI := { agg := true, size := 2, bytes := 32, zero := [.d (.int .i64 0), .d (.sl true [])], k := .struct [(0, 3), (1, 103)] }
theorem ti105_f0 {i v e o : Nat} : fieldA ti105 (.ptr i v e o) 0 = some (.ptr i v e (o + 0)) := rfl
theorem ti105_v0 {cs : List Dat} {o : Nat} : fieldA ti105 (.vptr cs o) 0 = some (.vptr cs (o + 0)) := rfl
theorem ti105_f1 {i v e o : Nat} : fieldA ti105 (.ptr i v e o) 1 = some (.ptr i v e (o + 1)) := rfl
theorem ti105_v1 {cs : List Dat} {o : Nat} : fieldA ti105 (.vptr cs o) 1 = some (.vptr cs (o + 1)) := rfl
def ti111 : TI := { agg := true, size := 24, bytes := 280, zero := [.d (.int .i64 0), .d (.int .i64 0), .d (.sl true []), .d (.bool false), .d (.int .i64 0), .d (.int .i64 0), .d (.int .i64 0), .d (.int .i64 0), .d (.bool false), .d (.bool false), .d (.bool false), .d (.bool false), .d (.bool false), .d (.bool false), .d (.bool false), .d (.bool false), .d (.sl true []), .d (.sl true []), .d (.sl true []), .d (.sl true []), .d (.sl true []), .d (.sl true []), .d (.sl true []), .d (.sl true [])], k := .struct [(0, 3), (1, 3), (2, 22), (3, 4), (4, 3), (5, 3), (6, 3), (7, 3), (8, 108), (16, 109)] }
theorem ti111_f0 {i v e o : Nat} : fieldA ti111 (.ptr i v e o) 0 = some (.ptr i v e (o + 0)) := rfl
theorem ti111_v0 {cs : List Dat} {o : Nat} : fieldA ti111 (.vptr cs o) 0 = some (.vptr cs (o + 0)) := rfl
theorem ti111_f1 {i v e o : Nat} : fieldA ti111 (.ptr i v e o) 1 = some (.ptr i v e (o + 1)) := rfl
theorem ti111_v1 {cs : List Dat} {o : Nat} : fieldA ti111 (.vptr cs o) 1 = some (.vptr cs (o + 1)) := rfl
theorem ti111_f2 {i v e o : Nat} : fieldA ti111 (.ptr i v e o) 2 = some (.ptr i v e (o + 2)) := rfl
theorem ti111_v2 {cs : List Dat} {o : Nat} : fieldA ti111 (.vptr cs o) 2 = some (.vptr cs (o + 2)) := rfl
theorem ti111_f3 {i v e o : Nat} : fieldA ti111 (.ptr i v e o) 3 = some (.ptr i v e (o + 3)) := rfl
theorem ti111_v3 {cs : List Dat} {o : Nat} : fieldA ti111 (.vptr cs o) 3 = some (.vptr cs (o + 3)) := rfl
theorem ti111_f4 {i v e o : Nat} : fieldA ti111 (.ptr i v e o) 4 = some (.ptr i v e (o + 4)) := rfl
theorem ti111_v4 {cs : List Dat} {o : Nat} : fieldA ti111 (.vptr cs o) 4 = some (.vptr cs (o + 4)) := rfl
theorem ti111_f5 {i v e o : Nat} : fieldA ti111 (.ptr i v e o) 5 = some (.ptr i v e (o + 5)) := rfl
theorem ti111_v5 {cs : List Dat} {o : Nat} : fieldA ti111 (.vptr cs o) 5 = some (.vptr cs (o + 5)) := rfl
theorem ti111_f6 {i v e o : Nat} : fieldA ti111 (.ptr i v e o) 6 = some (.ptr i v e (o + 6)) := rfl
theorem ti111_v6 {cs : List Dat} {o : Nat} : fieldA ti111 (.vptr cs o) 6 = some (.vptr cs (o + 6)) := rfl
theorem ti111_f7 {i v e o : Nat} : fieldA ti111 (.ptr i v e o) 7 = some (.ptr i v e (o + 7)) := rfl
theorem ti111_v7 {cs : List Dat} {o : Nat} : fieldA ti111 (.vptr cs o) 7 = some (.vptr cs (o + 7)) := rfl
theorem ti111_f8 {i v e o : Nat} : fieldA ti111 (.ptr i v e o) 8 = some (.ptr i v e (o + 8)) := rfl
theorem ti111_v8 {cs : List Dat} {o : Nat} : fieldA ti111 (.vptr cs o) 8 = some (.vptr cs (o + 8)) := rfl
theorem ti111_f9 {i v e o : Nat} : fieldA ti111 (.ptr i v e o) 9 = some (.ptr i v e (o + 16)) := rfl
theorem ti111_v9 {cs : List Dat} {o : Nat} : fieldA ti111 (.vptr cs o) 9 = some (.vptr cs (o + 16)) := rfl
theorem bd38 {parts : List (Nat × AV)} : buildA Try.prog ti38 parts = (fillA (fun i => (([(0, 3), (1, 22), (2, 3), (3, 3), (4, 4), (5, 24)] : List (Nat × TypeId))[i]?).map fun f => (f.1, Try.prog.cellsOf f.2)) [.d (.int .i64 0), .d (.sl true []), .d (.int .i64 0), .d (.int .i64 0), .d (.bool false), .d (.int .i64 0), .d (.int .i64 0), .d (.int .i64 0), .d (.int .i64 0), .d (.bool false), .d (.bool false), .d (.bool false), .d (.sl true [])] parts).map AV.agg := rfl
theorem bd105 {parts : List (Nat × AV)} : buildA Try.prog ti105 parts = (fillA (fun i => (([(0, 3), (1, 103)] : List (Nat × TypeId))[i]?).map fun f => (f.1, Try.prog.cellsOf f.2)) [.d (.int .i64 0), .d (.sl true [])] parts).map AV.agg := rfl
theorem bd111 {parts : List (Nat × AV)} : buildA Try.prog ti111 parts = (fillA (fun i => (([(0, 3), (1, 3), (2, 22), (3, 4), (4, 3), (5, 3), (6, 3), (7, 3), (8, 108), (16, 109)] : List (Nat × TypeId))[i]?).map fun f => (f.1, Try.prog.cellsOf f.2)) [.d (.int .i64 0), .d (.int .i64 0), .d (.sl true []), .d (.bool false), .d (.int .i64 0), .d (.int .i64 0), .d (.int .i64 0), .d (.int .i64 0), .d (.bool false), .d (.bool false), .d (.bool false), .d (.bool false), .d (.bool false), .d (.bool false), .d (.bool false), .d (.bool false), .d (.sl true []), .d (.sl true []), .d (.sl true []), .d (.sl true []), .d (.sl true []), .d (.sl true []), .d (.sl true []), .d (.sl true [])] parts).map AV.agg := rfl
theorem cell24 : Try.prog.cellsOf 24 = 8 := by kernel_rfl
theorem cell38 : Try.prog.cellsOf 38 = 13 := by kernel_rfl
theorem cell103 : Try.prog.cellsOf 103 = 1 := by kernel_rfl
theorem cell111 : Try.prog.cellsOf 111 = 24 := by kernel_rfl
def pol16 : Pol := { lend := fun _ => true, keep := [], frz := fun _ => [], perm := fun r => [], bf := fun r => [], ret := true }
def S16 (γ : Calld) (a0 : AV) (H : AHeap) (K : AV → AHeap → Prop) : Prop :=
 optA (intA .lss a0 (.d (.int .i64 0))) fun v1 => ifA v1 (retF [.nilptr, .d (.int .i64 2)] H K) (optA (intA .gtr a0 (.d (.int .i64 65535))) fun v2 => ifA v2 (retF [.nilptr, .d (.int .i64 2)] H K) (stepK (bdA Try.prog ti105 [0] [a0] H) H fun v3 H4 => newK H4 (fun n7 => boxA v3 n7) fun v5 H6 => retF [v5, .d (.int .i64 0)] H6 K))
noncomputable def r16_0 : List Oper := regOps Try.f16 0
noncomputable def r16_1 : List Oper := regOps Try.f16 1
noncomputable def r16_2 : List Oper := regOps Try.f16 2
noncomputable def r16_3 : List Oper := regOps Try.f16 3
noncomputable def c16 : Code := (.seq (.region 0 (opArr r16_0 2) false) (.seq (.seq (.region 1 (opArr r16_1 6) false) (.cond (.tmp 9) (.seq (.region 2 (opArr r16_2 2) false) .ret) .skip)) (.seq (.region 3 (opArr r16_3 5) false) .ret)))
theorem c16_eq : Try.f16.body = some c16 := by kernel_rfl
theorem S16_eq (γ : Calld) (a0 : AV) (H : AHeap) (K : AV → AHeap → Prop) : execC Try.prog γ pol16 Try.f16 c16 [a0] H K = S16 γ a0 H K := by kernel_rfl
theorem C16 {a0 : AV} {H : AHeap} {K : AV → AHeap → Prop} (h : S16 (CallsA Try.prog) a0 H K) : CallsA Try.prog 16 [a0] H K :=
 calls_of Try.func16 (ne_of_beq_false (by kernel_rfl)) c16_eq (by kernel_rfl) (by rw [S16_eq]; exact h)
def pol18 : Pol := { lend := fun _ => true, keep := [0, 1, 5, 6, 7], frz := fun _ => [], perm := fun r => if r = 11 then [0, 1, 2, 3, 4, 6, 7, 8, 9, 10, 5, 11, 12, 13, 14, 15, 16, 17, 18, 19, 20, 21, 22, 23] else [], bf := fun r => if r = 11 then [0, 0, 0, 6, 14, 31, 0, 0, 0, 384, 896, 2047, 4095, 8191, 16383, 16383, 65535, 131071, 262143, 524287, 1048575, 1048575, 4194303, 8388607] else [], ret := true, eff := fun r => ([11] : List Nat).contains r }
def S18 (γ : Calld) (a0 a1 : AV) (H : AHeap) (K : AV → AHeap → Prop) : Prop :=
 newK H (fun n3 => bsA ti3 5 [0, 1, 2, 3, 4] [.d (.int .i64 (-1)), .d (.int .i64 0), .d (.int .i64 1), .d (.int .i64 65535), .d (.int .i64 65536)] H n3) fun v1 H2 => loopA (fun X4 l5 H6 => optA (nilCkA (l5.getD 1 .junk)) fun v7 => optA (fieldA ti105 v7 1) fun v8 => optA (ldV false 1 v8 H6) fun v9 => optA (lenSl v9) fun v10 => optA (intA .lss (l5.getD 3 .junk) v10) fun v11 => ifA v11 (optA (nilCkA (l5.getD 1 .junk)) fun v12 => optA (fieldA ti105 v12 1) fun v13 => optA (ldV false 1 v13 H6) fun v14 => optA (indexAddrA ti103 24 v14 (l5.getD 3 .junk)) fun v15 => optA (fieldA ti111 v15 0) fun v16 => optA (ldV false 1 v16 H6) fun v17 => newK H6 (fun n20 => bsA ti3 1 [0] [v17] H6 n20) fun v18 H19 => newK H19 (fun n23 => apA 1 8 (l5.getD 2 .junk) v18 H19 n23) fun v21 H22 => optA (intA .add (l5.getD 3 .junk) (.d (.int .i64 1))) fun v24 => X4 [l5.getD 0 .junk, l5.getD 1 .junk, v21, v24, l5.getD 4 .junk] H22) (loopA (fun X25 l26 H27 => optA (lenSl (l26.getD 2 .junk)) fun v28 => optA (intA .lss (l26.getD 4 .junk) v28) fun v29 => ifA v29 (optA (indexAddrA ti55 1 (l26.getD 2 .junk) (l26.getD 4 .junk)) fun v30 => optA (ldV false 1 v30 H27) fun v31 => frzLK [l26.getD 0 .junk, v31] H27 fun l34 H35 => γ 33 l34 H35 fun v32 H33 => optA (extractA v32 0) fun v36 => optA (extractA v32 1) fun v37 => optA (indexAddrA ti55 1 (l26.getD 2 .junk) (l26.getD 4 .junk)) fun v38 => optA (ldV false 1 v38 H33) fun v39 => frzLK [l26.getD 1 .junk, v39] H33 fun l42 H43 => γ 52 l42 H43 fun v40 H41 => optA (extractA v40 0) fun v44 => optA (extractA v40 1) fun v45 => drA true (optA (indexAddrA ti55 1 (l26.getD 2 .junk) (l26.getD 4 .junk)) fun v46 => optA (ldV false 1 v46 H41) fun v47 => optA (indexAddrA ti55 1 (l26.getD 2 .junk) (l26.getD 4 .junk)) fun v48 => optA (ldV false 1 v48 H41) fun v49 => frzLK [l26.getD 0 .junk, v47] H41 fun l52 H53 => γ 35 l52 H53 fun v50 H51 => kp v48 H41 H51 ∧ (frzLK [l26.getD 1 .junk, v49] H51 fun l56 H57 => γ 53 l56 H57 fun v54 H55 => optA (intA .neq v50 v54) fun v58 => ifA v58 (retF [.d (.bool false)] H55 K) (frzLK [v36, v44] H55 fun l61 H62 => γ 54 l61 H62 fun v59 H60 => optA (unA .not v59) fun v63 => ifA v63 (retF [.d (.bool false)] H60 K) (optA (intA .neq v37 v45) fun v64 => ifA v64 (retF [.d (.bool false)] H60 K) (optA (intA .add (l26.getD 4 .junk) (.d (.int .i64 1))) fun v65 => X25 [l26.getD 0 .junk, l26.getD 1 .junk, l26.getD 2 .junk, l26.getD 3 .junk, v65] H60)))))) (retF [.d (.bool true)] H27 K)) [l5.getD 0 .junk, l5.getD 1 .junk, l5.getD 2 .junk, l5.getD 3 .junk, .d (.int .i64 0)] H6)) [a0, a1, v1, .d (.int .i64 0), .junk] H2
noncomputable def r18_0 : List Oper := regOps Try.f18 0
noncomputable def r18_1 : List Oper := regOps Try.f18 1
noncomputable def r18_2 : List Oper := regOps Try.f18 2
noncomputable def r18_3 : List Oper := regOps Try.f18 3
noncomputable def r18_4 : List Oper := regOps Try.f18 4
noncomputable def r18_5 : List Oper := regOps Try.f18 5
noncomputable def r18_6 : List Oper := regOps Try.f18 6
noncomputable def r18_7 : List Oper := regOps Try.f18 7
noncomputable def r18_8 : List Oper := regOps Try.f18 8
noncomputable def r18_9 : List Oper := regOps Try.f18 9
noncomputable def r18_10 : List Oper := regOps Try.f18 10
noncomputable def r18_11 : List Oper := regOps Try.f18 11
noncomputable def r18_12 : List Oper := regOps Try.f18 12
noncomputable def r18_13 : List Oper := regOps Try.f18 13
noncomputable def c18 : Code := (.seq (.region 0 (opArr r18_0 1) false) (.seq (.region 1 (opArr r18_1 2) false) (.seq (.seq (.region 2 (opArr r18_2 1) false) (.block 0 (.loop (.seq (.seq (.region 3 (opArr r18_3 7) false) (.cond (.tmp 19) .skip (.exit 0))) (.seq (.block 1 (.region 5 (opArr r18_4 12) false)) (.region 4 (opArr r18_5 3) false)))))) (.seq (.seq (.region 6 (opArr r18_6 1) false) (.block 2 (.loop (.seq (.seq (.region 7 (opArr r18_7 4) false) (.cond (.tmp 36) .skip (.exit 2))) (.seq (.block 3 (.seq (.region 9 (opArr r18_8 11) false) (.seq (.region 10 (opArr r18_9 11) false) (.seq (.region 11 (opArr r18_10 24) true) (.cond (.tmp 80) (.seq (.region 12 (opArr r18_11 1) false) .ret) .skip))))) (.region 8 (opArr r18_12 3) false)))))) (.seq (.region 13 (opArr r18_13 1) false) .ret)))))
theorem c18_eq : Try.f18.body = some c18 := by kernel_rfl
theorem S18_eq (γ : Calld) (a0 a1 : AV) (H : AHeap) (K : AV → AHeap → Prop) : execC Try.prog γ pol18 Try.f18 c18 [a0, a1] H K = S18 γ a0 a1 H K := by kernel_rfl
theorem C18 {a0 a1 : AV} {H : AHeap} {K : AV → AHeap → Prop} (h : S18 (CallsA Try.prog) a0 a1 H K) : CallsA Try.prog 18 [a0, a1] H K :=
 calls_of Try.func18 (ne_of_beq_false (by kernel_rfl)) c18_eq (by kernel_rfl) (by rw [S18_eq]; exact h)
def pol47 : Pol := { lend := fun _ => true, keep := [0, 1, 2, 3, 4, 11, 13, 14], frz := fun _ => [], perm := fun r => if r = 7 then [0, 1, 2, 3, 4, 5, 6, 7, 8, 9, 10, 11, 12, 13] else if r = 13 then [0, 1, 2, 3, 4, 5, 6, 7, 8, 9, 10] else if r = 14 then [0, 1, 2, 3, 4, 5] else [], bf := fun r => if r = 7 then [0, 1, 3, 7, 0, 0, 48, 0, 0, 0, 512, 2047, 0, 8191] else if r = 13 then [0, 0, 2, 6, 14, 0, 32, 126, 255, 511, 1023] else if r = 14 then [0, 1, 0, 7, 15, 31] else [], ret := true, eff := fun r => ([14] : List Nat).contains r }
def S47 (γ : Calld) (a0 a1 a2 a3 a4 : AV) (H : AHeap) (K : AV → AHeap → Prop) : Prop :=
 newK H (fun n3 => some (.ptr n3 0 0 0, [(n3, .mem 0 0 8 [[.d (.int .i64 0), .d (.int .i64 0), .d (.int .i64 0), .d (.int .i64 0), .d (.bool false), .d (.bool false), .d (.bool false), .d (.sl true [])]])])) fun v1 H2 => optA (lenSl a1) fun v4 => optA (intA .gtr v4 (.d (.int .i64 64))) fun v5 => ifA v5 (stepK (bdA Try.prog ti24 [] [] H2) H2 fun v6 H7 => stepK (stoA true 8 v1 v6 H7) H7 fun v8 H9 => optA (ldV true 8 v1 H9) fun v10 => retF [.d (.int .i64 0), v10, .d (.int .i64 2)] H9 K) (optA (intA .lss a2 (.d (.int .i64 1))) fun v11 => ifA v11 (stepK (bdA Try.prog ti24 [] [] H2) H2 fun v12 H13 => stepK (stoA true 8 v1 v12 H13) H13 fun v14 H15 => optA (ldV true 8 v1 H15) fun v16 => retF [.d (.int .i64 0), v16, .d (.int .i64 2)] H15 K) (optA (intA .gtr a2 (.d (.int .i64 8))) fun v17 => ifA v17 (stepK (bdA Try.prog ti24 [] [] H2) H2 fun v18 H19 => stepK (stoA true 8 v1 v18 H19) H19 fun v20 H21 => optA (ldV true 8 v1 H21) fun v22 => retF [.d (.int .i64 0), v22, .d (.int .i64 2)] H21 K) (optA (intA .lss a4 (.d (.int .i64 1))) fun v23 => ifA v23 (stepK (bdA Try.prog ti24 [] [] H2) H2 fun v24 H25 => stepK (stoA true 8 v1 v24 H25) H25 fun v26 H27 => optA (ldV true 8 v1 H27) fun v28 => retF [.d (.int .i64 0), v28, .d (.int .i64 2)] H27 K) (optA (intA .gtr a4 (.d (.int .i64 255))) fun v29 => ifA v29 (stepK (bdA Try.prog ti24 [] [] H2) H2 fun v30 H31 => stepK (stoA true 8 v1 v30 H31) H31 fun v32 H33 => optA (ldV true 8 v1 H33) fun v34 => retF [.d (.int .i64 0), v34, .d (.int .i64 2)] H33 K) (optA (nilCkA a0) fun v35 => optA (fieldA ti105 v35 1) fun v36 => optA (ldV false 1 v36 H2) fun v37 => optA (lenSl v37) fun v38 => optA (intA .geq v38 (.d (.int .i64 100))) fun v39 => ifA v39 (stepK (bdA Try.prog ti24 [] [] H2) H2 fun v40 H41 => stepK (stoA true 8 v1 v40 H41) H41 fun v42 H43 => optA (ldV true 8 v1 H43) fun v44 => retF [.d (.int .i64 0), v44, .d (.int .i64 4)] H43 K) (loopA (fun X45 l46 H47 => optA (nilCkA (l46.getD 0 .junk)) fun v48 => optA (fieldA ti105 v48 0) fun v49 => optA (ldV false 1 v49 H47) fun v50 => frzLK [l46.getD 0 .junk, v50] H47 fun l53 H54 => γ 85 l53 H54 fun v51 H52 => optA (intA .geq v51 (.d (.int .i64 0))) fun v55 => ifA v55 (optA (nilCkA (l46.getD 0 .junk)) fun v56 => optA (fieldA ti105 v56 0) fun v57 => optA (ldV false 1 v57 H52) fun v58 => optA (intA .add v58 (.d (.int .i64 1))) fun v59 => optA (intA .rem v59 (.d (.int .i64 65536))) fun v60 => optA (nilCkA (l46.getD 0 .junk)) fun v61 => optA (fieldA ti105 v61 0) fun v62 => stepK (stoA false 1 v62 v60 H52) H52 fun v63 H64 => X45 [l46.getD 0 .junk, l46.getD 1 .junk, l46.getD 2 .junk, l46.getD 3 .junk, l46.getD 4 .junk, l46.getD 5 .junk, l46.getD 6 .junk, l46.getD 7 .junk] H64) (drA true (optA (nilCkA (l46.getD 0 .junk)) fun v65 => optA (fieldA ti105 v65 0) fun v66 => optA (ldV false 1 v66 H52) fun v67 => newK H52 (fun n70 => bsA ti5 0 [] [] H52 n70) fun v68 H69 => apart v68 v66 ∧ (newK H69 (fun n73 => apA 1 1 v68 (l46.getD 1 .junk) H69 n73) fun v71 H72 => optA (intA .sub (l46.getD 2 .junk) (.d (.int .i64 1))) fun v74 => noRsA (aggL v67) (noRsA (aggL (.d (.int .i64 1))) (noRsA (aggL v71) (noRsA (aggL (l46.getD 3 .junk)) (noRsA (aggL (l46.getD 4 .junk)) (noRsA (aggL (.d (.int .i64 1))) (noRsA (aggL v74) (stepK (bdA Try.prog ti111 [0, 1, 2, 3, 4, 5, 7] [v67, .d (.int .i64 1), v71, l46.getD 3 .junk, l46.getD 4 .junk, .d (.int .i64 1), v74] H72) H72 fun v75 H76 => newK H76 (fun n79 => some (.ptr n79 0 0 0, [(n79, .mem 0 0 24 [[.d (.int .i64 0), .d (.int .i64 0), .d (.sl true []), .d (.bool false), .d (.int .i64 0), .d (.int .i64 0), .d (.int .i64 0), .d (.int .i64 0), .d (.bool false), .d (.bool false), .d (.bool false), .d (.bool false), .d (.bool false), .d (.bool false), .d (.bool false), .d (.bool false), .d (.sl true []), .d (.sl true []), .d (.sl true []), .d (.sl true []), .d (.sl true []), .d (.sl true []), .d (.sl true []), .d (.sl true [])]])])) fun v77 H78 => noRsA (aggL v75) (stepK (stoA true 24 v77 v75 H78) H78 fun v80 H81 => loopA (fun X82 l83 H84 => optA (intA .lss (l83.getD 7 .junk) (l83.getD 2 .junk)) fun v85 => ifA v85 (optA (fieldA ti111 (l83.getD 6 .junk) 8) fun v86 => optA (indexAddrA ti108 1 v86 (l83.getD 7 .junk)) fun v87 => stepK (stoA false 1 v87 (.d (.bool true)) H84) H84 fun v88 H89 => optA (intA .add (l83.getD 7 .junk) (.d (.int .i64 1))) fun v90 => X82 [l83.getD 0 .junk, l83.getD 1 .junk, l83.getD 2 .junk, l83.getD 3 .junk, l83.getD 4 .junk, l83.getD 5 .junk, l83.getD 6 .junk, v90] H89) (optA (nilCkA (l83.getD 0 .junk)) fun v91 => optA (fieldA ti105 v91 0) fun v92 => optA (ldV false 1 v92 H84) fun v93 => optA (intA .add v93 (.d (.int .i64 1))) fun v94 => optA (intA .rem v94 (.d (.int .i64 65536))) fun v95 => optA (nilCkA (l83.getD 0 .junk)) fun v96 => optA (fieldA ti105 v96 0) fun v97 => stepK (stoA false 1 v97 v95 H84) H84 fun v98 H99 => drA true (optA (nilCkA (l83.getD 0 .junk)) fun v100 => optA (fieldA ti105 v100 1) fun v101 => optA (ldV false 1 v101 H99) fun v102 => optA (ldV true 24 (l83.getD 6 .junk) H99) fun v103 => apart (rsOf v103) v101 ∧ (noRsA (aggL v103) (newK H99 (fun n106 => bsA ti111 1 [0] [v103] H99 n106) fun v104 H105 => newK H105 (fun n109 => apA 24 280 v102 v104 H105 n109) fun v107 H108 => optA (nilCkA (l83.getD 0 .junk)) fun v110 => optA (fieldA ti105 v110 1) fun v111 => noRsA (aggL v107) (stepK (stoA false 1 v111 v107 H108) H108 fun v112 H113 => drA true (optA (fieldA ti111 (l83.getD 6 .junk) 0) fun v114 => optA (ldV false 1 v114 H113) fun v115 => frzLK [l83.getD 6 .junk] H113 fun l118 H119 => γ 86 l118 H119 fun v116 H117 => kp v114 H113 H117 ∧ (noRsA (aggL v116) (stepK (stoA true 8 (l83.getD 5 .junk) v116 H117) H117 fun v120 H121 => optA (ldV true 8 (l83.getD 5 .junk) H121) fun v122 => retF [v115, v122, .d (.int .i64 0)] H121 K))))))))) [l46.getD 0 .junk, l46.getD 1 .junk, l46.getD 2 .junk, l46.getD 3 .junk, l46.getD 4 .junk, l46.getD 5 .junk, v77, .d (.int .i64 0)] H81)))))))))))) [a0, a1, a2, a3, a4, v1, .junk, .junk] H2))))))
noncomputable def r47_0 : List Oper := regOps Try.f47 0
noncomputable def r47_1 : List Oper := regOps Try.f47 1
noncomputable def r47_2 : List Oper := regOps Try.f47 2
noncomputable def r47_3 : List Oper := regOps Try.f47 3
noncomputable def r47_4 : List Oper := regOps Try.f47 4
noncomputable def r47_5 : List Oper := regOps Try.f47 5
noncomputable def r47_6 : List Oper := regOps Try.f47 6
noncomputable def r47_7 : List Oper := regOps Try.f47 7
noncomputable def r47_8 : List Oper := regOps Try.f47 8
noncomputable def r47_9 : List Oper := regOps Try.f47 9
noncomputable def r47_10 : List Oper := regOps Try.f47 10
noncomputable def r47_11 : List Oper := regOps Try.f47 11
noncomputable def r47_12 : List Oper := regOps Try.f47 12
noncomputable def r47_13 : List Oper := regOps Try.f47 13
noncomputable def r47_14 : List Oper := regOps Try.f47 14
noncomputable def c47 : Code := (.seq (.region 0 (opArr r47_0 3) false) (.seq (.block 0 (.seq (.region 1 (opArr r47_1 20) false) (.cond (.tmp 15) (.seq (.region 2 (opArr r47_2 4) false) .ret) (.seq (.region 3 (opArr r47_3 7) false) (.cond (.tmp 36) (.seq (.region 4 (opArr r47_4 4) false) .ret) .skip))))) (.seq (.block 1 (.loop (.seq (.seq (.region 5 (opArr r47_5 7) false) (.cond (.tmp 50) .skip (.exit 1))) (.block 2 (.region 6 (opArr r47_6 10) false))))) (.seq (.region 7 (opArr r47_7 14) true) (.seq (.seq (.region 8 (opArr r47_8 1) false) (.block 3 (.loop (.seq (.seq (.region 9 (opArr r47_9 3) false) (.cond (.tmp 74) .skip (.exit 3))) (.seq (.block 4 (.region 11 (opArr r47_10 4) false)) (.region 10 (opArr r47_11 3) false)))))) (.seq (.region 12 (opArr r47_12 10) false) (.seq (.region 13 (opArr r47_13 11) true) (.seq (.region 14 (opArr r47_14 6) true) .ret))))))))
theorem c47_eq : Try.f47.body = some c47 := by kernel_rfl
theorem S47_eq (γ : Calld) (a0 a1 a2 a3 a4 : AV) (H : AHeap) (K : AV → AHeap → Prop) : execC Try.prog γ pol47 Try.f47 c47 [a0, a1, a2, a3, a4] H K = S47 γ a0 a1 a2 a3 a4 H K := by kernel_rfl
theorem C47 {a0 a1 a2 a3 a4 : AV} {H : AHeap} {K : AV → AHeap → Prop} (h : S47 (CallsA Try.prog) a0 a1 a2 a3 a4 H K) : CallsA Try.prog 47 [a0, a1, a2, a3, a4] H K :=
 calls_of Try.func47 (ne_of_beq_false (by kernel_rfl)) c47_eq (by kernel_rfl) (by rw [S47_eq]; exact h)
def pol48 : Pol := { lend := fun _ => true, keep := [], frz := fun _ => [], perm := fun r => [], bf := fun r => [], ret := true }
def S48 (γ : Calld) (a0 a1 : AV) (H : AHeap) (K : AV → AHeap → Prop) : Prop :=
 newK H (fun n3 => boxA a1 n3) fun v1 H2 => optA (ldV true 8 v1 H2) fun v4 => frzLK [v4] H2 fun l7 H8 => γ 12 l7 H8 fun v5 H6 => optA (unA .not v5) fun v9 => ifA v9 (retF [.d (.sl true []), .d (.int .i64 2)] H6 K) (optA (fieldA ti24 v1 1) fun v10 => optA (ldV false 1 v10 H6) fun v11 => frzLK [a0, v11] H6 fun l14 H15 => γ 85 l14 H15 fun v12 H13 => optA (fieldA ti24 v1 0) fun v16 => optA (ldV false 1 v16 H13) fun v17 => optA (intA .neq v17 (.d (.int .i64 1))) fun v18 => ifA v18 (retF [.d (.sl true []), .d (.int .i64 0)] H13 K) (optA (intA .lss v12 (.d (.int .i64 0))) fun v19 => ifA v19 (retF [.d (.sl true []), .d (.int .i64 0)] H13 K) (optA (nilCkA a0) fun v20 => optA (fieldA ti105 v20 1) fun v21 => optA (ldV false 1 v21 H13) fun v22 => optA (indexAddrA ti103 24 v22 v12) fun v23 => optA (fieldA ti111 v23 1) fun v24 => optA (ldV false 1 v24 H13) fun v25 => optA (intA .eql v25 (.d (.int .i64 3))) fun v26 => ifA v26 (retF [.d (.sl true []), .d (.int .i64 0)] H13 K) (optA (nilCkA a0) fun v27 => optA (fieldA ti105 v27 1) fun v28 => optA (ldV false 1 v28 H13) fun v29 => optA (indexAddrA ti103 24 v29 v12) fun v30 => optA (nilCkA v30) fun v31 => optA (fieldA ti111 v31 1) fun v32 => optA (ldV false 1 v32 H13) fun v33 => optA (intA .eql v33 (.d (.int .i64 1))) fun v34 => ifA v34 (optA (ldV true 8 v1 H13) fun v35 => frzLK [v30, v35] H13 fun l38 H39 => γ 87 l38 H39 fun v36 H37 => ifA v36 (optA (nilCkA v30) fun v40 => optA (fieldA ti111 v40 1) fun v41 => stepK (stoA false 1 v41 (.d (.int .i64 2)) H37) H37 fun v42 H43 => optA (nilCkA v30) fun v44 => optA (fieldA ti111 v44 1) fun v45 => optA (ldV false 1 v45 H43) fun v46 => optA (intA .eql v46 (.d (.int .i64 2))) fun v47 => ifA v47 (optA (nilCkA v30) fun v48 => optA (fieldA ti111 v48 3) fun v49 => optA (ldV false 1 v49 H43) fun v50 => ifA v50 (optA (nilCkA v30) fun v51 => optA (fieldA ti111 v51 0) fun v52 => optA (ldV false 1 v52 H43) fun v53 => stepK (bdA Try.prog ti24 [0, 1] [.d (.int .i64 2), v53] H43) H43 fun v54 H55 => newK H55 (fun n58 => bsA ti24 1 [0] [v54] H55 n58) fun v56 H57 => retF [v56, .d (.int .i64 0)] H57 K) (optA (nilCkA v30) fun v59 => optA (fieldA ti111 v59 1) fun v60 => optA (ldV false 1 v60 H43) fun v61 => optA (intA .eql v61 (.d (.int .i64 1))) fun v62 => ifA v62 (optA (fieldA ti24 v1 6) fun v63 => optA (ldV false 1 v63 H43) fun v64 => ifA v64 (frzLK [v30] H43 fun l67 H68 => γ 88 l67 H68 fun v65 H66 => retF [v65, .d (.int .i64 0)] H66 K) (retF [.d (.sl true []), .d (.int .i64 0)] H43 K)) (retF [.d (.sl true []), .d (.int .i64 0)] H43 K))) (optA (nilCkA v30) fun v69 => optA (fieldA ti111 v69 1) fun v70 => optA (ldV false 1 v70 H43) fun v71 => optA (intA .eql v71 (.d (.int .i64 1))) fun v72 => ifA v72 (optA (fieldA ti24 v1 6) fun v73 => optA (ldV false 1 v73 H43) fun v74 => ifA v74 (frzLK [v30] H43 fun l77 H78 => γ 88 l77 H78 fun v75 H76 => retF [v75, .d (.int .i64 0)] H76 K) (retF [.d (.sl true []), .d (.int .i64 0)] H43 K)) (retF [.d (.sl true []), .d (.int .i64 0)] H43 K))) (optA (nilCkA v30) fun v79 => optA (fieldA ti111 v79 1) fun v80 => optA (ldV false 1 v80 H37) fun v81 => optA (intA .eql v81 (.d (.int .i64 2))) fun v82 => ifA v82 (optA (nilCkA v30) fun v83 => optA (fieldA ti111 v83 3) fun v84 => optA (ldV false 1 v84 H37) fun v85 => ifA v85 (optA (nilCkA v30) fun v86 => optA (fieldA ti111 v86 0) fun v87 => optA (ldV false 1 v87 H37) fun v88 => stepK (bdA Try.prog ti24 [0, 1] [.d (.int .i64 2), v88] H37) H37 fun v89 H90 => newK H90 (fun n93 => bsA ti24 1 [0] [v89] H90 n93) fun v91 H92 => retF [v91, .d (.int .i64 0)] H92 K) (optA (nilCkA v30) fun v94 => optA (fieldA ti111 v94 1) fun v95 => optA (ldV false 1 v95 H37) fun v96 => optA (intA .eql v96 (.d (.int .i64 1))) fun v97 => ifA v97 (optA (fieldA ti24 v1 6) fun v98 => optA (ldV false 1 v98 H37) fun v99 => ifA v99 (frzLK [v30] H37 fun l102 H103 => γ 88 l102 H103 fun v100 H101 => retF [v100, .d (.int .i64 0)] H101 K) (retF [.d (.sl true []), .d (.int .i64 0)] H37 K)) (retF [.d (.sl true []), .d (.int .i64 0)] H37 K))) (optA (nilCkA v30) fun v104 => optA (fieldA ti111 v104 1) fun v105 => optA (ldV false 1 v105 H37) fun v106 => optA (intA .eql v106 (.d (.int .i64 1))) fun v107 => ifA v107 (optA (fieldA ti24 v1 6) fun v108 => optA (ldV false 1 v108 H37) fun v109 => ifA v109 (frzLK [v30] H37 fun l112 H113 => γ 88 l112 H113 fun v110 H111 => retF [v110, .d (.int .i64 0)] H111 K) (retF [.d (.sl true []), .d (.int .i64 0)] H37 K)) (retF [.d (.sl true []), .d (.int .i64 0)] H37 K)))) (optA (nilCkA v30) fun v114 => optA (fieldA ti111 v114 1) fun v115 => optA (ldV false 1 v115 H13) fun v116 => optA (intA .eql v116 (.d (.int .i64 2))) fun v117 => ifA v117 (optA (nilCkA v30) fun v118 => optA (fieldA ti111 v118 3) fun v119 => optA (ldV false 1 v119 H13) fun v120 => ifA v120 (optA (nilCkA v30) fun v121 => optA (fieldA ti111 v121 0) fun v122 => optA (ldV false 1 v122 H13) fun v123 => stepK (bdA Try.prog ti24 [0, 1] [.d (.int .i64 2), v123] H13) H13 fun v124 H125 => newK H125 (fun n128 => bsA ti24 1 [0] [v124] H125 n128) fun v126 H127 => retF [v126, .d (.int .i64 0)] H127 K) (optA (nilCkA v30) fun v129 => optA (fieldA ti111 v129 1) fun v130 => optA (ldV false 1 v130 H13) fun v131 => optA (intA .eql v131 (.d (.int .i64 1))) fun v132 => ifA v132 (optA (fieldA ti24 v1 6) fun v133 => optA (ldV false 1 v133 H13) fun v134 => ifA v134 (frzLK [v30] H13 fun l137 H138 => γ 88 l137 H138 fun v135 H136 => retF [v135, .d (.int .i64 0)] H136 K) (retF [.d (.sl true []), .d (.int .i64 0)] H13 K)) (retF [.d (.sl true []), .d (.int .i64 0)] H13 K))) (optA (nilCkA v30) fun v139 => optA (fieldA ti111 v139 1) fun v140 => optA (ldV false 1 v140 H13) fun v141 => optA (intA .eql v141 (.d (.int .i64 1))) fun v142 => ifA v142 (optA (fieldA ti24 v1 6) fun v143 => optA (ldV false 1 v143 H13) fun v144 => ifA v144 (frzLK [v30] H13 fun l147 H148 => γ 88 l147 H148 fun v145 H146 => retF [v145, .d (.int .i64 0)] H146 K) (retF [.d (.sl true []), .d (.int .i64 0)] H13 K)) (retF [.d (.sl true []), .d (.int .i64 0)] H13 K)))))))
noncomputable def r48_0 : List Oper := regOps Try.f48 0
noncomputable def r48_1 : List Oper := regOps Try.f48 1
noncomputable def r48_2 : List Oper := regOps Try.f48 2
noncomputable def r48_3 : List Oper := regOps Try.f48 3
noncomputable def r48_4 : List Oper := regOps Try.f48 4
noncomputable def r48_5 : List Oper := regOps Try.f48 5
noncomputable def r48_6 : List Oper := regOps Try.f48 6
noncomputable def r48_7 : List Oper := regOps Try.f48 7
noncomputable def r48_8 : List Oper := regOps Try.f48 8
noncomputable def r48_9 : List Oper := regOps Try.f48 9
noncomputable def r48_10 : List Oper := regOps Try.f48 10
noncomputable def r48_11 : List Oper := regOps Try.f48 11
noncomputable def r48_12 : List Oper := regOps Try.f48 12
noncomputable def r48_13 : List Oper := regOps Try.f48 13
noncomputable def c48 : Code := (.seq (.region 0 (opArr r48_0 3) false) (.seq (.seq (.region 1 (opArr r48_1 3) false) (.cond (.tmp 10) (.seq (.region 2 (opArr r48_2 2) false) .ret) .skip)) (.seq (.region 3 (opArr r48_3 5) false) (.seq (.seq (.region 4 (opArr r48_4 18) false) (.cond (.tmp 32) (.seq (.region 5 (opArr r48_5 2) false) .ret) .skip)) (.seq (.region 6 (opArr r48_6 7) false) (.seq (.seq (.region 7 (opArr r48_7 10) false) (.cond (.tmp 48) (.region 8 (opArr r48_8 4) false) .skip)) (.seq (.block 0 (.seq (.region 9 (opArr r48_9 12) false) (.cond (.tmp 52) (.seq (.region 10 (opArr r48_10 8) false) .ret) (.seq (.region 11 (opArr r48_11 10) false) (.cond (.tmp 70) (.seq (.region 12 (opArr r48_12 4) false) .ret) .skip))))) (.seq (.region 13 (opArr r48_13 2) false) .ret))))))))
theorem c48_eq : Try.f48.body = some c48 := by kernel_rfl
theorem S48_eq (γ : Calld) (a0 a1 : AV) (H : AHeap) (K : AV → AHeap → Prop) : execC Try.prog γ pol48 Try.f48 c48 [a0, a1] H K = S48 γ a0 a1 H K := by kernel_rfl
theorem C48 {a0 a1 : AV} {H : AHeap} {K : AV → AHeap → Prop} (h : S48 (CallsA Try.prog) a0 a1 H K) : CallsA Try.prog 48 [a0, a1] H K :=
 calls_of Try.func48 (ne_of_beq_false (by kernel_rfl)) c48_eq (by kernel_rfl) (by rw [S48_eq]; exact h)
def pol49 : Pol := { lend := fun _ => true, keep := [0, 1, 5], frz := fun _ => [], perm := fun r => if r = 6 then [0, 1, 2, 3, 4, 5, 6, 7, 8, 9] else [], bf := fun r => if r = 6 then [0, 0, 3, 7, 0, 0, 48, 112, 255, 511] else [], ret := true, eff := fun r => ([6] : List Nat).contains r }
def S49 (γ : Calld) (a0 a1 : AV) (H : AHeap) (K : AV → AHeap → Prop) : Prop :=
 optA (lenSl a0) fun v1 => optA (lenSl a1) fun v2 => optA (intA .neq v1 v2) fun v3 => ifA v3 (retF [.d (.bool false)] H K) (loopA (fun X4 l5 H6 => optA (lenSl (l5.getD 0 .junk)) fun v7 => optA (intA .lss (l5.getD 2 .junk) v7) fun v8 => ifA v8 (drA true (optA (indexAddrA ti60 8 (l5.getD 0 .junk) (l5.getD 2 .junk)) fun v9 => optA (ldV true 8 v9 H6) fun v10 => optA (indexAddrA ti60 8 (l5.getD 1 .junk) (l5.getD 2 .junk)) fun v11 => optA (ldV true 8 v11 H6) fun v12 => frzLK [v10, v12] H6 fun l15 H16 => γ 34 l15 H16 fun v13 H14 => optA (unA .not v13) fun v17 => ifA v17 (retF [.d (.bool false)] H14 K) (optA (intA .add (l5.getD 2 .junk) (.d (.int .i64 1))) fun v18 => X4 [l5.getD 0 .junk, l5.getD 1 .junk, v18] H14))) (retF [.d (.bool true)] H6 K)) [a0, a1, .d (.int .i64 0)] H)
noncomputable def r49_0 : List Oper := regOps Try.f49 0
noncomputable def r49_1 : List Oper := regOps Try.f49 1
noncomputable def r49_2 : List Oper := regOps Try.f49 2
noncomputable def r49_3 : List Oper := regOps Try.f49 3
noncomputable def r49_4 : List Oper := regOps Try.f49 4
noncomputable def r49_5 : List Oper := regOps Try.f49 5
noncomputable def r49_6 : List Oper := regOps Try.f49 6
noncomputable def r49_7 : List Oper := regOps Try.f49 7
noncomputable def r49_8 : List Oper := regOps Try.f49 8
noncomputable def c49 : Code := (.seq (.region 0 (opArr r49_0 1) false) (.seq (.seq (.region 1 (opArr r49_1 5) false) (.cond (.tmp 10) (.seq (.region 2 (opArr r49_2 1) false) .ret) .skip)) (.seq (.seq (.region 3 (opArr r49_3 1) false) (.block 0 (.loop (.seq (.seq (.region 4 (opArr r49_4 4) false) (.cond (.tmp 14) .skip (.exit 0))) (.seq (.block 1 (.seq (.region 6 (opArr r49_5 10) true) (.cond (.tmp 26) (.seq (.region 7 (opArr r49_6 1) false) .ret) .skip))) (.region 5 (opArr r49_7 3) false)))))) (.seq (.region 8 (opArr r49_8 1) false) .ret))))
theorem c49_eq : Try.f49.body = some c49 := by kernel_rfl
theorem S49_eq (γ : Calld) (a0 a1 : AV) (H : AHeap) (K : AV → AHeap → Prop) : execC Try.prog γ pol49 Try.f49 c49 [a0, a1] H K = S49 γ a0 a1 H K := by kernel_rfl
theorem C49 {a0 a1 : AV} {H : AHeap} {K : AV → AHeap → Prop} (h : S49 (CallsA Try.prog) a0 a1 H K) : CallsA Try.prog 49 [a0, a1] H K :=
 calls_of Try.func49 (ne_of_beq_false (by kernel_rfl)) c49_eq (by kernel_rfl) (by rw [S49_eq]; exact h)
def pol50 : Pol := { lend := fun _ => true, keep := [0, 1, 5, 6], frz := fun _ => [], perm := fun r => [], bf := fun r => [], ret := true }
def S50 (γ : Calld) (a0 a1 : AV) (H : AHeap) (K : AV → AHeap → Prop) : Prop :=
 frzLK [a0, a1] H fun l3 H4 => γ 53 l3 H4 fun v1 H2 => optA (intA .lss v1 (.d (.int .i64 2))) fun v5 => ifA v5 (retF [.d (.int .i64 5)] H2 K) (loopA (fun X6 l7 H8 => optA (nilCkA (l7.getD 0 .junk)) fun v9 => optA (fieldA ti105 v9 1) fun v10 => optA (ldV false 1 v10 H8) fun v11 => optA (lenSl v11) fun v12 => optA (intA .lss (l7.getD 3 .junk) v12) fun v13 => ifA v13 (optA (nilCkA (l7.getD 0 .junk)) fun v14 => optA (fieldA ti105 v14 1) fun v15 => optA (ldV false 1 v15 H8) fun v16 => optA (indexAddrA ti103 24 v16 (l7.getD 3 .junk)) fun v17 => optA (fieldA ti111 v17 0) fun v18 => optA (ldV false 1 v18 H8) fun v19 => optA (intA .neq v19 (l7.getD 1 .junk)) fun v20 => ifA v20 (optA (nilCkA (l7.getD 0 .junk)) fun v21 => optA (fieldA ti105 v21 1) fun v22 => optA (ldV false 1 v22 H8) fun v23 => optA (indexAddrA ti103 24 v23 (l7.getD 3 .junk)) fun v24 => optA (ldV true 24 v24 H8) fun v25 => newK H8 (fun n28 => bsA ti111 1 [0] [v25] H8 n28) fun v26 H27 => newK H27 (fun n31 => apA 24 280 (l7.getD 2 .junk) v26 H27 n31) fun v29 H30 => optA (intA .add (l7.getD 3 .junk) (.d (.int .i64 1))) fun v32 => X6 [l7.getD 0 .junk, l7.getD 1 .junk, v29, v32] H30) (optA (intA .add (l7.getD 3 .junk) (.d (.int .i64 1))) fun v33 => X6 [l7.getD 0 .junk, l7.getD 1 .junk, l7.getD 2 .junk, v33] H8)) (optA (nilCkA (l7.getD 0 .junk)) fun v34 => optA (fieldA ti105 v34 1) fun v35 => stepK (stoA false 1 v35 (l7.getD 2 .junk) H8) H8 fun v36 H37 => retF [.d (.int .i64 0)] H37 K)) [a0, a1, .d (.sl true []), .d (.int .i64 0)] H2)
noncomputable def r50_0 : List Oper := regOps Try.f50 0
noncomputable def r50_1 : List Oper := regOps Try.f50 1
noncomputable def r50_2 : List Oper := regOps Try.f50 2
noncomputable def r50_3 : List Oper := regOps Try.f50 3
noncomputable def r50_4 : List Oper := regOps Try.f50 4
noncomputable def r50_5 : List Oper := regOps Try.f50 5
noncomputable def r50_6 : List Oper := regOps Try.f50 6
noncomputable def r50_7 : List Oper := regOps Try.f50 7
noncomputable def r50_8 : List Oper := regOps Try.f50 8
noncomputable def r50_9 : List Oper := regOps Try.f50 9
noncomputable def r50_10 : List Oper := regOps Try.f50 10
noncomputable def c50 : Code := (.seq (.region 0 (opArr r50_0 1) false) (.seq (.seq (.region 1 (opArr r50_1 4) false) (.cond (.tmp 10) (.seq (.region 2 (opArr r50_2 1) false) .ret) .skip)) (.seq (.region 3 (opArr r50_3 1) false) (.seq (.seq (.region 4 (opArr r50_4 1) false) (.block 0 (.loop (.seq (.seq (.region 5 (opArr r50_5 7) false) (.cond (.tmp 17) .skip (.exit 0))) (.seq (.block 1 (.seq (.region 7 (opArr r50_6 10) false) (.cond (.tmp 29) (.region 8 (opArr r50_7 11) false) .skip))) (.region 6 (opArr r50_8 3) false)))))) (.seq (.region 9 (opArr r50_9 5) false) (.seq (.region 10 (opArr r50_10 1) false) .ret))))))
theorem c50_eq : Try.f50.body = some c50 := by kernel_rfl
theorem S50_eq (γ : Calld) (a0 a1 : AV) (H : AHeap) (K : AV → AHeap → Prop) : execC Try.prog γ pol50 Try.f50 c50 [a0, a1] H K = S50 γ a0 a1 H K := by kernel_rfl
theorem C50 {a0 a1 : AV} {H : AHeap} {K : AV → AHeap → Prop} (h : S50 (CallsA Try.prog) a0 a1 H K) : CallsA Try.prog 50 [a0, a1] H K :=
 calls_of Try.func50 (ne_of_beq_false (by kernel_rfl)) c50_eq (by kernel_rfl) (by rw [S50_eq]; exact h)
def pol51 : Pol := { lend := fun _ => true, keep := [0, 3, 4], frz := fun _ => [], perm := fun r => if r = 10 then [0, 1, 2, 3, 4, 5, 6, 7, 8, 9, 10, 11, 12, 13, 14, 15] else [], bf := fun r => if r = 10 then [0, 1, 3, 7, 15, 31, 63, 127, 255, 511, 63, 1087, 3135, 7231, 16383, 32767] else [], ret := true }
def S51 (γ : Calld) (a0 : AV) (H : AHeap) (K : AV → AHeap → Prop) : Prop :=
 loopA (fun X1 l2 H3 => frzLK [l2.getD 0 .junk, l2.getD 2 .junk] H3 fun l6 H7 => γ 89 l6 H7 fun v4 H5 => optA (intA .lss v4 (.d (.int .i64 0))) fun v8 => ifA v8 (retF [l2.getD 1 .junk] H5 K) (optA (nilCkA (l2.getD 0 .junk)) fun v9 => optA (fieldA ti105 v9 1) fun v10 => optA (ldV false 1 v10 H5) fun v11 => optA (indexAddrA ti103 24 v11 v4) fun v12 => optA (nilCkA v12) fun v13 => optA (fieldA ti111 v13 0) fun v14 => optA (ldV false 1 v14 H5) fun v15 => optA (nilCkA v12) fun v16 => optA (fieldA ti111 v16 1) fun v17 => optA (ldV false 1 v17 H5) fun v18 => optA (intA .neq v18 (.d (.int .i64 1))) fun v19 => ifA v19 (X1 [l2.getD 0 .junk, l2.getD 1 .junk, v15] H5) (optA (nilCkA v12) fun v20 => optA (fieldA ti111 v20 6) fun v21 => optA (ldV false 1 v21 H5) fun v22 => optA (intA .add v22 (.d (.int .i64 1))) fun v23 => optA (nilCkA v12) fun v24 => optA (fieldA ti111 v24 6) fun v25 => stepK (stoA false 1 v25 v23 H5) H5 fun v26 H27 => drA true (optA (nilCkA v12) fun v28 => optA (fieldA ti111 v28 6) fun v29 => optA (ldV false 1 v29 H27) fun v30 => optA (intA .eql v30 (.d (.int .i64 3))) fun v31 => ifA v31 (optA (nilCkA v12) fun v32 => optA (fieldA ti111 v32 5) fun v33 => optA (ldV false 1 v33 H27) fun v34 => optA (nilCkA v12) fun v35 => optA (fieldA ti111 v35 4) fun v36 => optA (ldV false 1 v36 H27) fun v37 => optA (intA .geq v34 v37) fun v38 => ifA v38 (optA (nilCkA v12) fun v39 => optA (fieldA ti111 v39 1) fun v40 => stepK (stoA false 1 v40 (.d (.int .i64 3)) H27) H27 fun v41 H42 => X1 [l2.getD 0 .junk, l2.getD 1 .junk, v15] H42) (optA (nilCkA v12) fun v43 => optA (fieldA ti111 v43 6) fun v44 => optA (ldV false 1 v44 H27) fun v45 => optA (intA .eql v45 (.d (.int .i64 3))) fun v46 => ifA v46 (frzLK [v12] H27 fun l49 H50 => γ 88 l49 H50 fun v47 H48 => newK H48 (fun n53 => apA 8 64 (l2.getD 1 .junk) v47 H48 n53) fun v51 H52 => X1 [l2.getD 0 .junk, v51, v15] H52) (X1 [l2.getD 0 .junk, l2.getD 1 .junk, v15] H27))) (optA (nilCkA v12) fun v54 => optA (fieldA ti111 v54 6) fun v55 => optA (ldV false 1 v55 H27) fun v56 => optA (intA .eql v56 (.d (.int .i64 3))) fun v57 => ifA v57 (frzLK [v12] H27 fun l60 H61 => γ 88 l60 H61 fun v58 H59 => newK H59 (fun n64 => apA 8 64 (l2.getD 1 .junk) v58 H59 n64) fun v62 H63 => X1 [l2.getD 0 .junk, v62, v15] H63) (X1 [l2.getD 0 .junk, l2.getD 1 .junk, v15] H27)))))) [a0, .d (.sl true []), .d (.int .i64 (-1))] H
noncomputable def r51_0 : List Oper := regOps Try.f51 0
noncomputable def r51_1 : List Oper := regOps Try.f51 1
noncomputable def r51_2 : List Oper := regOps Try.f51 2
noncomputable def r51_3 : List Oper := regOps Try.f51 3
noncomputable def r51_4 : List Oper := regOps Try.f51 4
noncomputable def r51_5 : List Oper := regOps Try.f51 5
noncomputable def r51_6 : List Oper := regOps Try.f51 6
noncomputable def r51_7 : List Oper := regOps Try.f51 7
noncomputable def r51_8 : List Oper := regOps Try.f51 8
noncomputable def r51_9 : List Oper := regOps Try.f51 9
noncomputable def r51_10 : List Oper := regOps Try.f51 10
noncomputable def r51_11 : List Oper := regOps Try.f51 11
noncomputable def r51_12 : List Oper := regOps Try.f51 12
noncomputable def r51_13 : List Oper := regOps Try.f51 13
noncomputable def c51 : Code := (.seq (.region 0 (opArr r51_0 1) false) (.seq (.region 1 (opArr r51_1 1) false) (.seq (.region 2 (opArr r51_2 1) false) (.block 0 (.loop (.block 1 (.seq (.region 3 (opArr r51_3 4) false) (.seq (.seq (.region 4 (opArr r51_4 2) false) (.cond (.tmp 11) (.seq (.region 5 (opArr r51_5 2) false) .ret) .skip)) (.seq (.region 6 (opArr r51_6 7) false) (.seq (.region 7 (opArr r51_7 5) false) (.seq (.seq (.region 8 (opArr r51_8 5) false) (.cond (.tmp 27) (.exit 1) .skip)) (.seq (.region 9 (opArr r51_9 8) false) (.seq (.region 10 (opArr r51_10 16) true) (.cond (.tmp 50) (.region 11 (opArr r51_11 4) false) (.seq (.region 12 (opArr r51_12 5) false) (.cond (.tmp 58) (.region 13 (opArr r51_13 5) false) .skip))))))))))))))))
theorem c51_eq : Try.f51.body = some c51 := by kernel_rfl
theorem S51_eq (γ : Calld) (a0 : AV) (H : AHeap) (K : AV → AHeap → Prop) : execC Try.prog γ pol51 Try.f51 c51 [a0] H K = S51 γ a0 H K := by kernel_rfl
theorem C51 {a0 : AV} {H : AHeap} {K : AV → AHeap → Prop} (h : S51 (CallsA Try.prog) a0 H K) : CallsA Try.prog 51 [a0] H K :=
 calls_of Try.func51 (ne_of_beq_false (by kernel_rfl)) c51_eq (by kernel_rfl) (by rw [S51_eq]; exact h)
def pol52 : Pol := { lend := fun _ => true, keep := [6, 7, 8], frz := fun _ => [], perm := fun r => if r = 3 then [0, 1, 2, 3, 4, 5, 6, 7, 8, 9, 10] else [], bf := fun r => if r = 3 then [0, 1, 3, 7, 0, 0, 48, 127, 255, 0, 1023] else [], ret := true }
def S52 (γ : Calld) (a0 a1 : AV) (H : AHeap) (K : AV → AHeap → Prop) : Prop :=
 frzLK [a0, a1] H fun l3 H4 => γ 53 l3 H4 fun v1 H2 => optA (intA .neq v1 (.d (.int .i64 2))) fun v5 => ifA v5 (retF [.d (.sl true []), .d (.int .i64 5)] H2 K) (drA true (optA (nilCkA a0) fun v6 => optA (fieldA ti105 v6 1) fun v7 => optA (ldV false 1 v7 H2) fun v8 => apart (rsOf a0) v7 ∧ (apart (rsOf a1) v7 ∧ (noRsA (aggL a0) (noRsA (aggL a1) (frzLK [a0, a1] H2 fun l10 H12 => ∃ r11, γ 85 l10 H12 (fun v H2 => v = r11 ∧ AHeap.le H12 H2) ∧ (optA (indexAddrA ti103 24 v8 r11) fun v13 => optA (ldV true 24 v13 H12) fun v14 => newK H12 (fun n17 => some (.ptr n17 0 0 0, [(n17, .mem 0 0 24 [[.d (.int .i64 0), .d (.int .i64 0), .d (.sl true []), .d (.bool false), .d (.int .i64 0), .d (.int .i64 0), .d (.int .i64 0), .d (.int .i64 0), .d (.bool false), .d (.bool false), .d (.bool false), .d (.bool false), .d (.bool false), .d (.bool false), .d (.bool false), .d (.bool false), .d (.sl true []), .d (.sl true []), .d (.sl true []), .d (.sl true []), .d (.sl true []), .d (.sl true []), .d (.sl true []), .d (.sl true [])]])])) fun v15 H16 => noRsA (aggL v14) (stepK (stoA true 24 v15 v14 H16) H16 fun v18 H19 => loopA (fun X20 l21 H22 => optA (fieldA ti111 (l21.getD 0 .junk) 7) fun v23 => optA (ldV false 1 v23 H22) fun v24 => optA (intA .leq (l21.getD 2 .junk) v24) fun v25 => ifA v25 (newK H22 (fun n28 => bsA ti5 0 [] [] H22 n28) fun v26 H27 => optA (fieldA ti111 (l21.getD 0 .junk) 9) fun v29 => optA (indexAddrA ti109 1 v29 (l21.getD 2 .junk)) fun v30 => optA (ldV false 1 v30 H27) fun v31 => newK H27 (fun n34 => apA 1 1 v26 v31 H27 n34) fun v32 H33 => newK H33 (fun n37 => bsA ti22 1 [0] [v32] H33 n37) fun v35 H36 => newK H36 (fun n40 => apA 1 24 (l21.getD 1 .junk) v35 H36 n40) fun v38 H39 => optA (intA .add (l21.getD 2 .junk) (.d (.int .i64 1))) fun v41 => X20 [l21.getD 0 .junk, v38, v41] H39) (retF [l21.getD 1 .junk, .d (.int .i64 0)] H22 K)) [v15, .d (.sl true []), .d (.int .i64 0)] H19))))))))
noncomputable def r52_0 : List Oper := regOps Try.f52 0
noncomputable def r52_1 : List Oper := regOps Try.f52 1
noncomputable def r52_2 : List Oper := regOps Try.f52 2
noncomputable def r52_3 : List Oper := regOps Try.f52 3
noncomputable def r52_4 : List Oper := regOps Try.f52 4
noncomputable def r52_5 : List Oper := regOps Try.f52 5
noncomputable def r52_6 : List Oper := regOps Try.f52 6
noncomputable def r52_7 : List Oper := regOps Try.f52 7
noncomputable def r52_8 : List Oper := regOps Try.f52 8
noncomputable def r52_9 : List Oper := regOps Try.f52 9
noncomputable def c52 : Code := (.seq (.region 0 (opArr r52_0 2) false) (.seq (.seq (.region 1 (opArr r52_1 4) false) (.cond (.tmp 12) (.seq (.region 2 (opArr r52_2 2) false) .ret) .skip)) (.seq (.region 3 (opArr r52_3 11) true) (.seq (.region 4 (opArr r52_4 1) false) (.seq (.seq (.region 5 (opArr r52_5 1) false) (.block 0 (.loop (.seq (.seq (.region 6 (opArr r52_6 4) false) (.cond (.tmp 25) .skip (.exit 0))) (.seq (.block 1 (.region 8 (opArr r52_7 10) false)) (.region 7 (opArr r52_8 3) false)))))) (.seq (.region 9 (opArr r52_9 3) false) .ret))))))
theorem c52_eq : Try.f52.body = some c52 := by kernel_rfl
theorem S52_eq (γ : Calld) (a0 a1 : AV) (H : AHeap) (K : AV → AHeap → Prop) : execC Try.prog γ pol52 Try.f52 c52 [a0, a1] H K = S52 γ a0 a1 H K := by kernel_rfl
theorem C52 {a0 a1 : AV} {H : AHeap} {K : AV → AHeap → Prop} (h : S52 (CallsA Try.prog) a0 a1 H K) : CallsA Try.prog 52 [a0, a1] H K :=
 calls_of Try.func52 (ne_of_beq_false (by kernel_rfl)) c52_eq (by kernel_rfl) (by rw [S52_eq]; exact h)
def pol53 : Pol := { lend := fun _ => true, keep := [], frz := fun _ => [], perm := fun r => [], bf := fun r => [], ret := true }
def S53 (γ : Calld) (a0 a1 : AV) (H : AHeap) (K : AV → AHeap → Prop) : Prop :=
 frzLK [a0, a1] H fun l3 H4 => γ 85 l3 H4 fun v1 H2 => optA (intA .geq v1 (.d (.int .i64 0))) fun v5 => ifA v5 (optA (nilCkA a0) fun v6 => optA (fieldA ti105 v6 1) fun v7 => optA (ldV false 1 v7 H2) fun v8 => optA (indexAddrA ti103 24 v8 v1) fun v9 => optA (fieldA ti111 v9 1) fun v10 => optA (ldV false 1 v10 H2) fun v11 => retF [v11] H2 K) (retF [.d (.int .i64 0)] H2 K)
noncomputable def r53_0 : List Oper := regOps Try.f53 0
noncomputable def r53_1 : List Oper := regOps Try.f53 1
noncomputable def r53_2 : List Oper := regOps Try.f53 2
noncomputable def r53_3 : List Oper := regOps Try.f53 3
noncomputable def r53_4 : List Oper := regOps Try.f53 4
noncomputable def c53 : Code := (.seq (.region 0 (opArr r53_0 1) false) (.seq (.seq (.region 1 (opArr r53_1 4) false) (.seq (.region 2 (opArr r53_2 2) false) (.cond (.tmp 10) (.seq (.region 3 (opArr r53_3 9) false) .ret) .skip))) (.seq (.region 4 (opArr r53_4 1) false) .ret)))
theorem c53_eq : Try.f53.body = some c53 := by kernel_rfl
theorem S53_eq (γ : Calld) (a0 a1 : AV) (H : AHeap) (K : AV → AHeap → Prop) : execC Try.prog γ pol53 Try.f53 c53 [a0, a1] H K = S53 γ a0 a1 H K := by kernel_rfl
theorem C53 {a0 a1 : AV} {H : AHeap} {K : AV → AHeap → Prop} (h : S53 (CallsA Try.prog) a0 a1 H K) : CallsA Try.prog 53 [a0, a1] H K :=
 calls_of Try.func53 (ne_of_beq_false (by kernel_rfl)) c53_eq (by kernel_rfl) (by rw [S53_eq]; exact h)
def pol54 : Pol := { lend := fun _ => true, keep := [0, 1, 5], frz := fun _ => [], perm := fun r => if r = 6 then [0, 1, 2, 3, 4, 5, 6, 7, 8, 9, 10] else [], bf := fun r => if r = 6 then [0, 0, 3, 7, 15, 0, 0, 96, 224, 480, 1023] else [], ret := true }
def S54 (γ : Calld) (a0 a1 : AV) (H : AHeap) (K : AV → AHeap → Prop) : Prop :=
 optA (lenSl a0) fun v1 => optA (lenSl a1) fun v2 => optA (intA .neq v1 v2) fun v3 => ifA v3 (retF [.d (.bool false)] H K) (loopA (fun X4 l5 H6 => optA (lenSl (l5.getD 0 .junk)) fun v7 => optA (intA .lss (l5.getD 2 .junk) v7) fun v8 => ifA v8 (drA true (optA (indexAddrA ti51 1 (l5.getD 0 .junk) (l5.getD 2 .junk)) fun v9 => optA (ldV false 1 v9 H6) fun v10 => optA (cvBS v10 H6) fun v11 => optA (indexAddrA ti51 1 (l5.getD 1 .junk) (l5.getD 2 .junk)) fun v12 => optA (ldV false 1 v12 H6) fun v13 => optA (cvBS v13 H6) fun v14 => optA (strA .neq v11 v14) fun v15 => ifA v15 (retF [.d (.bool false)] H6 K) (optA (intA .add (l5.getD 2 .junk) (.d (.int .i64 1))) fun v16 => X4 [l5.getD 0 .junk, l5.getD 1 .junk, v16] H6))) (retF [.d (.bool true)] H6 K)) [a0, a1, .d (.int .i64 0)] H)
noncomputable def r54_0 : List Oper := regOps Try.f54 0
noncomputable def r54_1 : List Oper := regOps Try.f54 1
noncomputable def r54_2 : List Oper := regOps Try.f54 2
noncomputable def r54_3 : List Oper := regOps Try.f54 3
noncomputable def r54_4 : List Oper := regOps Try.f54 4
noncomputable def r54_5 : List Oper := regOps Try.f54 5
noncomputable def r54_6 : List Oper := regOps Try.f54 6
noncomputable def r54_7 : List Oper := regOps Try.f54 7
noncomputable def r54_8 : List Oper := regOps Try.f54 8
noncomputable def c54 : Code := (.seq (.region 0 (opArr r54_0 1) false) (.seq (.seq (.region 1 (opArr r54_1 5) false) (.cond (.tmp 10) (.seq (.region 2 (opArr r54_2 1) false) .ret) .skip)) (.seq (.seq (.region 3 (opArr r54_3 1) false) (.block 0 (.loop (.seq (.seq (.region 4 (opArr r54_4 4) false) (.cond (.tmp 14) .skip (.exit 0))) (.seq (.block 1 (.seq (.region 6 (opArr r54_5 11) true) (.cond (.tmp 27) (.seq (.region 7 (opArr r54_6 1) false) .ret) .skip))) (.region 5 (opArr r54_7 3) false)))))) (.seq (.region 8 (opArr r54_8 1) false) .ret))))
theorem c54_eq : Try.f54.body = some c54 := by kernel_rfl
theorem S54_eq (γ : Calld) (a0 a1 : AV) (H : AHeap) (K : AV → AHeap → Prop) : execC Try.prog γ pol54 Try.f54 c54 [a0, a1] H K = S54 γ a0 a1 H K := by kernel_rfl
theorem C54 {a0 a1 : AV} {H : AHeap} {K : AV → AHeap → Prop} (h : S54 (CallsA Try.prog) a0 a1 H K) : CallsA Try.prog 54 [a0, a1] H K :=
 calls_of Try.func54 (ne_of_beq_false (by kernel_rfl)) c54_eq (by kernel_rfl) (by rw [S54_eq]; exact h)
def pol72 : Pol := { lend := fun _ => true, keep := [], frz := fun _ => [], perm := fun r => [], bf := fun r => [], ret := true }
def S72 (γ : Calld) (a0 : AV) (H : AHeap) (K : AV → AHeap → Prop) : Prop :=
 newK H (fun n3 => boxA a0 n3) fun v1 H2 => retF [.func 96 [] [v1]] H2 K
noncomputable def r72_0 : List Oper := regOps Try.f72 0
noncomputable def r72_1 : List Oper := regOps Try.f72 1
noncomputable def c72 : Code := (.seq (.region 0 (opArr r72_0 2) false) (.seq (.region 1 (opArr r72_1 2) false) .ret))
theorem c72_eq : Try.f72.body = some c72 := by kernel_rfl
theorem S72_eq (γ : Calld) (a0 : AV) (H : AHeap) (K : AV → AHeap → Prop) : execC Try.prog γ pol72 Try.f72 c72 [a0] H K = S72 γ a0 H K := by kernel_rfl
theorem C72 {a0 : AV} {H : AHeap} {K : AV → AHeap → Prop} (h : S72 (CallsA Try.prog) a0 H K) : CallsA Try.prog 72 [a0] H K :=
 calls_of Try.func72 (ne_of_beq_false (by kernel_rfl)) c72_eq (by kernel_rfl) (by rw [S72_eq]; exact h)
def pol85 : Pol := { lend := fun _ => true, keep := [0, 1, 5], frz := fun _ => [], perm := fun r => [], bf := fun r => [], ret := true }
def S85 (γ : Calld) (a0 a1 : AV) (H : AHeap) (K : AV → AHeap → Prop) : Prop :=
 loopA (fun X1 l2 H3 => optA (nilCkA (l2.getD 0 .junk)) fun v4 => optA (fieldA ti105 v4 1) fun v5 => optA (ldV false 1 v5 H3) fun v6 => optA (lenSl v6) fun v7 => optA (intA .lss (l2.getD 2 .junk) v7) fun v8 => ifA v8 (optA (nilCkA (l2.getD 0 .junk)) fun v9 => optA (fieldA ti105 v9 1) fun v10 => optA (ldV false 1 v10 H3) fun v11 => optA (indexAddrA ti103 24 v11 (l2.getD 2 .junk)) fun v12 => optA (fieldA ti111 v12 0) fun v13 => optA (ldV false 1 v13 H3) fun v14 => optA (intA .eql v14 (l2.getD 1 .junk)) fun v15 => ifA v15 (retF [l2.getD 2 .junk] H3 K) (optA (intA .add (l2.getD 2 .junk) (.d (.int .i64 1))) fun v16 => X1 [l2.getD 0 .junk, l2.getD 1 .junk, v16] H3)) (retF [.d (.int .i64 (-1))] H3 K)) [a0, a1, .d (.int .i64 0)] H
noncomputable def r85_0 : List Oper := regOps Try.f85 0
noncomputable def r85_1 : List Oper := regOps Try.f85 1
noncomputable def r85_2 : List Oper := regOps Try.f85 2
noncomputable def r85_3 : List Oper := regOps Try.f85 3
noncomputable def r85_4 : List Oper := regOps Try.f85 4
noncomputable def r85_5 : List Oper := regOps Try.f85 5
noncomputable def r85_6 : List Oper := regOps Try.f85 6
noncomputable def c85 : Code := (.seq (.region 0 (opArr r85_0 1) false) (.seq (.seq (.region 1 (opArr r85_1 1) false) (.block 0 (.loop (.seq (.seq (.region 2 (opArr r85_2 7) false) (.cond (.tmp 12) .skip (.exit 0))) (.seq (.block 1 (.seq (.region 4 (opArr r85_3 10) false) (.cond (.tmp 24) (.seq (.region 5 (opArr r85_4 2) false) .ret) .skip))) (.region 3 (opArr r85_5 3) false)))))) (.seq (.region 6 (opArr r85_6 1) false) .ret)))
theorem c85_eq : Try.f85.body = some c85 := by kernel_rfl
theorem S85_eq (γ : Calld) (a0 a1 : AV) (H : AHeap) (K : AV → AHeap → Prop) : execC Try.prog γ pol85 Try.f85 c85 [a0, a1] H K = S85 γ a0 a1 H K := by kernel_rfl
theorem C85 {a0 a1 : AV} {H : AHeap} {K : AV → AHeap → Prop} (h : S85 (CallsA Try.prog) a0 a1 H K) : CallsA Try.prog 85 [a0, a1] H K :=
 calls_of Try.func85 (ne_of_beq_false (by kernel_rfl)) c85_eq (by kernel_rfl) (by rw [S85_eq]; exact h)
def pol86 : Pol := { lend := fun _ => true, keep := [0, 2, 3, 4], frz := fun _ => [], perm := fun r => if r = 1 then [0, 1, 2, 3, 4, 5, 6, 7, 8, 9, 10, 11, 12, 13, 14, 15, 16] else [], bf := fun r => if r = 1 then [0, 1, 3, 7, 0, 16, 48, 112, 0, 0, 512, 1536, 3584, 7936, 16383, 0, 65535] else [], ret := true }
def S86 (γ : Calld) (a0 : AV) (H : AHeap) (K : AV → AHeap → Prop) : Prop :=
 newK H (fun n3 => some (.ptr n3 0 0 0, [(n3, .mem 0 0 8 [[.d (.int .i64 0), .d (.int .i64 0), .d (.int .i64 0), .d (.int .i64 0), .d (.bool false), .d (.bool false), .d (.bool false), .d (.sl true [])]])])) fun v1 H2 => drA true (optA (nilCkA a0) fun v4 => optA (fieldA ti111 v4 0) fun v5 => optA (ldV false 1 v5 H2) fun v6 => optA (nilCkA a0) fun v7 => optA (fieldA ti111 v7 3) fun v8 => optA (ldV false 1 v8 H2) fun v9 => newK H2 (fun n12 => bsA ti5 0 [] [] H2 n12) fun v10 H11 => optA (nilCkA a0) fun v13 => optA (fieldA ti111 v13 2) fun v14 => apart v10 v14 ∧ (optA (ldV false 1 v14 H11) fun v15 => apart v10 v8 ∧ (apart v10 v5 ∧ (newK H11 (fun n18 => apA 1 1 v10 v15 H11 n18) fun v16 H17 => noRsA (aggL v6) (noRsA (aggL v9) (noRsA (aggL v16) (stepK (bdA Try.prog ti24 [1, 4, 7] [v6, v9, v16] H17) H17 fun v19 H20 => newK H20 (fun n23 => some (.ptr n23 0 0 0, [(n23, .mem 0 0 8 [[.d (.int .i64 0), .d (.int .i64 0), .d (.int .i64 0), .d (.int .i64 0), .d (.bool false), .d (.bool false), .d (.bool false), .d (.sl true [])]])])) fun v21 H22 => noRsA (aggL v19) (stepK (stoA true 8 v21 v19 H22) H22 fun v24 H25 => loopA (fun X26 l27 H28 => optA (intA .geq (l27.getD 3 .junk) (.d (.int .i64 0))) fun v29 => ifA v29 (optA (fieldA ti24 (l27.getD 2 .junk) 2) fun v30 => optA (ldV false 1 v30 H28) fun v31 => optA (intA .mul v31 (.d (.int .i64 2))) fun v32 => optA (fieldA ti24 (l27.getD 2 .junk) 2) fun v33 => stepK (stoA false 1 v33 v32 H28) H28 fun v34 H35 => optA (nilCkA (l27.getD 0 .junk)) fun v36 => optA (fieldA ti111 v36 8) fun v37 => optA (indexAddrA ti108 1 v37 (l27.getD 3 .junk)) fun v38 => optA (ldV false 1 v38 H35) fun v39 => ifA v39 (optA (fieldA ti24 (l27.getD 2 .junk) 2) fun v40 => optA (ldV false 1 v40 H35) fun v41 => optA (intA .add v41 (.d (.int .i64 1))) fun v42 => optA (fieldA ti24 (l27.getD 2 .junk) 2) fun v43 => stepK (stoA false 1 v43 v42 H35) H35 fun v44 H45 => optA (intA .sub (l27.getD 3 .junk) (.d (.int .i64 1))) fun v46 => X26 [l27.getD 0 .junk, l27.getD 1 .junk, l27.getD 2 .junk, v46] H45) (optA (intA .sub (l27.getD 3 .junk) (.d (.int .i64 1))) fun v47 => X26 [l27.getD 0 .junk, l27.getD 1 .junk, l27.getD 2 .junk, v47] H35)) (optA (ldV true 8 (l27.getD 2 .junk) H28) fun v48 => stepK (stoA true 8 (l27.getD 1 .junk) v48 H28) H28 fun v49 H50 => optA (ldV true 8 (l27.getD 1 .junk) H50) fun v51 => retF [v51] H50 K)) [a0, v1, v21, .d (.int .i64 7)] H25))))))))
noncomputable def r86_0 : List Oper := regOps Try.f86 0
noncomputable def r86_1 : List Oper := regOps Try.f86 1
noncomputable def r86_2 : List Oper := regOps Try.f86 2
noncomputable def r86_3 : List Oper := regOps Try.f86 3
noncomputable def r86_4 : List Oper := regOps Try.f86 4
noncomputable def r86_5 : List Oper := regOps Try.f86 5
noncomputable def r86_6 : List Oper := regOps Try.f86 6
noncomputable def r86_7 : List Oper := regOps Try.f86 7
noncomputable def r86_8 : List Oper := regOps Try.f86 8
noncomputable def c86 : Code := (.seq (.region 0 (opArr r86_0 1) false) (.seq (.region 1 (opArr r86_1 17) true) (.seq (.seq (.region 2 (opArr r86_2 1) false) (.block 0 (.loop (.seq (.seq (.region 3 (opArr r86_3 2) false) (.cond (.tmp 21) .skip (.exit 0))) (.seq (.block 1 (.seq (.region 5 (opArr r86_4 5) false) (.seq (.region 6 (opArr r86_5 6) false) (.cond (.tmp 33) (.region 7 (opArr r86_6 5) false) .skip)))) (.region 4 (opArr r86_7 3) false)))))) (.seq (.region 8 (opArr r86_8 2) false) .ret))))
theorem c86_eq : Try.f86.body = some c86 := by kernel_rfl
theorem S86_eq (γ : Calld) (a0 : AV) (H : AHeap) (K : AV → AHeap → Prop) : execC Try.prog γ pol86 Try.f86 c86 [a0] H K = S86 γ a0 H K := by kernel_rfl
theorem C86 {a0 : AV} {H : AHeap} {K : AV → AHeap → Prop} (h : S86 (CallsA Try.prog) a0 H K) : CallsA Try.prog 86 [a0] H K :=
 calls_of Try.func86 (ne_of_beq_false (by kernel_rfl)) c86_eq (by kernel_rfl) (by rw [S86_eq]; exact h)
def pol88 : Pol := { lend := fun _ => true, keep := [], frz := fun _ => [], perm := fun r => if r = 1 then [0, 1, 2, 3, 4, 5, 6, 7, 8] else [], bf := fun r => if r = 1 then [0, 1, 3, 7, 0, 16, 48, 112, 255] else [], ret := true }
def S88 (γ : Calld) (a0 : AV) (H : AHeap) (K : AV → AHeap → Prop) : Prop :=
 drA true (optA (nilCkA a0) fun v1 => optA (fieldA ti111 v1 5) fun v2 => optA (ldV false 1 v2 H) fun v3 => optA (nilCkA a0) fun v4 => optA (fieldA ti111 v4 4) fun v5 => optA (ldV false 1 v5 H) fun v6 => optA (intA .geq v3 v6) fun v7 => ifA v7 (retF [.d (.sl true [])] H K) (optA (nilCkA a0) fun v8 => optA (fieldA ti111 v8 5) fun v9 => optA (ldV false 1 v9 H) fun v10 => optA (intA .add v10 (.d (.int .i64 1))) fun v11 => optA (nilCkA a0) fun v12 => optA (fieldA ti111 v12 5) fun v13 => stepK (stoA false 1 v13 v11 H) H fun v14 H15 => optA (nilCkA a0) fun v16 => optA (fieldA ti111 v16 6) fun v17 => stepK (stoA false 1 v17 (.d (.int .i64 0)) H15) H15 fun v18 H19 => frzLK [a0] H19 fun l22 H23 => γ 86 l22 H23 fun v20 H21 => newK H21 (fun n26 => bsA ti24 1 [0] [v20] H21 n26) fun v24 H25 => retF [v24] H25 K))
noncomputable def r88_0 : List Oper := regOps Try.f88 0
noncomputable def r88_1 : List Oper := regOps Try.f88 1
noncomputable def r88_2 : List Oper := regOps Try.f88 2
noncomputable def r88_3 : List Oper := regOps Try.f88 3
noncomputable def r88_4 : List Oper := regOps Try.f88 4
noncomputable def r88_5 : List Oper := regOps Try.f88 5
noncomputable def c88 : Code := (.seq (.region 0 (opArr r88_0 1) false) (.seq (.seq (.region 1 (opArr r88_1 9) true) (.cond (.tmp 11) (.seq (.region 2 (opArr r88_2 1) false) .ret) .skip)) (.seq (.region 3 (opArr r88_3 8) false) (.seq (.region 4 (opArr r88_4 4) false) (.seq (.region 5 (opArr r88_5 4) false) .ret)))))
theorem c88_eq : Try.f88.body = some c88 := by kernel_rfl
theorem S88_eq (γ : Calld) (a0 : AV) (H : AHeap) (K : AV → AHeap → Prop) : execC Try.prog γ pol88 Try.f88 c88 [a0] H K = S88 γ a0 H K := by kernel_rfl
theorem C88 {a0 : AV} {H : AHeap} {K : AV → AHeap → Prop} (h : S88 (CallsA Try.prog) a0 H K) : CallsA Try.prog 88 [a0] H K :=
 calls_of Try.func88 (ne_of_beq_false (by kernel_rfl)) c88_eq (by kernel_rfl) (by rw [S88_eq]; exact h)
def pol89 : Pol := { lend := fun _ => true, keep := [0, 1, 5, 6], frz := fun _ => [], perm := fun r => if r = 5 then [0, 1, 2, 3, 4, 5, 6, 7, 8, 9, 10, 11, 12, 13, 14, 15, 16, 17, 18, 19, 20, 21, 22, 23, 24, 25, 26, 27, 28, 29, 30, 31, 32] else [], bf := fun r => if r = 5 then [0, 1, 3, 7, 0, 31, 63, 127, 0, 511, 1023, 2047, 4095, 8191, 16383, 32767, 65535, 131071, 16383, 524287, 1048575, 2097151, 16383, 4210687, 12599295, 29376511, 16383, 130039807, 264257535, 532692991, 1073741823, 2147483647, 4294967295] else [], ret := true }
def S89 (γ : Calld) (a0 a1 : AV) (H : AHeap) (K : AV → AHeap → Prop) : Prop :=
 loopA (fun X1 l2 H3 => optA (nilCkA (l2.getD 0 .junk)) fun v4 => optA (fieldA ti105 v4 1) fun v5 => optA (ldV false 1 v5 H3) fun v6 => optA (lenSl v6) fun v7 => optA (intA .lss (l2.getD 3 .junk) v7) fun v8 => ifA v8 (drA true (optA (nilCkA (l2.getD 0 .junk)) fun v9 => optA (fieldA ti105 v9 1) fun v10 => optA (ldV false 1 v10 H3) fun v11 => optA (indexAddrA ti103 24 v11 (l2.getD 3 .junk)) fun v12 => optA (fieldA ti111 v12 0) fun v13 => optA (ldV false 1 v13 H3) fun v14 => optA (intA .gtr v14 (l2.getD 1 .junk)) fun v15 => ifA v15 (optA (intA .lss (l2.getD 2 .junk) (.d (.int .i64 0))) fun v16 => ifA v16 (optA (intA .add (l2.getD 3 .junk) (.d (.int .i64 1))) fun v17 => X1 [l2.getD 0 .junk, l2.getD 1 .junk, l2.getD 3 .junk, v17] H3) (optA (nilCkA (l2.getD 0 .junk)) fun v18 => optA (fieldA ti105 v18 1) fun v19 => optA (ldV false 1 v19 H3) fun v20 => optA (indexAddrA ti103 24 v20 (l2.getD 3 .junk)) fun v21 => optA (fieldA ti111 v21 0) fun v22 => optA (ldV false 1 v22 H3) fun v23 => optA (nilCkA (l2.getD 0 .junk)) fun v24 => optA (fieldA ti105 v24 1) fun v25 => optA (ldV false 1 v25 H3) fun v26 => optA (indexAddrA ti103 24 v26 (l2.getD 2 .junk)) fun v27 => optA (fieldA ti111 v27 0) fun v28 => optA (ldV false 1 v28 H3) fun v29 => optA (intA .lss v23 v29) fun v30 => ifA v30 (optA (intA .add (l2.getD 3 .junk) (.d (.int .i64 1))) fun v31 => X1 [l2.getD 0 .junk, l2.getD 1 .junk, l2.getD 3 .junk, v31] H3) (optA (intA .add (l2.getD 3 .junk) (.d (.int .i64 1))) fun v32 => X1 [l2.getD 0 .junk, l2.getD 1 .junk, l2.getD 2 .junk, v32] H3))) (optA (intA .add (l2.getD 3 .junk) (.d (.int .i64 1))) fun v33 => X1 [l2.getD 0 .junk, l2.getD 1 .junk, l2.getD 2 .junk, v33] H3))) (retF [l2.getD 2 .junk] H3 K)) [a0, a1, .d (.int .i64 (-1)), .d (.int .i64 0)] H
noncomputable def r89_0 : List Oper := regOps Try.f89 0
noncomputable def r89_1 : List Oper := regOps Try.f89 1
noncomputable def r89_2 : List Oper := regOps Try.f89 2
noncomputable def r89_3 : List Oper := regOps Try.f89 3
noncomputable def r89_4 : List Oper := regOps Try.f89 4
noncomputable def r89_5 : List Oper := regOps Try.f89 5
noncomputable def r89_6 : List Oper := regOps Try.f89 6
noncomputable def r89_7 : List Oper := regOps Try.f89 7
noncomputable def c89 : Code := (.seq (.region 0 (opArr r89_0 1) false) (.seq (.region 1 (opArr r89_1 1) false) (.seq (.seq (.region 2 (opArr r89_2 1) false) (.block 0 (.loop (.seq (.seq (.region 3 (opArr r89_3 7) false) (.cond (.tmp 13) .skip (.exit 0))) (.seq (.block 1 (.seq (.region 5 (opArr r89_4 33) true) (.cond (.tmp 48) (.region 6 (opArr r89_5 2) false) .skip))) (.region 4 (opArr r89_6 3) false)))))) (.seq (.region 7 (opArr r89_7 2) false) .ret))))
theorem c89_eq : Try.f89.body = some c89 := by kernel_rfl
theorem S89_eq (γ : Calld) (a0 a1 : AV) (H : AHeap) (K : AV → AHeap → Prop) : execC Try.prog γ pol89 Try.f89 c89 [a0, a1] H K = S89 γ a0 a1 H K := by kernel_rfl
theorem C89 {a0 a1 : AV} {H : AHeap} {K : AV → AHeap → Prop} (h : S89 (CallsA Try.prog) a0 a1 H K) : CallsA Try.prog 89 [a0, a1] H K :=
 calls_of Try.func89 (ne_of_beq_false (by kernel_rfl)) c89_eq (by kernel_rfl) (by rw [S89_eq]; exact h)
end Go.Proofs.Ytofjhihigmimbaa

/- What the functions do, printed by a program of mine out of their code; Lean checks each equation. -/
import Derived.Test.YtkpogkmnfakciaaA23
import Derived.Test.YtkpogkmnfakciaaProg
import Derived.KernelRfl
set_option maxRecDepth 100000
set_option linter.unusedVariables false
namespace Go.Proofs.Ytkpogkmnfakciaa
open Go Go.AM Go.Proofs
def ti5 : TI := { agg := false, size := 1, bytes := 1, zero := [.d (.int .u8 0)], k := .int .u8 }
def ti23 : TI := { agg := true, size := 2, bytes := 16, zero := [.d (.int .i64 0), .d (.int .i64 0)], k := .struct [(0, 3), (1, 3)] }
theorem ti23_f0 {i v e o : Nat} : fieldA ti23 (.ptr i v e o) 0 = some (.ptr i v e (o + 0)) := rfl
theorem ti23_v0 {cs : List Dat} {o : Nat} : fieldA ti23 (.vptr cs o) 0 = some (.vptr cs (o + 0)) := rfl
theorem ti23_f1 {i v e o : Nat} : fieldA ti23 (.ptr i v e o) 1 = some (.ptr i v e (o + 1)) := rfl
theorem ti23_v1 {cs : List Dat} {o : Nat} : fieldA ti23 (.vptr cs o) 1 = some (.vptr cs (o + 1)) := rfl
def ti24 : TI := { agg := false, size := 1, bytes := 24, zero := [.d (.sl true [])], k := .slice 5 }
def ti26 : TI := { agg := true, size := 10, bytes := 96, zero := [.d (.int .i64 0), .d (.int .i64 0), .d (.int .i64 0), .d (.int .i64 0), .d (.int .i64 0), .d (.int .i64 0), .d (.int .i64 0), .d (.int .i64 0), .d (.sl true []), .d (.bool false)], k := .struct [(0, 3), (1, 23), (3, 23), (5, 3), (6, 3), (7, 3), (8, 24), (9, 4)] }
theorem ti26_f0 {i v e o : Nat} : fieldA ti26 (.ptr i v e o) 0 = some (.ptr i v e (o + 0)) := rfl
theorem ti26_v0 {cs : List Dat} {o : Nat} : fieldA ti26 (.vptr cs o) 0 = some (.vptr cs (o + 0)) := rfl
theorem ti26_f1 {i v e o : Nat} : fieldA ti26 (.ptr i v e o) 1 = some (.ptr i v e (o + 1)) := rfl
theorem ti26_v1 {cs : List Dat} {o : Nat} : fieldA ti26 (.vptr cs o) 1 = some (.vptr cs (o + 1)) := rfl
theorem ti26_f2 {i v e o : Nat} : fieldA ti26 (.ptr i v e o) 2 = some (.ptr i v e (o + 3)) := rfl
theorem ti26_v2 {cs : List Dat} {o : Nat} : fieldA ti26 (.vptr cs o) 2 = some (.vptr cs (o + 3)) := rfl
theorem ti26_f3 {i v e o : Nat} : fieldA ti26 (.ptr i v e o) 3 = some (.ptr i v e (o + 5)) := rfl
theorem ti26_v3 {cs : List Dat} {o : Nat} : fieldA ti26 (.vptr cs o) 3 = some (.vptr cs (o + 5)) := rfl
theorem ti26_f4 {i v e o : Nat} : fieldA ti26 (.ptr i v e o) 4 = some (.ptr i v e (o + 6)) := rfl
theorem ti26_v4 {cs : List Dat} {o : Nat} : fieldA ti26 (.vptr cs o) 4 = some (.vptr cs (o + 6)) := rfl
theorem ti26_f5 {i v e o : Nat} : fieldA ti26 (.ptr i v e o) 5 = some (.ptr i v e (o + 7)) := rfl
theorem ti26_v5 {cs : List Dat} {o : Nat} : fieldA ti26 (.vptr cs o) 5 = some (.vptr cs (o + 7)) := rfl
theorem ti26_f6 {i v e o : Nat} : fieldA ti26 (.ptr i v e o) 6 = some (.ptr i v e (o + 8)) := rfl
theorem ti26_v6 {cs : List Dat} {o : Nat} : fieldA ti26 (.vptr cs o) 6 = some (.vptr cs (o + 8)) := rfl
theorem ti26_f7 {i v e o : Nat} : fieldA ti26 (.ptr i v e o) 7 = some (.ptr i v e (o + 9)) := rfl
theorem ti26_v7 {cs : List Dat} {o : Nat} : fieldA ti26 (.vptr cs o) 7 = some (.vptr cs (o + 9)) := rfl
def ti55 : TI := { agg := false, size := 1, bytes := 24, zero := [.d (.sl true [])], k := .slice 24 }
theorem cell3 : Try.prog.cellsOf 3 = 1 := by kernel_rfl
theorem cell4 : Try.prog.cellsOf 4 = 1 := by kernel_rfl
theorem cell5 : Try.prog.cellsOf 5 = 1 := by kernel_rfl
theorem cell23 : Try.prog.cellsOf 23 = 2 := by kernel_rfl
theorem cell24 : Try.prog.cellsOf 24 = 1 := by kernel_rfl
/-! tithing/tithinglaw04.DatagramShorts -/
def pol3 : Pol := { lend := fun _ => true, keep := [], frz := fun _ => [], perm := fun r => [], bf := fun r => [], ret := true }
def S3 (γ : Calld) (a0 : AV) (H : AHeap) (K : AV → AHeap → Prop) : Prop :=
  newK H (fun n3 => boxA a0 n3) fun v1 H2 => optA (fieldA ti26 v1 6) fun v4 => optA (ldV false 1 v4 H2) fun v5 => optA (lenSl v5) fun v6 => optA (intA .gtr v6 (.d (.int .i64 2000))) fun v7 => ifA v7 (frzLK [] H2 fun l10 H11 => γ 13 l10 H11 fun v8 H9 => retF [v8] H9 K) (optA (ldV true 10 v1 H2) fun v12 => frzLK [v12] H2 fun l15 H16 => γ 14 l15 H16 fun v13 H14 => optA (extractA v13 0) fun v17 => optA (extractA v13 1) fun v18 => optA (ldV true 10 v1 H14) fun v19 => frzLK [v19] H14 fun l22 H23 => γ 15 l22 H23 fun v20 H21 => optA (extractA v20 0) fun v24 => optA (extractA v20 1) fun v25 => optA (cvBS v17 H21) fun v26 => optA (cvBS v24 H21) fun v27 => optA (strA .eql v26 v27) fun v28 => ifA v28 (optA (intA .eql v18 v25) fun v29 => ifA v29 (frzLK [] H21 fun l32 H33 => γ 13 l32 H33 fun v30 H31 => retF [v30] H31 K) (retF [.d (.bool false)] H21 K)) (retF [.d (.bool false)] H21 K))
noncomputable def r3_0 : List Oper := regOps Try.f3 0
noncomputable def r3_1 : List Oper := regOps Try.f3 1
noncomputable def r3_2 : List Oper := regOps Try.f3 2
noncomputable def r3_3 : List Oper := regOps Try.f3 3
noncomputable def r3_4 : List Oper := regOps Try.f3 4
noncomputable def r3_5 : List Oper := regOps Try.f3 5
noncomputable def c3 : Code := (.seq (.region 0 #[opAt r3_0 0, opAt r3_0 1] false) (.seq (.seq (.region 1 #[opAt r3_1 0, opAt r3_1 1, opAt r3_1 2, opAt r3_1 3] false) (.cond (.tmp 10) (.seq (.region 2 #[opAt r3_2 0, opAt r3_2 1] false) .ret) .skip)) (.seq (.region 3 #[opAt r3_3 0, opAt r3_3 1, opAt r3_3 2, opAt r3_3 3, opAt r3_3 4, opAt r3_3 5, opAt r3_3 6] false) (.seq (.region 4 #[opAt r3_4 0, opAt r3_4 1, opAt r3_4 2, opAt r3_4 3, opAt r3_4 4, opAt r3_4 5, opAt r3_4 6] false) (.seq (.region 5 #[opAt r3_5 0, opAt r3_5 1, opAt r3_5 2, opAt r3_5 3, opAt r3_5 4, opAt r3_5 5, opAt r3_5 6, opAt r3_5 7, opAt r3_5 8, opAt r3_5 9, opAt r3_5 10, opAt r3_5 11, opAt r3_5 12, opAt r3_5 13] false) .ret)))))
theorem c3_eq : Try.f3.body = some c3 := by kernel_rfl
theorem S3_eq (γ : Calld) (a0 : AV) (H : AHeap) (K : AV → AHeap → Prop) : execC Try.prog γ pol3 Try.f3 c3 [a0] H K = S3 γ a0 H K := by kernel_rfl
theorem C3 {a0 : AV} {H : AHeap} {K : AV → AHeap → Prop} (h : S3 (CallsA Try.prog) a0 H K) : CallsA Try.prog 3 [a0] H K :=
  calls_of Try.func3 (ne_of_beq_false (by kernel_rfl)) c3_eq (by kernel_rfl) (by rw [S3_eq]; exact h)
/-! tithing/tithinglaw04.Awake -/
def pol13 : Pol := { lend := fun _ => true, keep := [], frz := fun _ => [], perm := fun r => [], bf := fun r => [], ret := true }
def S13 (γ : Calld) (H : AHeap) (K : AV → AHeap → Prop) : Prop :=
  stepK (bdA Try.prog ti23 [1] [.d (.int .i64 3)] H) H fun v1 H2 => stepK (bdA Try.prog ti23 [1] [.d (.int .i64 2)] H2) H2 fun v3 H4 => stepK (bdA Try.prog ti26 [1, 2, 3, 4, 5] [v1, v3, .d (.int .i64 1), .d (.int .i64 1), .d (.int .i64 1)] H4) H4 fun v5 H6 => frzLK [v5] H6 fun l9 H10 => γ 14 l9 H10 fun v7 H8 => optA (extractA v7 0) fun v11 => optA (extractA v7 1) fun v12 => optA (intA .eql v12 (.d (.int .i64 0))) fun v13 => ifA v13 (optA (cvBS v11 H8) fun v14 => newK H8 (fun n17 => bsA ti5 5 [0, 1, 2, 3, 4] [.d (.int .u8 0), .d (.int .u8 5), .d (.int .u8 1), .d (.int .u8 1), .d (.int .u8 1)] H8 n17) fun v15 H16 => optA (cvBS v15 H16) fun v18 => optA (strA .eql v14 v18) fun v19 => retF [v19] H16 K) (retF [.d (.bool false)] H8 K)
noncomputable def r13_0 : List Oper := regOps Try.f13 0
noncomputable def r13_1 : List Oper := regOps Try.f13 1
noncomputable def r13_2 : List Oper := regOps Try.f13 2
noncomputable def c13 : Code := (.seq (.region 0 #[opAt r13_0 0] false) (.seq (.region 1 #[opAt r13_1 0, opAt r13_1 1, opAt r13_1 2, opAt r13_1 3, opAt r13_1 4, opAt r13_1 5, opAt r13_1 6, opAt r13_1 7, opAt r13_1 8] false) (.seq (.region 2 #[opAt r13_2 0, opAt r13_2 1, opAt r13_2 2, opAt r13_2 3, opAt r13_2 4, opAt r13_2 5, opAt r13_2 6, opAt r13_2 7, opAt r13_2 8, opAt r13_2 9] false) .ret)))
theorem c13_eq : Try.f13.body = some c13 := by kernel_rfl
theorem S13_eq (γ : Calld) (H : AHeap) (K : AV → AHeap → Prop) : execC Try.prog γ pol13 Try.f13 c13 [] H K = S13 γ H K := by kernel_rfl
theorem C13 {H : AHeap} {K : AV → AHeap → Prop} (h : S13 (CallsA Try.prog) H K) : CallsA Try.prog 13 [] H K :=
  calls_of Try.func13 (ne_of_beq_false (by kernel_rfl)) c13_eq (by kernel_rfl) (by rw [S13_eq]; exact h)
/-! tithing/datagram.Short -/
def pol14 : Pol := { lend := fun _ => true, keep := [], frz := fun _ => [], perm := fun r => if r = 3 then [0, 1, 2, 3, 4, 5, 6, 7, 8, 9, 10, 11, 12, 13, 14, 15, 16, 17, 18, 19, 20] else [], bf := fun r => if r = 3 then [0, 1, 3, 7, 15, 0, 32, 96, 0, 256, 768, 0, 2048, 6144, 16352, 0, 32768, 131071, 262143, 524287, 1048575] else [], ret := true }
def S14 (γ : Calld) (a0 : AV) (H : AHeap) (K : AV → AHeap → Prop) : Prop :=
  newK H (fun n3 => boxA a0 n3) fun v1 H2 => optA (ldV true 10 v1 H2) fun v4 => frzLK [v4] H2 fun l7 H8 => γ 24 l7 H8 fun v5 H6 => optA (unA .not v5) fun v9 => ifA v9 (retF [.d (.sl true []), .d (.int .i64 2)] H6 K) (optA (fieldA ti26 v1 0) fun v10 => optA (ldV false 1 v10 H6) fun v11 => optA (intA .neq v11 (.d (.int .i64 0))) fun v12 => ifA v12 (retF [.d (.sl true []), .d (.int .i64 2)] H6 K) (optA (fieldA ti26 v1 1) fun v13 => optA (fieldA ti23 v13 0) fun v14 => optA (ldV false 1 v14 H6) fun v15 => optA (intA .neq v15 (.d (.int .i64 0))) fun v16 => ifA v16 (retF [.d (.sl true []), .d (.int .i64 2)] H6 K) (optA (fieldA ti26 v1 2) fun v17 => optA (fieldA ti23 v17 0) fun v18 => optA (ldV false 1 v18 H6) fun v19 => optA (intA .neq v19 (.d (.int .i64 0))) fun v20 => ifA v20 (retF [.d (.sl true []), .d (.int .i64 2)] H6 K) (optA (fieldA ti26 v1 7) fun v21 => optA (ldV false 1 v21 H6) fun v22 => ifA v22 (retF [.d (.sl true []), .d (.int .i64 2)] H6 K) (drA true (optA (fieldA ti26 v1 6) fun v23 => optA (ldV false 1 v23 H6) fun v24 => optA (lenSl v24) fun v25 => optA (intA .add (.d (.int .i64 5)) v25) fun v26 => noRs v26 = true ∧ (optA (frzAL [v26] H6) fun l28 => ∃ r29, γ 32 l28.1 H6 (fun v H2 => v = r29 ∧ AHeap.le H6 H2) ∧ (optA (fieldA ti26 v1 3) fun v30 => optA (ldV false 1 v30 H6) fun v31 => optA (cvI .u8 v31) fun v32 => optA (fieldA ti26 v1 4) fun v33 => optA (ldV false 1 v33 H6) fun v34 => optA (cvI .u8 v34) fun v35 => optA (fieldA ti26 v1 5) fun v36 => optA (ldV false 1 v36 H6) fun v37 => optA (cvI .u8 v37) fun v38 => noRs v32 = true ∧ (noRs v35 = true ∧ (noRs v38 = true ∧ (newK H6 (fun n41 => bsA ti5 3 [0, 1, 2] [v32, v35, v38] H6 n41) fun v39 H40 => optA (fieldA ti26 v1 6) fun v42 => apart v39 v42 ∧ (optA (ldV false 1 v42 H40) fun v43 => noRs r29 = true ∧ (noRs v39 = true ∧ (noRs v43 = true ∧ (newK H40 (fun n46 => bsA ti24 3 [0, 1, 2] [r29, v39, v43] H40 n46) fun v44 H45 => noRs v44 = true ∧ (optA (frzAL [v44] H45) fun l48 => ∃ r49, γ 31 l48.1 H45 (fun v H2 => v = r49 ∧ AHeap.le H45 H2) ∧ (retF [r49, .d (.int .i64 0)] H45 K)))))))))))))))))
noncomputable def r14_0 : List Oper := regOps Try.f14 0
noncomputable def r14_1 : List Oper := regOps Try.f14 1
noncomputable def r14_2 : List Oper := regOps Try.f14 2
noncomputable def r14_3 : List Oper := regOps Try.f14 3
noncomputable def c14 : Code := (.seq (.region 0 #[opAt r14_0 0, opAt r14_0 1, opAt r14_0 2] false) (.seq (.seq (.region 1 #[opAt r14_1 0, opAt r14_1 1, opAt r14_1 2, opAt r14_1 3, opAt r14_1 4, opAt r14_1 5, opAt r14_1 6, opAt r14_1 7, opAt r14_1 8, opAt r14_1 9, opAt r14_1 10, opAt r14_1 11, opAt r14_1 12, opAt r14_1 13, opAt r14_1 14, opAt r14_1 15, opAt r14_1 16, opAt r14_1 17, opAt r14_1 18, opAt r14_1 19, opAt r14_1 20, opAt r14_1 21, opAt r14_1 22, opAt r14_1 23] false) (.cond (.tmp 27) (.seq (.region 2 #[opAt r14_2 0, opAt r14_2 1] false) .ret) .skip)) (.seq (.region 3 #[opAt r14_3 0, opAt r14_3 1, opAt r14_3 2, opAt r14_3 3, opAt r14_3 4, opAt r14_3 5, opAt r14_3 6, opAt r14_3 7, opAt r14_3 8, opAt r14_3 9, opAt r14_3 10, opAt r14_3 11, opAt r14_3 12, opAt r14_3 13, opAt r14_3 14, opAt r14_3 15, opAt r14_3 16, opAt r14_3 17, opAt r14_3 18, opAt r14_3 19, opAt r14_3 20] true) .ret)))
theorem c14_eq : Try.f14.body = some c14 := by kernel_rfl
theorem S14_eq (γ : Calld) (a0 : AV) (H : AHeap) (K : AV → AHeap → Prop) : execC Try.prog γ pol14 Try.f14 c14 [a0] H K = S14 γ a0 H K := by kernel_rfl
theorem C14 {a0 : AV} {H : AHeap} {K : AV → AHeap → Prop} (h : S14 (CallsA Try.prog) a0 H K) : CallsA Try.prog 14 [a0] H K :=
  calls_of Try.func14 (ne_of_beq_false (by kernel_rfl)) c14_eq (by kernel_rfl) (by rw [S14_eq]; exact h)
/-! tithing/tithingref04.Short -/
def pol15 : Pol := { lend := fun _ => true, keep := [], frz := fun _ => [], perm := fun r => if r = 3 then [0, 1, 2, 3, 4, 5, 6, 7, 8, 9, 10, 11, 12, 13, 14, 15, 16, 17, 18, 19, 20] else [], bf := fun r => if r = 3 then [0, 1, 3, 7, 15, 0, 32, 96, 0, 256, 768, 0, 2048, 6144, 16352, 32767, 0, 65536, 262143, 524287, 1048575] else [], ret := true }
def S15 (γ : Calld) (a0 : AV) (H : AHeap) (K : AV → AHeap → Prop) : Prop :=
  newK H (fun n3 => boxA a0 n3) fun v1 H2 => optA (ldV true 10 v1 H2) fun v4 => frzLK [v4] H2 fun l7 H8 => γ 25 l7 H8 fun v5 H6 => optA (unA .not v5) fun v9 => ifA v9 (retF [.d (.sl true []), .d (.int .i64 2)] H6 K) (optA (fieldA ti26 v1 0) fun v10 => optA (ldV false 1 v10 H6) fun v11 => optA (intA .gtr v11 (.d (.int .i64 0))) fun v12 => ifA v12 (retF [.d (.sl true []), .d (.int .i64 2)] H6 K) (optA (fieldA ti26 v1 1) fun v13 => optA (fieldA ti23 v13 0) fun v14 => optA (ldV false 1 v14 H6) fun v15 => optA (intA .gtr v15 (.d (.int .i64 0))) fun v16 => ifA v16 (retF [.d (.sl true []), .d (.int .i64 2)] H6 K) (optA (fieldA ti26 v1 2) fun v17 => optA (fieldA ti23 v17 0) fun v18 => optA (ldV false 1 v18 H6) fun v19 => optA (intA .gtr v19 (.d (.int .i64 0))) fun v20 => ifA v20 (retF [.d (.sl true []), .d (.int .i64 2)] H6 K) (optA (fieldA ti26 v1 7) fun v21 => optA (ldV false 1 v21 H6) fun v22 => ifA v22 (retF [.d (.sl true []), .d (.int .i64 2)] H6 K) (drA true (optA (fieldA ti26 v1 6) fun v23 => optA (ldV false 1 v23 H6) fun v24 => optA (lenSl v24) fun v25 => optA (intA .add (.d (.int .i64 5)) v25) fun v26 => noRs v26 = true ∧ (optA (frzAL [v26] H6) fun l28 => ∃ r29, γ 33 l28.1 H6 (fun v H2 => v = r29 ∧ AHeap.le H6 H2) ∧ (optA (fieldA ti26 v1 3) fun v30 => optA (ldV false 1 v30 H6) fun v31 => optA (cvI .u8 v31) fun v32 => optA (fieldA ti26 v1 4) fun v33 => optA (ldV false 1 v33 H6) fun v34 => optA (cvI .u8 v34) fun v35 => optA (fieldA ti26 v1 5) fun v36 => optA (ldV false 1 v36 H6) fun v37 => optA (cvI .u8 v37) fun v38 => noRs v32 = true ∧ (noRs v35 = true ∧ (noRs v38 = true ∧ (newK H6 (fun n41 => bsA ti5 3 [0, 1, 2] [v32, v35, v38] H6 n41) fun v39 H40 => newK H40 (fun n44 => apA 1 1 r29 v39 H40 n44) fun v42 H43 => optA (fieldA ti26 v1 6) fun v45 => apart r29 v45 ∧ (apart v42 v45 ∧ (apart v39 v45 ∧ (optA (ldV false 1 v45 H43) fun v46 => newK H43 (fun n49 => apA 1 1 v42 v46 H43 n49) fun v47 H48 => retF [v47, .d (.int .i64 0)] H48 K))))))))))))))
noncomputable def r15_0 : List Oper := regOps Try.f15 0
noncomputable def r15_1 : List Oper := regOps Try.f15 1
noncomputable def r15_2 : List Oper := regOps Try.f15 2
noncomputable def r15_3 : List Oper := regOps Try.f15 3
noncomputable def c15 : Code := (.seq (.region 0 #[opAt r15_0 0, opAt r15_0 1, opAt r15_0 2] false) (.seq (.seq (.region 1 #[opAt r15_1 0, opAt r15_1 1, opAt r15_1 2, opAt r15_1 3, opAt r15_1 4, opAt r15_1 5, opAt r15_1 6, opAt r15_1 7, opAt r15_1 8, opAt r15_1 9, opAt r15_1 10, opAt r15_1 11, opAt r15_1 12, opAt r15_1 13, opAt r15_1 14, opAt r15_1 15, opAt r15_1 16, opAt r15_1 17, opAt r15_1 18, opAt r15_1 19, opAt r15_1 20, opAt r15_1 21, opAt r15_1 22, opAt r15_1 23] false) (.cond (.tmp 27) (.seq (.region 2 #[opAt r15_2 0, opAt r15_2 1] false) .ret) .skip)) (.seq (.region 3 #[opAt r15_3 0, opAt r15_3 1, opAt r15_3 2, opAt r15_3 3, opAt r15_3 4, opAt r15_3 5, opAt r15_3 6, opAt r15_3 7, opAt r15_3 8, opAt r15_3 9, opAt r15_3 10, opAt r15_3 11, opAt r15_3 12, opAt r15_3 13, opAt r15_3 14, opAt r15_3 15, opAt r15_3 16, opAt r15_3 17, opAt r15_3 18, opAt r15_3 19, opAt r15_3 20] true) .ret)))
theorem c15_eq : Try.f15.body = some c15 := by kernel_rfl
theorem S15_eq (γ : Calld) (a0 : AV) (H : AHeap) (K : AV → AHeap → Prop) : execC Try.prog γ pol15 Try.f15 c15 [a0] H K = S15 γ a0 H K := by kernel_rfl
theorem C15 {a0 : AV} {H : AHeap} {K : AV → AHeap → Prop} (h : S15 (CallsA Try.prog) a0 H K) : CallsA Try.prog 15 [a0] H K :=
  calls_of Try.func15 (ne_of_beq_false (by kernel_rfl)) c15_eq (by kernel_rfl) (by rw [S15_eq]; exact h)
/-! tithing/datagram.Valid -/
def pol24 : Pol := { lend := fun _ => true, keep := [], frz := fun _ => [], perm := fun r => [], bf := fun r => [], ret := true }
def S24 (γ : Calld) (a0 : AV) (H : AHeap) (K : AV → AHeap → Prop) : Prop :=
  newK H (fun n3 => boxA a0 n3) fun v1 H2 => optA (fieldA ti26 v1 3) fun v4 => optA (ldV false 1 v4 H2) fun v5 => frzLK [v5, .d (.int .i64 0), .d (.int .i64 255)] H2 fun l8 H9 => γ 38 l8 H9 fun v6 H7 => ifA v6 (optA (fieldA ti26 v1 4) fun v10 => optA (ldV false 1 v10 H7) fun v11 => frzLK [v11, .d (.int .i64 0), .d (.int .i64 255)] H7 fun l14 H15 => γ 38 l14 H15 fun v12 H13 => optA (fieldA ti26 v1 0) fun v16 => optA (ldV false 1 v16 H13) fun v17 => frzLK [v17, .d (.int .i64 0), .d (.int .i64 15)] H13 fun l20 H21 => γ 38 l20 H21 fun v18 H19 => ifA v18 (optA (fieldA ti26 v1 1) fun v22 => optA (ldV true 2 v22 H19) fun v23 => frzLK [v23] H19 fun l26 H27 => γ 39 l26 H27 fun v24 H25 => ifA v24 (optA (fieldA ti26 v1 2) fun v28 => optA (ldV true 2 v28 H25) fun v29 => frzLK [v29] H25 fun l32 H33 => γ 39 l32 H33 fun v30 H31 => ifA v30 (ifA v12 (optA (fieldA ti26 v1 5) fun v34 => optA (ldV false 1 v34 H31) fun v35 => frzLK [v35, .d (.int .i64 1), .d (.int .i64 255)] H31 fun l38 H39 => γ 38 l38 H39 fun v36 H37 => ifA v36 (optA (fieldA ti26 v1 6) fun v40 => optA (ldV false 1 v40 H37) fun v41 => optA (lenSl v41) fun v42 => optA (intA .leq v42 (.d (.int .i64 586))) fun v43 => retF [v43] H37 K) (retF [.d (.bool false)] H37 K)) (retF [.d (.bool false)] H31 K)) (retF [.d (.bool false)] H31 K)) (retF [.d (.bool false)] H25 K)) (retF [.d (.bool false)] H19 K)) (optA (fieldA ti26 v1 0) fun v44 => optA (ldV false 1 v44 H7) fun v45 => frzLK [v45, .d (.int .i64 0), .d (.int .i64 15)] H7 fun l48 H49 => γ 38 l48 H49 fun v46 H47 => ifA v46 (optA (fieldA ti26 v1 1) fun v50 => optA (ldV true 2 v50 H47) fun v51 => frzLK [v51] H47 fun l54 H55 => γ 39 l54 H55 fun v52 H53 => ifA v52 (optA (fieldA ti26 v1 2) fun v56 => optA (ldV true 2 v56 H53) fun v57 => frzLK [v57] H53 fun l60 H61 => γ 39 l60 H61 fun v58 H59 => ifA v58 (retF [.d (.bool false)] H59 K) (retF [.d (.bool false)] H59 K)) (retF [.d (.bool false)] H53 K)) (retF [.d (.bool false)] H47 K))
noncomputable def r24_0 : List Oper := regOps Try.f24 0
noncomputable def r24_1 : List Oper := regOps Try.f24 1
noncomputable def r24_2 : List Oper := regOps Try.f24 2
noncomputable def c24 : Code := (.seq (.region 0 #[opAt r24_0 0, opAt r24_0 1] false) (.seq (.region 1 #[opAt r24_1 0, opAt r24_1 1, opAt r24_1 2, opAt r24_1 3, opAt r24_1 4, opAt r24_1 5, opAt r24_1 6, opAt r24_1 7, opAt r24_1 8] false) (.seq (.region 2 #[opAt r24_2 0, opAt r24_2 1, opAt r24_2 2, opAt r24_2 3, opAt r24_2 4, opAt r24_2 5, opAt r24_2 6, opAt r24_2 7, opAt r24_2 8, opAt r24_2 9, opAt r24_2 10, opAt r24_2 11, opAt r24_2 12, opAt r24_2 13, opAt r24_2 14, opAt r24_2 15, opAt r24_2 16, opAt r24_2 17, opAt r24_2 18, opAt r24_2 19, opAt r24_2 20, opAt r24_2 21, opAt r24_2 22, opAt r24_2 23, opAt r24_2 24, opAt r24_2 25, opAt r24_2 26, opAt r24_2 27] false) .ret)))
theorem c24_eq : Try.f24.body = some c24 := by kernel_rfl
theorem S24_eq (γ : Calld) (a0 : AV) (H : AHeap) (K : AV → AHeap → Prop) : execC Try.prog γ pol24 Try.f24 c24 [a0] H K = S24 γ a0 H K := by kernel_rfl
theorem C24 {a0 : AV} {H : AHeap} {K : AV → AHeap → Prop} (h : S24 (CallsA Try.prog) a0 H K) : CallsA Try.prog 24 [a0] H K :=
  calls_of Try.func24 (ne_of_beq_false (by kernel_rfl)) c24_eq (by kernel_rfl) (by rw [S24_eq]; exact h)
/-! tithing/tithingref04.Valid -/
def pol25 : Pol := { lend := fun _ => true, keep := [], frz := fun _ => [], perm := fun r => [], bf := fun r => [], ret := true }
def S25 (γ : Calld) (a0 : AV) (H : AHeap) (K : AV → AHeap → Prop) : Prop :=
  newK H (fun n3 => boxA a0 n3) fun v1 H2 => optA (fieldA ti26 v1 0) fun v4 => optA (ldV false 1 v4 H2) fun v5 => optA (intA .lss v5 (.d (.int .i64 0))) fun v6 => ifA v6 (retF [.d (.bool false)] H2 K) (optA (fieldA ti26 v1 0) fun v7 => optA (ldV false 1 v7 H2) fun v8 => optA (intA .gtr v8 (.d (.int .i64 15))) fun v9 => ifA v9 (retF [.d (.bool false)] H2 K) (optA (fieldA ti26 v1 1) fun v10 => optA (fieldA ti23 v10 0) fun v11 => optA (ldV false 1 v11 H2) fun v12 => frzLK [v12] H2 fun l15 H16 => γ 40 l15 H16 fun v13 H14 => optA (unA .not v13) fun v17 => ifA v17 (retF [.d (.bool false)] H14 K) (optA (fieldA ti26 v1 2) fun v18 => optA (fieldA ti23 v18 0) fun v19 => optA (ldV false 1 v19 H14) fun v20 => frzLK [v20] H14 fun l23 H24 => γ 40 l23 H24 fun v21 H22 => optA (unA .not v21) fun v25 => ifA v25 (retF [.d (.bool false)] H22 K) (optA (fieldA ti26 v1 1) fun v26 => optA (fieldA ti23 v26 1) fun v27 => optA (ldV false 1 v27 H22) fun v28 => frzLK [v28] H22 fun l31 H32 => γ 41 l31 H32 fun v29 H30 => optA (unA .not v29) fun v33 => ifA v33 (retF [.d (.bool false)] H30 K) (optA (fieldA ti26 v1 2) fun v34 => optA (fieldA ti23 v34 1) fun v35 => optA (ldV false 1 v35 H30) fun v36 => frzLK [v36] H30 fun l39 H40 => γ 41 l39 H40 fun v37 H38 => optA (unA .not v37) fun v41 => ifA v41 (retF [.d (.bool false)] H38 K) (optA (fieldA ti26 v1 3) fun v42 => optA (ldV false 1 v42 H38) fun v43 => frzLK [v43] H38 fun l46 H47 => γ 41 l46 H47 fun v44 H45 => ifA v44 (optA (fieldA ti26 v1 4) fun v48 => optA (ldV false 1 v48 H45) fun v49 => frzLK [v49] H45 fun l52 H53 => γ 41 l52 H53 fun v50 H51 => ifA v50 (optA (fieldA ti26 v1 5) fun v54 => optA (ldV false 1 v54 H51) fun v55 => frzLK [v55] H51 fun l58 H59 => γ 41 l58 H59 fun v56 H57 => ifA v56 (optA (fieldA ti26 v1 5) fun v60 => optA (ldV false 1 v60 H57) fun v61 => optA (intA .gtr v61 (.d (.int .i64 0))) fun v62 => ifA v62 (optA (fieldA ti26 v1 6) fun v63 => optA (ldV false 1 v63 H57) fun v64 => optA (lenSl v64) fun v65 => optA (intA .leq v65 (.d (.int .i64 586))) fun v66 => retF [v66] H57 K) (retF [.d (.bool false)] H57 K)) (retF [.d (.bool false)] H57 K)) (retF [.d (.bool false)] H51 K)) (retF [.d (.bool false)] H45 K)))))))
noncomputable def r25_0 : List Oper := regOps Try.f25 0
noncomputable def r25_1 : List Oper := regOps Try.f25 1
noncomputable def r25_2 : List Oper := regOps Try.f25 2
noncomputable def r25_3 : List Oper := regOps Try.f25 3
noncomputable def c25 : Code := (.seq (.region 0 #[opAt r25_0 0, opAt r25_0 1] false) (.seq (.seq (.region 1 #[opAt r25_1 0, opAt r25_1 1, opAt r25_1 2, opAt r25_1 3, opAt r25_1 4, opAt r25_1 5, opAt r25_1 6, opAt r25_1 7, opAt r25_1 8, opAt r25_1 9, opAt r25_1 10, opAt r25_1 11, opAt r25_1 12, opAt r25_1 13, opAt r25_1 14, opAt r25_1 15, opAt r25_1 16, opAt r25_1 17, opAt r25_1 18, opAt r25_1 19, opAt r25_1 20, opAt r25_1 21, opAt r25_1 22, opAt r25_1 23, opAt r25_1 24, opAt r25_1 25, opAt r25_1 26, opAt r25_1 27, opAt r25_1 28, opAt r25_1 29, opAt r25_1 30, opAt r25_1 31, opAt r25_1 32, opAt r25_1 33, opAt r25_1 34, opAt r25_1 35] false) (.cond (.tmp 38) (.seq (.region 2 #[opAt r25_2 0] false) .ret) .skip)) (.seq (.region 3 #[opAt r25_3 0, opAt r25_3 1, opAt r25_3 2, opAt r25_3 3, opAt r25_3 4, opAt r25_3 5, opAt r25_3 6, opAt r25_3 7, opAt r25_3 8, opAt r25_3 9, opAt r25_3 10, opAt r25_3 11, opAt r25_3 12, opAt r25_3 13, opAt r25_3 14, opAt r25_3 15, opAt r25_3 16, opAt r25_3 17, opAt r25_3 18, opAt r25_3 19, opAt r25_3 20, opAt r25_3 21, opAt r25_3 22, opAt r25_3 23, opAt r25_3 24] false) .ret)))
theorem c25_eq : Try.f25.body = some c25 := by kernel_rfl
theorem S25_eq (γ : Calld) (a0 : AV) (H : AHeap) (K : AV → AHeap → Prop) : execC Try.prog γ pol25 Try.f25 c25 [a0] H K = S25 γ a0 H K := by kernel_rfl
theorem C25 {a0 : AV} {H : AHeap} {K : AV → AHeap → Prop} (h : S25 (CallsA Try.prog) a0 H K) : CallsA Try.prog 25 [a0] H K :=
  calls_of Try.func25 (ne_of_beq_false (by kernel_rfl)) c25_eq (by kernel_rfl) (by rw [S25_eq]; exact h)
/-! slices.Concat[[]byte,byte] -/
def pol31 : Pol := { lend := fun _ => true, keep := [0, 3, 6, 9, 10, 11, 25, 26, 27], frz := fun _ => [], perm := fun r => [], bf := fun r => [], ret := true }
def S31 (γ : Calld) (a0 : AV) (H : AHeap) (K : AV → AHeap → Prop) : Prop :=
  optA (lenSl a0) fun v1 => loopA (fun X2 l3 H4 => optA (intA .lss (l3.getD 5 .junk) (l3.getD 4 .junk)) fun v5 => ifA v5 (optA (indexAddrA ti55 1 (l3.getD 3 .junk) (l3.getD 5 .junk)) fun v6 => optA (ldV false 1 v6 H4) fun v7 => optA (lenSl v7) fun v8 => optA (intA .add (l3.getD 1 .junk) v8) fun v9 => optA (intA .lss v9 (.d (.int .i64 0))) fun v10 => ifA v10 (False) (optA (intA .add (l3.getD 5 .junk) (.d (.int .i64 1))) fun v13 => X2 [l3.getD 0 .junk, v9, l3.getD 2 .junk, l3.getD 3 .junk, l3.getD 4 .junk, v13, l3.getD 6 .junk, l3.getD 7 .junk, l3.getD 8 .junk] H4)) (frzLK [.d (.sl true []), l3.getD 1 .junk] H4 fun l16 H17 => γ 45 l16 H17 fun v14 H15 => optA (lenSl (l3.getD 0 .junk)) fun v18 => loopA (fun X19 l20 H21 => optA (intA .lss (l20.getD 8 .junk) (l20.getD 7 .junk)) fun v22 => ifA v22 (optA (indexAddrA ti55 1 (l20.getD 6 .junk) (l20.getD 8 .junk)) fun v23 => optA (ldV false 1 v23 H21) fun v24 => newK H21 (fun n27 => apA 1 1 (l20.getD 2 .junk) v24 H21 n27) fun v25 H26 => optA (intA .add (l20.getD 8 .junk) (.d (.int .i64 1))) fun v28 => X19 [l20.getD 0 .junk, l20.getD 1 .junk, v25, l20.getD 3 .junk, l20.getD 4 .junk, l20.getD 5 .junk, l20.getD 6 .junk, l20.getD 7 .junk, v28] H26) (retF [l20.getD 2 .junk] H21 K)) [l3.getD 0 .junk, l3.getD 1 .junk, v14, l3.getD 3 .junk, l3.getD 4 .junk, l3.getD 5 .junk, l3.getD 0 .junk, v18, .d (.int .i64 0)] H15)) [a0, .d (.int .i64 0), .junk, a0, v1, .d (.int .i64 0), .junk, .junk, .junk] H
noncomputable def r31_0 : List Oper := regOps Try.f31 0
noncomputable def r31_1 : List Oper := regOps Try.f31 1
noncomputable def r31_2 : List Oper := regOps Try.f31 2
noncomputable def r31_3 : List Oper := regOps Try.f31 3
noncomputable def r31_4 : List Oper := regOps Try.f31 4
noncomputable def r31_5 : List Oper := regOps Try.f31 5
noncomputable def r31_6 : List Oper := regOps Try.f31 6
noncomputable def r31_7 : List Oper := regOps Try.f31 7
noncomputable def r31_8 : List Oper := regOps Try.f31 8
noncomputable def r31_9 : List Oper := regOps Try.f31 9
noncomputable def r31_10 : List Oper := regOps Try.f31 10
noncomputable def r31_11 : List Oper := regOps Try.f31 11
noncomputable def r31_12 : List Oper := regOps Try.f31 12
noncomputable def r31_13 : List Oper := regOps Try.f31 13
noncomputable def r31_14 : List Oper := regOps Try.f31 14
noncomputable def r31_15 : List Oper := regOps Try.f31 15
noncomputable def c31 : Code := (.seq (.region 0 #[opAt r31_0 0] false) (.seq (.region 1 #[opAt r31_1 0] false) (.seq (.seq (.region 2 #[opAt r31_2 0, opAt r31_2 1, opAt r31_2 2] false) (.block 0 (.loop (.seq (.region 3 #[opAt r31_3 0] false) (.seq (.cond (.tmp 12) .skip (.exit 0)) (.seq (.block 1 (.seq (.region 4 #[opAt r31_4 0, opAt r31_4 1, opAt r31_4 2] false) (.seq (.region 5 #[opAt r31_5 0, opAt r31_5 1, opAt r31_5 2, opAt r31_5 3, opAt r31_5 4] false) (.seq (.region 6 #[opAt r31_6 0, opAt r31_6 1] false) (.cond (.tmp 20) (.region 7 #[opAt r31_7 0, opAt r31_7 1] false) .skip))))) (.region 8 #[opAt r31_8 0, opAt r31_8 1] false))))))) (.seq (.region 9 #[opAt r31_9 0, opAt r31_9 1, opAt r31_9 2] false) (.seq (.seq (.region 10 #[opAt r31_10 0, opAt r31_10 1, opAt r31_10 2] false) (.block 2 (.loop (.seq (.region 11 #[opAt r31_11 0] false) (.seq (.cond (.tmp 28) .skip (.exit 2)) (.seq (.block 3 (.seq (.region 12 #[opAt r31_12 0, opAt r31_12 1, opAt r31_12 2] false) (.region 13 #[opAt r31_13 0, opAt r31_13 1, opAt r31_13 2, opAt r31_13 3] false))) (.region 14 #[opAt r31_14 0, opAt r31_14 1] false))))))) (.seq (.region 15 #[opAt r31_15 0, opAt r31_15 1] false) .ret))))))
theorem c31_eq : Try.f31.body = some c31 := by kernel_rfl
theorem S31_eq (γ : Calld) (a0 : AV) (H : AHeap) (K : AV → AHeap → Prop) : execC Try.prog γ pol31 Try.f31 c31 [a0] H K = S31 γ a0 H K := by kernel_rfl
theorem C31 {a0 : AV} {H : AHeap} {K : AV → AHeap → Prop} (h : S31 (CallsA Try.prog) a0 H K) : CallsA Try.prog 31 [a0] H K :=
  calls_of Try.func31 (ne_of_beq_false (by kernel_rfl)) c31_eq (by kernel_rfl) (by rw [S31_eq]; exact h)
/-! tithing/datagram.two -/
def pol32 : Pol := { lend := fun _ => true, keep := [], frz := fun _ => [], perm := fun r => [], bf := fun r => [], ret := true }
def S32 (γ : Calld) (a0 : AV) (H : AHeap) (K : AV → AHeap → Prop) : Prop :=
  optA (intA .shr a0 (.d (.int .u64 8))) fun v1 => optA (cvI .u8 v1) fun v2 => optA (cvI .u8 a0) fun v3 => newK H (fun n6 => bsA ti5 2 [0, 1] [v2, v3] H n6) fun v4 H5 => retF [v4] H5 K
noncomputable def r32_0 : List Oper := regOps Try.f32 0
noncomputable def r32_1 : List Oper := regOps Try.f32 1
noncomputable def c32 : Code := (.seq (.region 0 #[opAt r32_0 0] false) (.seq (.region 1 #[opAt r32_1 0, opAt r32_1 1, opAt r32_1 2, opAt r32_1 3, opAt r32_1 4, opAt r32_1 5, opAt r32_1 6] false) .ret))
theorem c32_eq : Try.f32.body = some c32 := by kernel_rfl
theorem S32_eq (γ : Calld) (a0 : AV) (H : AHeap) (K : AV → AHeap → Prop) : execC Try.prog γ pol32 Try.f32 c32 [a0] H K = S32 γ a0 H K := by kernel_rfl
theorem C32 {a0 : AV} {H : AHeap} {K : AV → AHeap → Prop} (h : S32 (CallsA Try.prog) a0 H K) : CallsA Try.prog 32 [a0] H K :=
  calls_of Try.func32 (ne_of_beq_false (by kernel_rfl)) c32_eq (by kernel_rfl) (by rw [S32_eq]; exact h)
/-! tithing/tithingref04.two -/
def pol33 : Pol := { lend := fun _ => true, keep := [], frz := fun _ => [], perm := fun r => [], bf := fun r => [], ret := false }
def S33 (γ : Calld) (a0 : AV) (H : AHeap) (K : AV → AHeap → Prop) : Prop :=
  optA (intA .quo a0 (.d (.int .i64 256))) fun v1 => optA (cvI .u8 v1) fun v2 => optA (intA .rem a0 (.d (.int .i64 256))) fun v3 => optA (cvI .u8 v3) fun v4 => newK H (fun n7 => bsA ti5 2 [0, 1] [v2, v4] H n7) fun v5 H6 => finA v5 H6 K
noncomputable def r33_0 : List Oper := regOps Try.f33 0
noncomputable def r33_1 : List Oper := regOps Try.f33 1
noncomputable def c33 : Code := (.seq (.region 0 #[opAt r33_0 0] false) (.seq (.region 1 #[opAt r33_1 0, opAt r33_1 1, opAt r33_1 2, opAt r33_1 3, opAt r33_1 4, opAt r33_1 5, opAt r33_1 6, opAt r33_1 7] false) .ret))
theorem c33_eq : Try.f33.body = some c33 := by kernel_rfl
theorem S33_eq (γ : Calld) (a0 : AV) (H : AHeap) (K : AV → AHeap → Prop) : execC Try.prog γ pol33 Try.f33 c33 [a0] H K = S33 γ a0 H K := by kernel_rfl
theorem C33 {a0 : AV} {H : AHeap} {K : AV → AHeap → Prop} (h : S33 (CallsA Try.prog) a0 H K) : CallsA Try.prog 33 [a0] H K :=
  calls_of Try.func33 (ne_of_beq_false (by kernel_rfl)) c33_eq (by kernel_rfl) (by rw [S33_eq]; exact h)
/-! tithing/datagram.within -/
def pol38 : Pol := { lend := fun _ => true, keep := [], frz := fun _ => [], perm := fun r => [], bf := fun r => [], ret := true }
def S38 (γ : Calld) (a0 a1 a2 : AV) (H : AHeap) (K : AV → AHeap → Prop) : Prop :=
  optA (intA .geq a0 a1) fun v1 => ifA v1 (optA (intA .leq a0 a2) fun v2 => retF [v2] H K) (retF [.d (.bool false)] H K)
noncomputable def r38_0 : List Oper := regOps Try.f38 0
noncomputable def r38_1 : List Oper := regOps Try.f38 1
noncomputable def c38 : Code := (.seq (.region 0 #[opAt r38_0 0] false) (.seq (.region 1 #[opAt r38_1 0, opAt r38_1 1, opAt r38_1 2, opAt r38_1 3, opAt r38_1 4, opAt r38_1 5, opAt r38_1 6, opAt r38_1 7, opAt r38_1 8] false) .ret))
theorem c38_eq : Try.f38.body = some c38 := by kernel_rfl
theorem S38_eq (γ : Calld) (a0 a1 a2 : AV) (H : AHeap) (K : AV → AHeap → Prop) : execC Try.prog γ pol38 Try.f38 c38 [a0, a1, a2] H K = S38 γ a0 a1 a2 H K := by kernel_rfl
theorem C38 {a0 a1 a2 : AV} {H : AHeap} {K : AV → AHeap → Prop} (h : S38 (CallsA Try.prog) a0 a1 a2 H K) : CallsA Try.prog 38 [a0, a1, a2] H K :=
  calls_of Try.func38 (ne_of_beq_false (by kernel_rfl)) c38_eq (by kernel_rfl) (by rw [S38_eq]; exact h)
/-! tithing/datagram.isAddr -/
def pol39 : Pol := { lend := fun _ => true, keep := [], frz := fun _ => [], perm := fun r => [], bf := fun r => [], ret := true }
def S39 (γ : Calld) (a0 : AV) (H : AHeap) (K : AV → AHeap → Prop) : Prop :=
  newK H (fun n3 => boxA a0 n3) fun v1 H2 => optA (fieldA ti23 v1 0) fun v4 => optA (ldV false 1 v4 H2) fun v5 => frzLK [v5, .d (.int .i64 0), .d (.int .i64 65279)] H2 fun l8 H9 => γ 38 l8 H9 fun v6 H7 => ifA v6 (optA (fieldA ti23 v1 1) fun v10 => optA (ldV false 1 v10 H7) fun v11 => frzLK [v11, .d (.int .i64 0), .d (.int .i64 255)] H7 fun l14 H15 => γ 38 l14 H15 fun v12 H13 => retF [v12] H13 K) (retF [.d (.bool false)] H7 K)
noncomputable def r39_0 : List Oper := regOps Try.f39 0
noncomputable def r39_1 : List Oper := regOps Try.f39 1
noncomputable def c39 : Code := (.seq (.region 0 #[opAt r39_0 0, opAt r39_0 1] false) (.seq (.region 1 #[opAt r39_1 0, opAt r39_1 1, opAt r39_1 2, opAt r39_1 3, opAt r39_1 4, opAt r39_1 5, opAt r39_1 6, opAt r39_1 7, opAt r39_1 8] false) .ret))
theorem c39_eq : Try.f39.body = some c39 := by kernel_rfl
theorem S39_eq (γ : Calld) (a0 : AV) (H : AHeap) (K : AV → AHeap → Prop) : execC Try.prog γ pol39 Try.f39 c39 [a0] H K = S39 γ a0 H K := by kernel_rfl
theorem C39 {a0 : AV} {H : AHeap} {K : AV → AHeap → Prop} (h : S39 (CallsA Try.prog) a0 H K) : CallsA Try.prog 39 [a0] H K :=
  calls_of Try.func39 (ne_of_beq_false (by kernel_rfl)) c39_eq (by kernel_rfl) (by rw [S39_eq]; exact h)
/-! tithing/tithingref04.isNet -/
def pol40 : Pol := { lend := fun _ => true, keep := [], frz := fun _ => [], perm := fun r => [], bf := fun r => [], ret := true }
def S40 (γ : Calld) (a0 : AV) (H : AHeap) (K : AV → AHeap → Prop) : Prop :=
  optA (intA .geq a0 (.d (.int .i64 0))) fun v1 => ifA v1 (optA (intA .leq a0 (.d (.int .i64 65279))) fun v2 => retF [v2] H K) (retF [.d (.bool false)] H K)
noncomputable def r40_0 : List Oper := regOps Try.f40 0
noncomputable def r40_1 : List Oper := regOps Try.f40 1
noncomputable def c40 : Code := (.seq (.region 0 #[opAt r40_0 0] false) (.seq (.region 1 #[opAt r40_1 0, opAt r40_1 1, opAt r40_1 2, opAt r40_1 3, opAt r40_1 4, opAt r40_1 5, opAt r40_1 6] false) .ret))
theorem c40_eq : Try.f40.body = some c40 := by kernel_rfl
theorem S40_eq (γ : Calld) (a0 : AV) (H : AHeap) (K : AV → AHeap → Prop) : execC Try.prog γ pol40 Try.f40 c40 [a0] H K = S40 γ a0 H K := by kernel_rfl
theorem C40 {a0 : AV} {H : AHeap} {K : AV → AHeap → Prop} (h : S40 (CallsA Try.prog) a0 H K) : CallsA Try.prog 40 [a0] H K :=
  calls_of Try.func40 (ne_of_beq_false (by kernel_rfl)) c40_eq (by kernel_rfl) (by rw [S40_eq]; exact h)
/-! tithing/tithingref04.isByte -/
def pol41 : Pol := { lend := fun _ => true, keep := [], frz := fun _ => [], perm := fun r => [], bf := fun r => [], ret := true }
def S41 (γ : Calld) (a0 : AV) (H : AHeap) (K : AV → AHeap → Prop) : Prop :=
  optA (intA .geq a0 (.d (.int .i64 0))) fun v1 => ifA v1 (optA (intA .leq a0 (.d (.int .i64 255))) fun v2 => retF [v2] H K) (retF [.d (.bool false)] H K)
noncomputable def r41_0 : List Oper := regOps Try.f41 0
noncomputable def r41_1 : List Oper := regOps Try.f41 1
noncomputable def c41 : Code := (.seq (.region 0 #[opAt r41_0 0] false) (.seq (.region 1 #[opAt r41_1 0, opAt r41_1 1, opAt r41_1 2, opAt r41_1 3, opAt r41_1 4, opAt r41_1 5, opAt r41_1 6] false) .ret))
theorem c41_eq : Try.f41.body = some c41 := by kernel_rfl
theorem S41_eq (γ : Calld) (a0 : AV) (H : AHeap) (K : AV → AHeap → Prop) : execC Try.prog γ pol41 Try.f41 c41 [a0] H K = S41 γ a0 H K := by kernel_rfl
theorem C41 {a0 : AV} {H : AHeap} {K : AV → AHeap → Prop} (h : S41 (CallsA Try.prog) a0 H K) : CallsA Try.prog 41 [a0] H K :=
  calls_of Try.func41 (ne_of_beq_false (by kernel_rfl)) c41_eq (by kernel_rfl) (by rw [S41_eq]; exact h)
/-! slices.Grow[[]byte,byte] -/
def pol45 : Pol := { lend := fun _ => true, keep := [], frz := fun _ => [], perm := fun r => [], bf := fun r => [], ret := false }
def S45 (γ : Calld) (a0 a1 : AV) (H : AHeap) (K : AV → AHeap → Prop) : Prop :=
  optA (intA .lss a1 (.d (.int .i64 0))) fun v1 => ifA v1 (False) (optA (capA a0) fun v4 => optA (lenSl a0) fun v5 => optA (intA .sub v4 v5) fun v6 => optA (intA .sub a1 v6) fun v7 => optA (intA .gtr v7 (.d (.int .i64 0))) fun v8 => ifA v8 (optA (capA a0) fun v9 => optA (sliceA 1 a0 none (some v9) none H) fun v10 => newK H (fun n13 => apzA ti5 v10 v7 H n13) fun v11 H12 => optA (lenSl a0) fun v14 => optA (sliceA 1 v11 none (some v14) none H12) fun v15 => finA v15 H12 K) (finA a0 H K))
noncomputable def r45_0 : List Oper := regOps Try.f45 0
noncomputable def r45_1 : List Oper := regOps Try.f45 1
noncomputable def r45_2 : List Oper := regOps Try.f45 2
noncomputable def r45_3 : List Oper := regOps Try.f45 3
noncomputable def r45_4 : List Oper := regOps Try.f45 4
noncomputable def r45_5 : List Oper := regOps Try.f45 5
noncomputable def r45_6 : List Oper := regOps Try.f45 6
noncomputable def c45 : Code := (.seq (.region 0 #[opAt r45_0 0] false) (.seq (.seq (.region 1 #[opAt r45_1 0, opAt r45_1 1] false) (.cond (.tmp 6) (.region 2 #[opAt r45_2 0, opAt r45_2 1] false) .skip)) (.seq (.seq (.region 3 #[opAt r45_3 0, opAt r45_3 1, opAt r45_3 2, opAt r45_3 3, opAt r45_3 4, opAt r45_3 5, opAt r45_3 6, opAt r45_3 7] false) (.seq (.region 4 #[opAt r45_4 0, opAt r45_4 1] false) (.cond (.tmp 16) (.region 5 #[opAt r45_5 0, opAt r45_5 1, opAt r45_5 2, opAt r45_5 3, opAt r45_5 4, opAt r45_5 5, opAt r45_5 6, opAt r45_5 7, opAt r45_5 8, opAt r45_5 9] false) .skip))) (.seq (.region 6 #[opAt r45_6 0, opAt r45_6 1] false) .ret))))
theorem c45_eq : Try.f45.body = some c45 := by kernel_rfl
theorem S45_eq (γ : Calld) (a0 a1 : AV) (H : AHeap) (K : AV → AHeap → Prop) : execC Try.prog γ pol45 Try.f45 c45 [a0, a1] H K = S45 γ a0 a1 H K := by kernel_rfl
theorem C45 {a0 a1 : AV} {H : AHeap} {K : AV → AHeap → Prop} (h : S45 (CallsA Try.prog) a0 a1 H K) : CallsA Try.prog 45 [a0, a1] H K :=
  calls_of Try.func45 (ne_of_beq_false (by kernel_rfl)) c45_eq (by kernel_rfl) (by rw [S45_eq]; exact h)
end Go.Proofs.Ytkpogkmnfakciaa

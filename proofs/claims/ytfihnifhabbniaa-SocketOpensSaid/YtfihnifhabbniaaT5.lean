/- What the functions do, printed by a program of mine out of their code; Lean checks each equation. -/
import Derived.Test.YtfihnifhabbniaaA25
import Derived.Test.YtfihnifhabbniaaProg
import Derived.KernelRfl
set_option maxRecDepth 100000
set_option linter.unusedVariables false
namespace Go.Proofs.Ytfihnifhabbniaa
open Go Go.AM Go.Proofs
def ti22 : TI := { agg := false, size := 1, bytes := 24, zero := [.d (.sl true [])], k := .slice 5 }
def ti28 : TI := { agg := true, size := 2, bytes := 16, zero := [.d (.int .i64 0), .d (.int .i64 0)], k := .struct [(0, 3), (1, 3)] }
theorem ti28_f0 {i v e o : Nat} : fieldA ti28 (.ptr i v e o) 0 = some (.ptr i v e (o + 0)) := rfl
theorem ti28_v0 {cs : List Dat} {o : Nat} : fieldA ti28 (.vptr cs o) 0 = some (.vptr cs (o + 0)) := rfl
theorem ti28_f1 {i v e o : Nat} : fieldA ti28 (.ptr i v e o) 1 = some (.ptr i v e (o + 1)) := rfl
theorem ti28_v1 {cs : List Dat} {o : Nat} : fieldA ti28 (.vptr cs o) 1 = some (.vptr cs (o + 1)) := rfl
def ti72 : TI := { agg := true, size := 3, bytes := 24, zero := [.d (.int .i64 0), .d (.int .i64 0), .nilmap], k := .struct [(0, 28), (2, 70)] }
theorem ti72_f0 {i v e o : Nat} : fieldA ti72 (.ptr i v e o) 0 = some (.ptr i v e (o + 0)) := rfl
theorem ti72_v0 {cs : List Dat} {o : Nat} : fieldA ti72 (.vptr cs o) 0 = some (.vptr cs (o + 0)) := rfl
theorem ti72_f1 {i v e o : Nat} : fieldA ti72 (.ptr i v e o) 1 = some (.ptr i v e (o + 2)) := rfl
theorem ti72_v1 {cs : List Dat} {o : Nat} : fieldA ti72 (.vptr cs o) 1 = some (.vptr cs (o + 2)) := rfl
theorem bd28 {parts : List (Nat × AV)} : buildA Try.prog ti28 parts = (fillA (fun i => (([(0, 3), (1, 3)] : List (Nat × TypeId))[i]?).map fun f => (f.1, Try.prog.cellsOf f.2)) [.d (.int .i64 0), .d (.int .i64 0)] parts).map AV.agg := rfl
theorem bd72 {parts : List (Nat × AV)} : buildA Try.prog ti72 parts = (fillA (fun i => (([(0, 28), (2, 70)] : List (Nat × TypeId))[i]?).map fun f => (f.1, Try.prog.cellsOf f.2)) [.d (.int .i64 0), .d (.int .i64 0), .nilmap] parts).map AV.agg := rfl
theorem cell3 : Try.prog.cellsOf 3 = 1 := by kernel_rfl
theorem cell5 : Try.prog.cellsOf 5 = 1 := by kernel_rfl
theorem cell28 : Try.prog.cellsOf 28 = 2 := by kernel_rfl
theorem cell70 : Try.prog.cellsOf 70 = 1 := by kernel_rfl
/-! tithing/tithinglaw05.SocketOpens -/
def pol3 : Pol := { lend := fun _ => true, keep := [0, 5, 7, 12, 13], frz := fun _ => [], perm := fun r => [], bf := fun r => [], ret := true }
def S3 (γ : Calld) (a0 a1 : AV) (H : AHeap) (K : AV → AHeap → Prop) : Prop :=
  stepK (bdA Try.prog ti28 [0, 1] [.d (.int .i64 1), .d (.int .i64 1)] H) H fun v1 H2 => frzLK [v1] H2 fun l5 H6 => γ 10 l5 H6 fun v3 H4 => optA (extractA v3 0) fun v7 => optA (extractA v3 1) fun v8 => optA (intA .neq v8 (.d (.int .i64 0))) fun v9 => ifA v9 (optA (intA .eql v8 (.d (.int .i64 0))) fun v10 => ifA v10 (optA (nilA 3 .neq v7 .nilptr) fun v11 => ifA v11 (frzLK [] H4 fun l14 H15 => γ 11 l14 H15 fun v12 H13 => retF [v12] H13 K) (retF [.d (.bool false)] H4 K)) (retF [.d (.bool false)] H4 K)) (optA (nilA 3 .eql v7 .nilptr) fun v16 => ifA v16 (optA (intA .eql v8 (.d (.int .i64 0))) fun v17 => ifA v17 (optA (nilA 3 .neq v7 .nilptr) fun v18 => ifA v18 (frzLK [] H4 fun l21 H22 => γ 11 l21 H22 fun v19 H20 => retF [v19] H20 K) (retF [.d (.bool false)] H4 K)) (retF [.d (.bool false)] H4 K)) (optA (lenSl a0) fun v23 => optA (intA .gtr v23 (.d (.int .i64 50))) fun v24 => ifA v24 (optA (intA .eql v8 (.d (.int .i64 0))) fun v25 => ifA v25 (optA (nilA 3 .neq v7 .nilptr) fun v26 => ifA v26 (frzLK [] H4 fun l29 H30 => γ 11 l29 H30 fun v27 H28 => retF [v27] H28 K) (retF [.d (.bool false)] H4 K)) (retF [.d (.bool false)] H4 K)) (loopA (fun X31 l32 H33 => optA (intA .leq (l32.getD 2 .junk) (.d (.int .i64 254))) fun v34 => ifA v34 (frzLK [l32.getD 1 .junk, .d (.int .i64 0)] H33 fun l37 H38 => γ 12 l37 H38 fun v35 H36 => optA (extractA v35 0) fun v39 => optA (extractA v35 1) fun v40 => optA (intA .neq v40 (.d (.int .i64 0))) fun v41 => ifA v41 (retF [.d (.bool false)] H36 K) (optA (intA .neq v39 (l32.getD 2 .junk)) fun v42 => ifA v42 (retF [.d (.bool false)] H36 K) (optA (intA .add (l32.getD 2 .junk) (.d (.int .i64 1))) fun v43 => X31 [l32.getD 0 .junk, l32.getD 1 .junk, v43, l32.getD 3 .junk, l32.getD 4 .junk] H36))) (frzLK [l32.getD 1 .junk, .d (.int .i64 0)] H33 fun l46 H47 => γ 12 l46 H47 fun v44 H45 => optA (extractA v44 0) fun v48 => optA (extractA v44 1) fun v49 => optA (intA .neq v49 (.d (.int .i64 4))) fun v50 => ifA v50 (retF [.d (.bool false)] H45 K) (loopA (fun X51 l52 H53 => optA (lenSl (l52.getD 0 .junk)) fun v54 => optA (intA .lss (l52.getD 4 .junk) v54) fun v55 => ifA v55 (optA (indexAddrA ti22 1 (l52.getD 0 .junk) (l52.getD 4 .junk)) fun v56 => optA (ldV false 1 v56 H53) fun v57 => optA (cvI .i64 v57) fun v58 => optA (intA .rem v58 (.d (.int .i64 127))) fun v59 => optA (intA .add (.d (.int .i64 128)) v59) fun v60 => frzLK [l52.getD 1 .junk, v60] H53 fun l63 H64 => γ 13 l63 H64 fun v61 H62 => optA (intA .lss v60 (l52.getD 3 .junk)) fun v65 => ifA v65 (optA (intA .add (l52.getD 4 .junk) (.d (.int .i64 1))) fun v66 => X51 [l52.getD 0 .junk, l52.getD 1 .junk, l52.getD 2 .junk, v60, v66] H62) (optA (intA .add (l52.getD 4 .junk) (.d (.int .i64 1))) fun v67 => X51 [l52.getD 0 .junk, l52.getD 1 .junk, l52.getD 2 .junk, l52.getD 3 .junk, v67] H62)) (frzLK [l52.getD 1 .junk, .d (.int .i64 0)] H53 fun l70 H71 => γ 12 l70 H71 fun v68 H69 => optA (extractA v68 0) fun v72 => optA (extractA v68 1) fun v73 => optA (intA .eql (l52.getD 3 .junk) (.d (.int .i64 255))) fun v74 => ifA v74 (optA (intA .eql v73 (.d (.int .i64 4))) fun v75 => ifA v75 (frzLK [] H69 fun l78 H79 => γ 11 l78 H79 fun v76 H77 => retF [v76] H77 K) (retF [.d (.bool false)] H69 K)) (optA (intA .eql v73 (.d (.int .i64 0))) fun v80 => ifA v80 (optA (intA .eql v72 (l52.getD 3 .junk)) fun v81 => ifA v81 (frzLK [] H69 fun l84 H85 => γ 11 l84 H85 fun v82 H83 => retF [v82] H83 K) (retF [.d (.bool false)] H69 K)) (retF [.d (.bool false)] H69 K)))) [l32.getD 0 .junk, l32.getD 1 .junk, l32.getD 2 .junk, .d (.int .i64 255), .d (.int .i64 0)] H45))) [a0, v7, .d (.int .i64 128), .junk, .junk] H4)))
noncomputable def r3_0 : List Oper := regOps Try.f3 0
noncomputable def r3_1 : List Oper := regOps Try.f3 1
noncomputable def r3_2 : List Oper := regOps Try.f3 2
noncomputable def r3_3 : List Oper := regOps Try.f3 3
noncomputable def r3_4 : List Oper := regOps Try.f3 4
noncomputable def r3_5 : List Oper := regOps Try.f3 5
noncomputable def r3_6 : List Oper := regOps Try.f3 6
noncomputable def r3_7 : List Oper := regOps Try.f3 7
noncomputable def r3_8 : List Oper := regOps Try.f3 8
noncomputable def r3_9 : List Oper := regOps Try.f3 9
noncomputable def r3_10 : List Oper := regOps Try.f3 10
noncomputable def r3_11 : List Oper := regOps Try.f3 11
noncomputable def r3_12 : List Oper := regOps Try.f3 12
noncomputable def r3_13 : List Oper := regOps Try.f3 13
noncomputable def r3_14 : List Oper := regOps Try.f3 14
noncomputable def r3_15 : List Oper := regOps Try.f3 15
noncomputable def r3_16 : List Oper := regOps Try.f3 16
noncomputable def r3_17 : List Oper := regOps Try.f3 17
noncomputable def r3_18 : List Oper := regOps Try.f3 18
noncomputable def r3_19 : List Oper := regOps Try.f3 19
noncomputable def r3_20 : List Oper := regOps Try.f3 20
noncomputable def r3_21 : List Oper := regOps Try.f3 21
noncomputable def r3_22 : List Oper := regOps Try.f3 22
noncomputable def r3_23 : List Oper := regOps Try.f3 23
noncomputable def r3_24 : List Oper := regOps Try.f3 24
noncomputable def c3 : Code := (.seq (.region 0 #[opAt r3_0 0] false) (.seq (.region 1 #[opAt r3_1 0, opAt r3_1 1, opAt r3_1 2, opAt r3_1 3, opAt r3_1 4, opAt r3_1 5, opAt r3_1 6] false) (.seq (.seq (.region 2 #[opAt r3_2 0, opAt r3_2 1, opAt r3_2 2, opAt r3_2 3, opAt r3_2 4, opAt r3_2 5, opAt r3_2 6, opAt r3_2 7, opAt r3_2 8, opAt r3_2 9, opAt r3_2 10] false) (.cond (.tmp 31) (.seq (.region 3 #[opAt r3_3 0, opAt r3_3 1, opAt r3_3 2, opAt r3_3 3, opAt r3_3 4, opAt r3_3 5, opAt r3_3 6, opAt r3_3 7, opAt r3_3 8, opAt r3_3 9] false) .ret) .skip)) (.seq (.seq (.region 4 #[opAt r3_4 0] false) (.block 0 (.loop (.seq (.seq (.region 5 #[opAt r3_5 0, opAt r3_5 1] false) (.cond (.tmp 42) .skip (.exit 0))) (.seq (.block 1 (.seq (.region 7 #[opAt r3_6 0, opAt r3_6 1, opAt r3_6 2, opAt r3_6 3, opAt r3_6 4, opAt r3_6 5, opAt r3_6 6] false) (.seq (.region 8 #[opAt r3_7 0, opAt r3_7 1, opAt r3_7 2, opAt r3_7 3, opAt r3_7 4, opAt r3_7 5, opAt r3_7 6] false) (.cond (.tmp 56) (.seq (.region 9 #[opAt r3_8 0] false) .ret) .skip)))) (.region 6 #[opAt r3_9 0, opAt r3_9 1, opAt r3_9 2] false)))))) (.seq (.seq (.region 10 #[opAt r3_10 0, opAt r3_10 1, opAt r3_10 2, opAt r3_10 3, opAt r3_10 4, opAt r3_10 5, opAt r3_10 6] false) (.seq (.region 11 #[opAt r3_11 0, opAt r3_11 1] false) (.cond (.tmp 63) (.seq (.region 12 #[opAt r3_12 0] false) .ret) .skip))) (.seq (.region 13 #[opAt r3_13 0] false) (.seq (.seq (.region 14 #[opAt r3_14 0] false) (.block 2 (.loop (.seq (.seq (.region 15 #[opAt r3_15 0, opAt r3_15 1, opAt r3_15 2, opAt r3_15 3] false) (.cond (.tmp 67) .skip (.exit 2))) (.seq (.block 3 (.seq (.region 17 #[opAt r3_16 0, opAt r3_16 1, opAt r3_16 2, opAt r3_16 3, opAt r3_16 4, opAt r3_16 5, opAt r3_16 6, opAt r3_16 7] false) (.seq (.region 18 #[opAt r3_17 0, opAt r3_17 1, opAt r3_17 2] false) (.seq (.region 19 #[opAt r3_18 0, opAt r3_18 1, opAt r3_18 2] false) (.cond (.tmp 82) (.region 20 #[opAt r3_19 0, opAt r3_19 1] false) .skip))))) (.region 16 #[opAt r3_20 0, opAt r3_20 1, opAt r3_20 2] false)))))) (.seq (.region 21 #[opAt r3_21 0, opAt r3_21 1, opAt r3_21 2, opAt r3_21 3, opAt r3_21 4, opAt r3_21 5, opAt r3_21 6] false) (.seq (.seq (.region 22 #[opAt r3_22 0, opAt r3_22 1] false) (.cond (.tmp 90) (.seq (.region 23 #[opAt r3_23 0, opAt r3_23 1, opAt r3_23 2, opAt r3_23 3, opAt r3_23 4, opAt r3_23 5] false) .ret) .skip)) (.seq (.region 24 #[opAt r3_24 0, opAt r3_24 1, opAt r3_24 2, opAt r3_24 3, opAt r3_24 4, opAt r3_24 5, opAt r3_24 6, opAt r3_24 7, opAt r3_24 8, opAt r3_24 9, opAt r3_24 10] false) .ret))))))))))
theorem c3_eq : Try.f3.body = some c3 := by kernel_rfl
theorem S3_eq (γ : Calld) (a0 a1 : AV) (H : AHeap) (K : AV → AHeap → Prop) : execC Try.prog γ pol3 Try.f3 c3 [a0, a1] H K = S3 γ a0 a1 H K := by kernel_rfl
theorem C3 {a0 a1 : AV} {H : AHeap} {K : AV → AHeap → Prop} (h : S3 (CallsA Try.prog) a0 a1 H K) : CallsA Try.prog 3 [a0, a1] H K :=
  calls_of Try.func3 (ne_of_beq_false (by kernel_rfl)) c3_eq (by kernel_rfl) (by rw [S3_eq]; exact h)
/-! tithing/socket.New -/
def pol10 : Pol := { lend := fun _ => true, keep := [], frz := fun _ => [], perm := fun r => [], bf := fun r => [], ret := true }
def S10 (γ : Calld) (a0 : AV) (H : AHeap) (K : AV → AHeap → Prop) : Prop :=
  newK H (fun n3 => boxA a0 n3) fun v1 H2 => optA (ldV true 2 v1 H2) fun v4 => frzLK [v4] H2 fun l7 H8 => γ 31 l7 H8 fun v5 H6 => optA (unA .not v5) fun v9 => ifA v9 (retF [.nilptr, .d (.int .i64 2)] H6 K) (optA (ldV true 2 v1 H6) fun v10 => newK H6 (fun n13 => some (.map n13, [(n13, .map [] 0)])) fun v11 H12 => stepK (bdA Try.prog ti72 [0, 1] [v10, v11] H12) H12 fun v14 H15 => newK H15 (fun n18 => boxA v14 n18) fun v16 H17 => retF [v16, .d (.int .i64 0)] H17 K)
noncomputable def r10_0 : List Oper := regOps Try.f10 0
noncomputable def r10_1 : List Oper := regOps Try.f10 1
noncomputable def r10_2 : List Oper := regOps Try.f10 2
noncomputable def r10_3 : List Oper := regOps Try.f10 3
noncomputable def c10 : Code := (.seq (.region 0 #[opAt r10_0 0, opAt r10_0 1, opAt r10_0 2] false) (.seq (.seq (.region 1 #[opAt r10_1 0, opAt r10_1 1, opAt r10_1 2] false) (.cond (.tmp 6) (.seq (.region 2 #[opAt r10_2 0, opAt r10_2 1] false) .ret) .skip)) (.seq (.region 3 #[opAt r10_3 0, opAt r10_3 1, opAt r10_3 2, opAt r10_3 3, opAt r10_3 4, opAt r10_3 5] false) .ret)))
theorem c10_eq : Try.f10.body = some c10 := by kernel_rfl
theorem S10_eq (γ : Calld) (a0 : AV) (H : AHeap) (K : AV → AHeap → Prop) : execC Try.prog γ pol10 Try.f10 c10 [a0] H K = S10 γ a0 H K := by kernel_rfl
theorem C10 {a0 : AV} {H : AHeap} {K : AV → AHeap → Prop} (h : S10 (CallsA Try.prog) a0 H K) : CallsA Try.prog 10 [a0] H K :=
  calls_of Try.func10 (ne_of_beq_false (by kernel_rfl)) c10_eq (by kernel_rfl) (by rw [S10_eq]; exact h)
/-! tithing/tithinglaw05.First -/
def pol11 : Pol := { lend := fun _ => true, keep := [], frz := fun _ => [], perm := fun r => [], bf := fun r => [], ret := true }
def S11 (γ : Calld) (H : AHeap) (K : AV → AHeap → Prop) : Prop :=
  stepK (bdA Try.prog ti28 [0, 1] [.d (.int .i64 1), .d (.int .i64 2)] H) H fun v1 H2 => frzLK [v1] H2 fun l5 H6 => γ 10 l5 H6 fun v3 H4 => optA (extractA v3 0) fun v7 => optA (extractA v3 1) fun v8 => optA (intA .neq v8 (.d (.int .i64 0))) fun v9 => ifA v9 (retF [.d (.bool false)] H4 K) (optA (nilA 3 .eql v7 .nilptr) fun v10 => ifA v10 (retF [.d (.bool false)] H4 K) (frzLK [v7, .d (.int .i64 0)] H4 fun l13 H14 => γ 12 l13 H14 fun v11 H12 => optA (extractA v11 0) fun v15 => optA (extractA v11 1) fun v16 => frzLK [v7, .d (.int .i64 0)] H12 fun l19 H20 => γ 12 l19 H20 fun v17 H18 => optA (extractA v17 0) fun v21 => optA (extractA v17 1) fun v22 => optA (intA .eql v16 (.d (.int .i64 0))) fun v23 => ifA v23 (optA (intA .eql v22 (.d (.int .i64 0))) fun v24 => ifA v24 (optA (intA .eql v15 (.d (.int .i64 128))) fun v25 => ifA v25 (optA (intA .eql v21 (.d (.int .i64 129))) fun v26 => retF [v26] H18 K) (retF [.d (.bool false)] H18 K)) (retF [.d (.bool false)] H18 K)) (retF [.d (.bool false)] H18 K)))
noncomputable def r11_0 : List Oper := regOps Try.f11 0
noncomputable def r11_1 : List Oper := regOps Try.f11 1
noncomputable def r11_2 : List Oper := regOps Try.f11 2
noncomputable def r11_3 : List Oper := regOps Try.f11 3
noncomputable def r11_4 : List Oper := regOps Try.f11 4
noncomputable def r11_5 : List Oper := regOps Try.f11 5
noncomputable def r11_6 : List Oper := regOps Try.f11 6
noncomputable def c11 : Code := (.seq (.region 0 #[opAt r11_0 0] false) (.seq (.region 1 #[opAt r11_1 0, opAt r11_1 1, opAt r11_1 2, opAt r11_1 3, opAt r11_1 4, opAt r11_1 5, opAt r11_1 6] false) (.seq (.seq (.region 2 #[opAt r11_2 0, opAt r11_2 1, opAt r11_2 2, opAt r11_2 3, opAt r11_2 4, opAt r11_2 5] false) (.cond (.tmp 16) (.seq (.region 3 #[opAt r11_3 0] false) .ret) .skip)) (.seq (.region 4 #[opAt r11_4 0, opAt r11_4 1, opAt r11_4 2, opAt r11_4 3, opAt r11_4 4, opAt r11_4 5, opAt r11_4 6] false) (.seq (.region 5 #[opAt r11_5 0, opAt r11_5 1, opAt r11_5 2, opAt r11_5 3, opAt r11_5 4, opAt r11_5 5, opAt r11_5 6] false) (.seq (.region 6 #[opAt r11_6 0, opAt r11_6 1, opAt r11_6 2, opAt r11_6 3, opAt r11_6 4, opAt r11_6 5, opAt r11_6 6, opAt r11_6 7, opAt r11_6 8, opAt r11_6 9, opAt r11_6 10, opAt r11_6 11, opAt r11_6 12, opAt r11_6 13, opAt r11_6 14] false) .ret))))))
theorem c11_eq : Try.f11.body = some c11 := by kernel_rfl
theorem S11_eq (γ : Calld) (H : AHeap) (K : AV → AHeap → Prop) : execC Try.prog γ pol11 Try.f11 c11 [] H K = S11 γ H K := by kernel_rfl
theorem C11 {H : AHeap} {K : AV → AHeap → Prop} (h : S11 (CallsA Try.prog) H K) : CallsA Try.prog 11 [] H K :=
  calls_of Try.func11 (ne_of_beq_false (by kernel_rfl)) c11_eq (by kernel_rfl) (by rw [S11_eq]; exact h)
/-! (*tithing/socket.Node).Open -/
def pol12 : Pol := { lend := fun _ => true, keep := [0, 1], frz := fun _ => [], perm := fun r => [], bf := fun r => [], ret := true }
def S12 (γ : Calld) (a0 a1 : AV) (H : AHeap) (K : AV → AHeap → Prop) : Prop :=
  frzLK [a0] H fun l3 H4 => γ 32 l3 H4 fun v1 H2 => ifA v1 (retF [.d (.int .i64 0), .d (.int .i64 7)] H2 K) (optA (intA .lss a1 (.d (.int .i64 0))) fun v5 => ifA v5 (retF [.d (.int .i64 0), .d (.int .i64 2)] H2 K) (optA (intA .gtr a1 (.d (.int .i64 127))) fun v6 => ifA v6 (retF [.d (.int .i64 0), .d (.int .i64 2)] H2 K) (optA (intA .eql a1 (.d (.int .i64 4))) fun v7 => ifA v7 (retF [.d (.int .i64 0), .d (.int .i64 2)] H2 K) (frzLK [a0, a1] H2 fun l10 H11 => γ 33 l10 H11 fun v8 H9 => ifA v8 (retF [.d (.int .i64 0), .d (.int .i64 8)] H9 K) (optA (intA .eql a1 (.d (.int .i64 0))) fun v12 => ifA v12 (loopA (fun X13 l14 H15 => frzLK [l14.getD 0 .junk, l14.getD 1 .junk] H15 fun l18 H19 => γ 33 l18 H19 fun v16 H17 => ifA v16 (optA (intA .add (l14.getD 1 .junk) (.d (.int .i64 1))) fun v20 => X13 [l14.getD 0 .junk, v20] H17) (optA (intA .gtr (l14.getD 1 .junk) (.d (.int .i64 254))) fun v21 => ifA v21 (retF [.d (.int .i64 0), .d (.int .i64 4)] H17 K) (optA (nilCkA (l14.getD 0 .junk)) fun v22 => optA (fieldA ti72 v22 1) fun v23 => optA (ldV false 1 v23 H17) fun v24 => stepK (muA Try.prog 3 v24 (l14.getD 1 .junk) (.d (.sl true [])) H17) H17 fun v25 H26 => retF [l14.getD 1 .junk, .d (.int .i64 0)] H26 K))) [a0, .d (.int .i64 128)] H9) (optA (intA .gtr a1 (.d (.int .i64 254))) fun v27 => ifA v27 (retF [.d (.int .i64 0), .d (.int .i64 4)] H9 K) (optA (nilCkA a0) fun v28 => optA (fieldA ti72 v28 1) fun v29 => optA (ldV false 1 v29 H9) fun v30 => stepK (muA Try.prog 3 v30 a1 (.d (.sl true [])) H9) H9 fun v31 H32 => retF [a1, .d (.int .i64 0)] H32 K)))))))
noncomputable def r12_0 : List Oper := regOps Try.f12 0
noncomputable def r12_1 : List Oper := regOps Try.f12 1
noncomputable def r12_2 : List Oper := regOps Try.f12 2
noncomputable def r12_3 : List Oper := regOps Try.f12 3
noncomputable def r12_4 : List Oper := regOps Try.f12 4
noncomputable def r12_5 : List Oper := regOps Try.f12 5
noncomputable def r12_6 : List Oper := regOps Try.f12 6
noncomputable def r12_7 : List Oper := regOps Try.f12 7
noncomputable def r12_8 : List Oper := regOps Try.f12 8
noncomputable def r12_9 : List Oper := regOps Try.f12 9
noncomputable def r12_10 : List Oper := regOps Try.f12 10
noncomputable def r12_11 : List Oper := regOps Try.f12 11
noncomputable def r12_12 : List Oper := regOps Try.f12 12
noncomputable def r12_13 : List Oper := regOps Try.f12 13
noncomputable def r12_14 : List Oper := regOps Try.f12 14
noncomputable def c12 : Code := (.seq (.region 0 #[opAt r12_0 0, opAt r12_0 1] false) (.seq (.block 0 (.seq (.region 1 #[opAt r12_1 0, opAt r12_1 1, opAt r12_1 2] false) (.cond (.tmp 6) (.seq (.region 2 #[opAt r12_2 0, opAt r12_2 1] false) .ret) (.seq (.region 3 #[opAt r12_3 0, opAt r12_3 1, opAt r12_3 2, opAt r12_3 3, opAt r12_3 4, opAt r12_3 5, opAt r12_3 6, opAt r12_3 7, opAt r12_3 8, opAt r12_3 9, opAt r12_3 10] false) (.cond (.tmp 9) (.seq (.region 4 #[opAt r12_4 0, opAt r12_4 1] false) .ret) (.seq (.region 5 #[opAt r12_5 0, opAt r12_5 1, opAt r12_5 2, opAt r12_5 3] false) (.cond (.tmp 20) (.seq (.region 6 #[opAt r12_6 0, opAt r12_6 1] false) .ret) .skip))))))) (.seq (.seq (.region 7 #[opAt r12_7 0, opAt r12_7 1] false) (.cond (.tmp 25) (.seq (.region 8 #[opAt r12_8 0] false) (.block 1 (.loop (.seq (.seq (.region 9 #[opAt r12_9 0, opAt r12_9 1, opAt r12_9 2] false) (.cond (.tmp 28) .skip (.exit 1))) (.block 2 (.region 10 #[opAt r12_10 0, opAt r12_10 1, opAt r12_10 2] false)))))) .skip)) (.seq (.seq (.region 11 #[opAt r12_11 0, opAt r12_11 1] false) (.cond (.tmp 32) (.seq (.region 12 #[opAt r12_12 0, opAt r12_12 1] false) .ret) .skip)) (.seq (.region 13 #[opAt r12_13 0, opAt r12_13 1, opAt r12_13 2, opAt r12_13 3, opAt r12_13 4, opAt r12_13 5] false) (.seq (.region 14 #[opAt r12_14 0, opAt r12_14 1, opAt r12_14 2] false) .ret))))))
theorem c12_eq : Try.f12.body = some c12 := by kernel_rfl
theorem S12_eq (γ : Calld) (a0 a1 : AV) (H : AHeap) (K : AV → AHeap → Prop) : execC Try.prog γ pol12 Try.f12 c12 [a0, a1] H K = S12 γ a0 a1 H K := by kernel_rfl
theorem C12 {a0 a1 : AV} {H : AHeap} {K : AV → AHeap → Prop} (h : S12 (CallsA Try.prog) a0 a1 H K) : CallsA Try.prog 12 [a0, a1] H K :=
  calls_of Try.func12 (ne_of_beq_false (by kernel_rfl)) c12_eq (by kernel_rfl) (by rw [S12_eq]; exact h)
/-! (*tithing/socket.Node).Close -/
def pol13 : Pol := { lend := fun _ => true, keep := [], frz := fun _ => [], perm := fun r => [], bf := fun r => [], ret := true }
def S13 (γ : Calld) (a0 a1 : AV) (H : AHeap) (K : AV → AHeap → Prop) : Prop :=
  frzLK [a0] H fun l3 H4 => γ 32 l3 H4 fun v1 H2 => ifA v1 (retF [.d (.int .i64 7)] H2 K) (optA (intA .eql a1 (.d (.int .i64 4))) fun v5 => ifA v5 (retF [.d (.int .i64 2)] H2 K) (frzLK [a0, a1] H2 fun l8 H9 => γ 33 l8 H9 fun v6 H7 => optA (unA .not v6) fun v10 => ifA v10 (retF [.d (.int .i64 5)] H7 K) (optA (nilCkA a0) fun v11 => optA (fieldA ti72 v11 1) fun v12 => optA (ldV false 1 v12 H7) fun v13 => stepK (mdA Try.prog 3 v13 a1 H7) H7 fun v14 H15 => retF [.d (.int .i64 0)] H15 K)))
noncomputable def r13_0 : List Oper := regOps Try.f13 0
noncomputable def r13_1 : List Oper := regOps Try.f13 1
noncomputable def r13_2 : List Oper := regOps Try.f13 2
noncomputable def r13_3 : List Oper := regOps Try.f13 3
noncomputable def r13_4 : List Oper := regOps Try.f13 4
noncomputable def r13_5 : List Oper := regOps Try.f13 5
noncomputable def r13_6 : List Oper := regOps Try.f13 6
noncomputable def r13_7 : List Oper := regOps Try.f13 7
noncomputable def r13_8 : List Oper := regOps Try.f13 8
noncomputable def c13 : Code := (.seq (.region 0 #[opAt r13_0 0] false) (.seq (.block 0 (.seq (.region 1 #[opAt r13_1 0, opAt r13_1 1, opAt r13_1 2] false) (.cond (.tmp 5) (.seq (.region 2 #[opAt r13_2 0] false) .ret) (.seq (.region 3 #[opAt r13_3 0, opAt r13_3 1, opAt r13_3 2] false) (.cond (.tmp 8) (.seq (.region 4 #[opAt r13_4 0] false) .ret) (.seq (.region 5 #[opAt r13_5 0, opAt r13_5 1, opAt r13_5 2, opAt r13_5 3, opAt r13_5 4] false) (.cond (.tmp 11) (.seq (.region 6 #[opAt r13_6 0] false) .ret) .skip))))))) (.seq (.region 7 #[opAt r13_7 0, opAt r13_7 1, opAt r13_7 2, opAt r13_7 3, opAt r13_7 4, opAt r13_7 5] false) (.seq (.region 8 #[opAt r13_8 0] false) .ret))))
theorem c13_eq : Try.f13.body = some c13 := by kernel_rfl
theorem S13_eq (γ : Calld) (a0 a1 : AV) (H : AHeap) (K : AV → AHeap → Prop) : execC Try.prog γ pol13 Try.f13 c13 [a0, a1] H K = S13 γ a0 a1 H K := by kernel_rfl
theorem C13 {a0 a1 : AV} {H : AHeap} {K : AV → AHeap → Prop} (h : S13 (CallsA Try.prog) a0 a1 H K) : CallsA Try.prog 13 [a0, a1] H K :=
  calls_of Try.func13 (ne_of_beq_false (by kernel_rfl)) c13_eq (by kernel_rfl) (by rw [S13_eq]; exact h)
/-! tithing/socket.isAt -/
def pol31 : Pol := { lend := fun _ => true, keep := [], frz := fun _ => [], perm := fun r => [], bf := fun r => [], ret := true }
def S31 (γ : Calld) (a0 : AV) (H : AHeap) (K : AV → AHeap → Prop) : Prop :=
  newK H (fun n3 => boxA a0 n3) fun v1 H2 => optA (fieldA ti28 v1 0) fun v4 => optA (ldV false 1 v4 H2) fun v5 => optA (intA .geq v5 (.d (.int .i64 0))) fun v6 => ifA v6 (optA (fieldA ti28 v1 0) fun v7 => optA (ldV false 1 v7 H2) fun v8 => optA (intA .leq v8 (.d (.int .i64 65279))) fun v9 => ifA v9 (optA (fieldA ti28 v1 1) fun v10 => optA (ldV false 1 v10 H2) fun v11 => optA (intA .geq v11 (.d (.int .i64 1))) fun v12 => ifA v12 (optA (fieldA ti28 v1 1) fun v13 => optA (ldV false 1 v13 H2) fun v14 => optA (intA .leq v14 (.d (.int .i64 254))) fun v15 => retF [v15] H2 K) (retF [.d (.bool false)] H2 K)) (retF [.d (.bool false)] H2 K)) (retF [.d (.bool false)] H2 K)
noncomputable def r31_0 : List Oper := regOps Try.f31 0
noncomputable def r31_1 : List Oper := regOps Try.f31 1
noncomputable def c31 : Code := (.seq (.region 0 #[opAt r31_0 0, opAt r31_0 1] false) (.seq (.region 1 #[opAt r31_1 0, opAt r31_1 1, opAt r31_1 2, opAt r31_1 3, opAt r31_1 4, opAt r31_1 5, opAt r31_1 6, opAt r31_1 7, opAt r31_1 8, opAt r31_1 9, opAt r31_1 10, opAt r31_1 11, opAt r31_1 12, opAt r31_1 13, opAt r31_1 14, opAt r31_1 15, opAt r31_1 16, opAt r31_1 17, opAt r31_1 18] false) .ret))
theorem c31_eq : Try.f31.body = some c31 := by kernel_rfl
theorem S31_eq (γ : Calld) (a0 : AV) (H : AHeap) (K : AV → AHeap → Prop) : execC Try.prog γ pol31 Try.f31 c31 [a0] H K = S31 γ a0 H K := by kernel_rfl
theorem C31 {a0 : AV} {H : AHeap} {K : AV → AHeap → Prop} (h : S31 (CallsA Try.prog) a0 H K) : CallsA Try.prog 31 [a0] H K :=
  calls_of Try.func31 (ne_of_beq_false (by kernel_rfl)) c31_eq (by kernel_rfl) (by rw [S31_eq]; exact h)
/-! (*tithing/socket.Node).none -/
def pol32 : Pol := { lend := fun _ => true, keep := [], frz := fun _ => [], perm := fun r => [], bf := fun r => [], ret := true }
def S32 (γ : Calld) (a0 : AV) (H : AHeap) (K : AV → AHeap → Prop) : Prop :=
  optA (nilA 3 .eql a0 .nilptr) fun v1 => ifA v1 (retF [.d (.bool true)] H K) (optA (nilCkA a0) fun v2 => optA (fieldA ti72 v2 1) fun v3 => optA (ldV false 1 v3 H) fun v4 => optA (nilA 1 .eql v4 .nilmap) fun v5 => retF [v5] H K)
noncomputable def r32_0 : List Oper := regOps Try.f32 0
noncomputable def r32_1 : List Oper := regOps Try.f32 1
noncomputable def c32 : Code := (.seq (.region 0 #[opAt r32_0 0] false) (.seq (.region 1 #[opAt r32_1 0, opAt r32_1 1, opAt r32_1 2, opAt r32_1 3, opAt r32_1 4, opAt r32_1 5, opAt r32_1 6, opAt r32_1 7, opAt r32_1 8, opAt r32_1 9] false) .ret))
theorem c32_eq : Try.f32.body = some c32 := by kernel_rfl
theorem S32_eq (γ : Calld) (a0 : AV) (H : AHeap) (K : AV → AHeap → Prop) : execC Try.prog γ pol32 Try.f32 c32 [a0] H K = S32 γ a0 H K := by kernel_rfl
theorem C32 {a0 : AV} {H : AHeap} {K : AV → AHeap → Prop} (h : S32 (CallsA Try.prog) a0 H K) : CallsA Try.prog 32 [a0] H K :=
  calls_of Try.func32 (ne_of_beq_false (by kernel_rfl)) c32_eq (by kernel_rfl) (by rw [S32_eq]; exact h)
/-! (*tithing/socket.Node).is -/
def pol33 : Pol := { lend := fun _ => true, keep := [], frz := fun _ => [], perm := fun r => [], bf := fun r => [], ret := true }
def S33 (γ : Calld) (a0 a1 : AV) (H : AHeap) (K : AV → AHeap → Prop) : Prop :=
  optA (nilCkA a0) fun v1 => optA (fieldA ti72 v1 1) fun v2 => optA (ldV false 1 v2 H) fun v3 => optA (lookKA Try.prog 3 a1 (fun kk => lookA (.d (.sl true [])) v3 kk true H)) fun v4 => optA (extractA v4 0) fun v5 => optA (extractA v4 1) fun v6 => retF [v6] H K
noncomputable def r33_0 : List Oper := regOps Try.f33 0
noncomputable def r33_1 : List Oper := regOps Try.f33 1
noncomputable def r33_2 : List Oper := regOps Try.f33 2
noncomputable def c33 : Code := (.seq (.region 0 #[opAt r33_0 0] false) (.seq (.region 1 #[opAt r33_1 0, opAt r33_1 1, opAt r33_1 2, opAt r33_1 3, opAt r33_1 4, opAt r33_1 5, opAt r33_1 6, opAt r33_1 7, opAt r33_1 8, opAt r33_1 9, opAt r33_1 10] false) (.seq (.region 2 #[opAt r33_2 0, opAt r33_2 1] false) .ret)))
theorem c33_eq : Try.f33.body = some c33 := by kernel_rfl
theorem S33_eq (γ : Calld) (a0 a1 : AV) (H : AHeap) (K : AV → AHeap → Prop) : execC Try.prog γ pol33 Try.f33 c33 [a0, a1] H K = S33 γ a0 a1 H K := by kernel_rfl
theorem C33 {a0 a1 : AV} {H : AHeap} {K : AV → AHeap → Prop} (h : S33 (CallsA Try.prog) a0 a1 H K) : CallsA Try.prog 33 [a0, a1] H K :=
  calls_of Try.func33 (ne_of_beq_false (by kernel_rfl)) c33_eq (by kernel_rfl) (by rw [S33_eq]; exact h)
end Go.Proofs.Ytfihnifhabbniaa

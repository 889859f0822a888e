/- What the functions do, printed by a program of mine out of their code; Lean checks each equation. -/
import Derived.Test.YtmciomkibklokaaA26
import Derived.Test.YtmciomkibklokaaProg
import Derived.KernelRfl
set_option maxRecDepth 100000
set_option linter.unusedVariables false
namespace Go.Proofs.Ytmciomkibklokaa
open Go Go.AM Go.Proofs
def ti3 : TI := { agg := false, size := 1, bytes := 8, zero := [.d (.int .i64 0)], k := .int .i64 }
def ti22 : TI := { agg := false, size := 1, bytes := 24, zero := [.d (.sl true [])], k := .slice 5 }
def ti26 : TI := { agg := false, size := 1, bytes := 24, zero := [.d (.sl true [])], k := .slice 3 }
def ti52 : TI := { agg := false, size := 1, bytes := 24, zero := [.d (.sl true [])], k := .slice 62 }
def ti55 : TI := { agg := true, size := 3, bytes := 56, zero := [.d (.sl true []), .d (.sl true []), .nilmap], k := .struct [(0, 51), (1, 52), (2, 53)] }
theorem ti55_f0 {i v e o : Nat} : fieldA ti55 (.ptr i v e o) 0 = some (.ptr i v e (o + 0)) := rfl
theorem ti55_v0 {cs : List Dat} {o : Nat} : fieldA ti55 (.vptr cs o) 0 = some (.vptr cs (o + 0)) := rfl
theorem ti55_f1 {i v e o : Nat} : fieldA ti55 (.ptr i v e o) 1 = some (.ptr i v e (o + 1)) := rfl
theorem ti55_v1 {cs : List Dat} {o : Nat} : fieldA ti55 (.vptr cs o) 1 = some (.vptr cs (o + 1)) := rfl
theorem ti55_f2 {i v e o : Nat} : fieldA ti55 (.ptr i v e o) 2 = some (.ptr i v e (o + 2)) := rfl
theorem ti55_v2 {cs : List Dat} {o : Nat} : fieldA ti55 (.vptr cs o) 2 = some (.vptr cs (o + 2)) := rfl
def ti62 : TI := { agg := true, size := 3, bytes := 32, zero := [.d (.str ⟨#[]⟩), .d (.int .i64 0), .d (.int .i64 0)], k := .struct [(0, 9), (1, 3), (2, 3)] }
theorem ti62_f0 {i v e o : Nat} : fieldA ti62 (.ptr i v e o) 0 = some (.ptr i v e (o + 0)) := rfl
theorem ti62_v0 {cs : List Dat} {o : Nat} : fieldA ti62 (.vptr cs o) 0 = some (.vptr cs (o + 0)) := rfl
theorem ti62_f1 {i v e o : Nat} : fieldA ti62 (.ptr i v e o) 1 = some (.ptr i v e (o + 1)) := rfl
theorem ti62_v1 {cs : List Dat} {o : Nat} : fieldA ti62 (.vptr cs o) 1 = some (.vptr cs (o + 1)) := rfl
theorem ti62_f2 {i v e o : Nat} : fieldA ti62 (.ptr i v e o) 2 = some (.ptr i v e (o + 2)) := rfl
theorem ti62_v2 {cs : List Dat} {o : Nat} : fieldA ti62 (.vptr cs o) 2 = some (.vptr cs (o + 2)) := rfl
theorem bd55 {parts : List (Nat × AV)} : buildA Try.prog ti55 parts = (fillA (fun i => (([(0, 51), (1, 52), (2, 53)] : List (Nat × TypeId))[i]?).map fun f => (f.1, Try.prog.cellsOf f.2)) [.d (.sl true []), .d (.sl true []), .nilmap] parts).map AV.agg := rfl
theorem bd62 {parts : List (Nat × AV)} : buildA Try.prog ti62 parts = (fillA (fun i => (([(0, 9), (1, 3), (2, 3)] : List (Nat × TypeId))[i]?).map fun f => (f.1, Try.prog.cellsOf f.2)) [.d (.str ⟨#[]⟩), .d (.int .i64 0), .d (.int .i64 0)] parts).map AV.agg := rfl
theorem cell3 : Try.prog.cellsOf 3 = 1 := by kernel_rfl
theorem cell5 : Try.prog.cellsOf 5 = 1 := by kernel_rfl
theorem cell9 : Try.prog.cellsOf 9 = 1 := by kernel_rfl
theorem cell51 : Try.prog.cellsOf 51 = 1 := by kernel_rfl
theorem cell52 : Try.prog.cellsOf 52 = 1 := by kernel_rfl
theorem cell53 : Try.prog.cellsOf 53 = 1 := by kernel_rfl
theorem cell62 : Try.prog.cellsOf 62 = 3 := by kernel_rfl
/-! tithing/tithinglaw23.DesktopLatest -/
def pol3 : Pol := { lend := fun g => !([28, 57] : List Nat).contains g, keep := [0, 1, 5, 6, 7, 8, 9, 10, 11], frz := fun _ => [], perm := fun r => [], bf := fun r => [], ret := true }
def S3 (γ : Calld) (a0 a1 : AV) (H : AHeap) (K : AV → AHeap → Prop) : Prop :=
  optA (lenStr a0) fun v1 => optA (intA .neq v1 (.d (.int .i64 4))) fun v2 => ifA v2 (frzLK [] H fun l5 H6 => γ 6 l5 H6 fun v3 H4 => retF [v3] H4 K) (optA (lenSl a1) fun v7 => optA (intA .gtr v7 (.d (.int .i64 100))) fun v8 => ifA v8 (frzLK [] H fun l11 H12 => γ 6 l11 H12 fun v9 H10 => retF [v9] H10 K) (frzLK [] H fun l15 H16 => γ 7 l15 H16 fun v13 H14 => optA (nilA 3 .eql v13 .nilptr) fun v17 => ifA v17 (retF [.d (.bool false)] H14 K) (loopA (fun X18 l19 H20 => optA (lenSl (l19.getD 1 .junk)) fun v21 => optA (intA .lss (l19.getD 4 .junk) v21) fun v22 => ifA v22 (optA (indexAddrA ti22 1 (l19.getD 1 .junk) (l19.getD 4 .junk)) fun v23 => optA (ldV false 1 v23 H20) fun v24 => optA (cvI .i64 v24) fun v25 => optA (intA .add (.d (.int .i64 1)) v25) fun v26 => frzLK [l19.getD 2 .junk, l19.getD 0 .junk, l19.getD 4 .junk, v26] H20 fun l29 H30 => γ 8 l29 H30 fun v27 H28 => optA (intA .neq v27 (.d (.int .i64 0))) fun v31 => ifA v31 (retF [.d (.bool false)] H28 K) (newK H28 (fun n34 => bsA ti3 1 [0] [v26] H28 n34) fun v32 H33 => loopA (fun X35 l36 H37 => optA (lenSl (l36.getD 3 .junk)) fun v38 => optA (intA .lss (l36.getD 7 .junk) v38) fun v39 => ifA v39 (optA (indexAddrA ti26 1 (l36.getD 3 .junk) (l36.getD 7 .junk)) fun v40 => optA (ldV false 1 v40 H37) fun v41 => optA (intA .neq v41 (l36.getD 5 .junk)) fun v42 => ifA v42 (optA (indexAddrA ti26 1 (l36.getD 3 .junk) (l36.getD 7 .junk)) fun v43 => optA (ldV false 1 v43 H37) fun v44 => newK H37 (fun n47 => bsA ti3 1 [0] [v44] H37 n47) fun v45 H46 => newK H46 (fun n50 => apA 1 8 (l36.getD 6 .junk) v45 H46 n50) fun v48 H49 => optA (intA .add (l36.getD 7 .junk) (.d (.int .i64 1))) fun v51 => X35 [l36.getD 0 .junk, l36.getD 1 .junk, l36.getD 2 .junk, l36.getD 3 .junk, l36.getD 4 .junk, l36.getD 5 .junk, v48, v51, l36.getD 8 .junk] H49) (optA (intA .add (l36.getD 7 .junk) (.d (.int .i64 1))) fun v52 => X35 [l36.getD 0 .junk, l36.getD 1 .junk, l36.getD 2 .junk, l36.getD 3 .junk, l36.getD 4 .junk, l36.getD 5 .junk, l36.getD 6 .junk, v52, l36.getD 8 .junk] H37)) (optA (intA .add (l36.getD 4 .junk) (.d (.int .i64 1))) fun v53 => X18 [l36.getD 0 .junk, l36.getD 1 .junk, l36.getD 2 .junk, l36.getD 6 .junk, v53, l36.getD 5 .junk, l36.getD 6 .junk, l36.getD 7 .junk, l36.getD 8 .junk] H37)) [l19.getD 0 .junk, l19.getD 1 .junk, l19.getD 2 .junk, l19.getD 3 .junk, l19.getD 4 .junk, v26, v32, .d (.int .i64 0), l19.getD 8 .junk] H33)) (loopA (fun X54 l55 H56 => optA (lenSl (l55.getD 3 .junk)) fun v57 => optA (intA .lss (l55.getD 8 .junk) v57) fun v58 => ifA v58 (optA (intA .add (l55.getD 8 .junk) (.d (.int .i64 1))) fun v59 => frzLK [l55.getD 2 .junk, l55.getD 0 .junk, v59] H56 fun l62 H63 => γ 9 l62 H63 fun v60 H61 => optA (extractA v60 0) fun v64 => optA (extractA v60 1) fun v65 => optA (extractA v60 2) fun v66 => optA (intA .neq v66 (.d (.int .i64 0))) fun v67 => ifA v67 (retF [.d (.bool false)] H61 K) (optA (indexAddrA ti26 1 (l55.getD 3 .junk) (l55.getD 8 .junk)) fun v68 => optA (ldV false 1 v68 H61) fun v69 => optA (intA .neq v65 v69) fun v70 => ifA v70 (retF [.d (.bool false)] H61 K) (optA (intA .add (l55.getD 8 .junk) (.d (.int .i64 1))) fun v71 => X54 [l55.getD 0 .junk, l55.getD 1 .junk, l55.getD 2 .junk, l55.getD 3 .junk, l55.getD 4 .junk, l55.getD 5 .junk, l55.getD 6 .junk, l55.getD 7 .junk, v71] H61))) (optA (lenSl (l55.getD 3 .junk)) fun v72 => optA (intA .add v72 (.d (.int .i64 1))) fun v73 => frzLK [l55.getD 2 .junk, l55.getD 0 .junk, v73] H56 fun l76 H77 => γ 9 l76 H77 fun v74 H75 => optA (extractA v74 0) fun v78 => optA (extractA v74 1) fun v79 => optA (extractA v74 2) fun v80 => optA (intA .eql v80 (.d (.int .i64 5))) fun v81 => ifA v81 (frzLK [] H75 fun l84 H85 => γ 6 l84 H85 fun v82 H83 => retF [v82] H83 K) (retF [.d (.bool false)] H75 K))) [l19.getD 0 .junk, l19.getD 1 .junk, l19.getD 2 .junk, l19.getD 3 .junk, l19.getD 4 .junk, l19.getD 5 .junk, l19.getD 6 .junk, l19.getD 7 .junk, .d (.int .i64 0)] H20)) [a0, a1, v13, .d (.sl true []), .d (.int .i64 0), .junk, .junk, .junk, .junk] H14)))
noncomputable def r3_0 : List Oper := regOps Try.f3 0
noncomputable def r3_1 : List Oper := regOps Try.f3 1
noncomputable def r3_2 : List Oper := regOps Try.f3 2
noncomputable def r3_3 : List Oper := regOps Try.f3 3
noncomputable def r3_4 : List Oper := regOps Try.f3 4
noncomputable def r3_5 : List Oper := regOps Try.f3 5
noncomputable def r3_6 : List Oper := regOps Try.f3 6
noncomputable def r3_7 : List Oper := regOps Try.f3 7
noncomputable def r3_8 : List Oper := regOps Try.f3 8
noncomputable def r3_9 : List Oper := regOps Try.f3 9
noncomputable def r3_10 : List Oper := regOps Try.f3 10
noncomputable def r3_11 : List Oper := regOps Try.f3 11
noncomputable def r3_12 : List Oper := regOps Try.f3 12
noncomputable def r3_13 : List Oper := regOps Try.f3 13
noncomputable def r3_14 : List Oper := regOps Try.f3 14
noncomputable def r3_15 : List Oper := regOps Try.f3 15
noncomputable def r3_16 : List Oper := regOps Try.f3 16
noncomputable def r3_17 : List Oper := regOps Try.f3 17
noncomputable def r3_18 : List Oper := regOps Try.f3 18
noncomputable def r3_19 : List Oper := regOps Try.f3 19
noncomputable def r3_20 : List Oper := regOps Try.f3 20
noncomputable def r3_21 : List Oper := regOps Try.f3 21
noncomputable def r3_22 : List Oper := regOps Try.f3 22
noncomputable def r3_23 : List Oper := regOps Try.f3 23
noncomputable def r3_24 : List Oper := regOps Try.f3 24
noncomputable def r3_25 : List Oper := regOps Try.f3 25
noncomputable def r3_26 : List Oper := regOps Try.f3 26
noncomputable def r3_27 : List Oper := regOps Try.f3 27
noncomputable def c3 : Code := (.seq (.region 0 #[opAt r3_0 0] false) (.seq (.seq (.region 1 #[opAt r3_1 0, opAt r3_1 1, opAt r3_1 2, opAt r3_1 3, opAt r3_1 4, opAt r3_1 5, opAt r3_1 6, opAt r3_1 7] false) (.cond (.tmp 25) (.seq (.region 2 #[opAt r3_2 0, opAt r3_2 1] false) .ret) .skip)) (.seq (.region 3 #[opAt r3_3 0, opAt r3_3 1] false) (.seq (.seq (.region 4 #[opAt r3_4 0, opAt r3_4 1] false) (.cond (.tmp 29) (.seq (.region 5 #[opAt r3_5 0] false) .ret) .skip)) (.seq (.region 6 #[opAt r3_6 0] false) (.seq (.seq (.region 7 #[opAt r3_7 0] false) (.block 0 (.loop (.seq (.seq (.region 8 #[opAt r3_8 0, opAt r3_8 1, opAt r3_8 2, opAt r3_8 3] false) (.cond (.tmp 33) .skip (.exit 0))) (.seq (.block 1 (.seq (.region 10 #[opAt r3_9 0, opAt r3_9 1, opAt r3_9 2, opAt r3_9 3, opAt r3_9 4, opAt r3_9 5, opAt r3_9 6] false) (.seq (.seq (.region 11 #[opAt r3_10 0, opAt r3_10 1, opAt r3_10 2, opAt r3_10 3, opAt r3_10 4, opAt r3_10 5] false) (.cond (.tmp 47) (.seq (.region 12 #[opAt r3_11 0] false) .ret) .skip)) (.seq (.region 13 #[opAt r3_12 0, opAt r3_12 1, opAt r3_12 2] false) (.seq (.seq (.region 14 #[opAt r3_13 0] false) (.block 2 (.loop (.seq (.seq (.region 15 #[opAt r3_14 0, opAt r3_14 1, opAt r3_14 2, opAt r3_14 3] false) (.cond (.tmp 53) .skip (.exit 2))) (.seq (.block 3 (.seq (.region 17 #[opAt r3_15 0, opAt r3_15 1, opAt r3_15 2, opAt r3_15 3, opAt r3_15 4, opAt r3_15 5] false) (.cond (.tmp 61) (.region 18 #[opAt r3_16 0, opAt r3_16 1, opAt r3_16 2, opAt r3_16 3, opAt r3_16 4, opAt r3_16 5, opAt r3_16 6, opAt r3_16 7] false) .skip))) (.region 16 #[opAt r3_17 0, opAt r3_17 1, opAt r3_17 2] false)))))) (.region 19 #[opAt r3_18 0, opAt r3_18 1] false)))))) (.region 9 #[opAt r3_19 0, opAt r3_19 1, opAt r3_19 2] false)))))) (.seq (.seq (.region 20 #[opAt r3_20 0] false) (.block 4 (.loop (.seq (.seq (.region 21 #[opAt r3_21 0, opAt r3_21 1, opAt r3_21 2, opAt r3_21 3] false) (.cond (.tmp 73) .skip (.exit 4))) (.seq (.block 5 (.seq (.region 23 #[opAt r3_22 0, opAt r3_22 1, opAt r3_22 2, opAt r3_22 3, opAt r3_22 4, opAt r3_22 5, opAt r3_22 6, opAt r3_22 7, opAt r3_22 8, opAt r3_22 9, opAt r3_22 10, opAt r3_22 11] false) (.seq (.region 24 #[opAt r3_23 0, opAt r3_23 1, opAt r3_23 2, opAt r3_23 3, opAt r3_23 4, opAt r3_23 5, opAt r3_23 6, opAt r3_23 7, opAt r3_23 8, opAt r3_23 9] false) (.cond (.tmp 94) (.seq (.region 25 #[opAt r3_24 0] false) .ret) .skip)))) (.region 22 #[opAt r3_25 0, opAt r3_25 1, opAt r3_25 2] false)))))) (.seq (.region 26 #[opAt r3_26 0, opAt r3_26 1, opAt r3_26 2, opAt r3_26 3, opAt r3_26 4, opAt r3_26 5, opAt r3_26 6, opAt r3_26 7, opAt r3_26 8, opAt r3_26 9, opAt r3_26 10, opAt r3_26 11, opAt r3_26 12] false) (.seq (.region 27 #[opAt r3_27 0, opAt r3_27 1, opAt r3_27 2, opAt r3_27 3, opAt r3_27 4, opAt r3_27 5] false) .ret)))))))))
theorem c3_eq : Try.f3.body = some c3 := by kernel_rfl
theorem S3_eq (γ : Calld) (a0 a1 : AV) (H : AHeap) (K : AV → AHeap → Prop) : execC Try.prog γ pol3 Try.f3 c3 [a0, a1] H K = S3 γ a0 a1 H K := by kernel_rfl
theorem C3 {a0 a1 : AV} {H : AHeap} {K : AV → AHeap → Prop} (h : S3 (CallsA Try.prog) a0 a1 H K) : CallsA Try.prog 3 [a0, a1] H K :=
  calls_of Try.func3 (ne_of_beq_false (by kernel_rfl)) c3_eq (by kernel_rfl) (by rw [S3_eq]; exact h)
/-! tithing/tithinglaw23.First -/
def pol6 : Pol := { lend := fun g => !([28, 57] : List Nat).contains g, keep := [], frz := fun _ => [], perm := fun r => [], bf := fun r => [], ret := true }
def S6 (γ : Calld) (H : AHeap) (K : AV → AHeap → Prop) : Prop :=
  frzLK [] H fun l3 H4 => γ 7 l3 H4 fun v1 H2 => optA (nilA 3 .eql v1 .nilptr) fun v5 => ifA v5 (retF [.d (.bool false)] H2 K) (frzLK [v1, .d (.str ⟨#[65, 66, 67, 68]⟩), .d (.int .i64 1), .d (.int .i64 5)] H2 fun l8 H9 => γ 8 l8 H9 fun v6 H7 => optA (intA .neq v6 (.d (.int .i64 0))) fun v10 => ifA v10 (retF [.d (.bool false)] H7 K) (frzLK [v1, .d (.str ⟨#[65, 66, 67, 68]⟩), .d (.int .i64 2), .d (.int .i64 6)] H7 fun l13 H14 => γ 8 l13 H14 fun v11 H12 => optA (intA .neq v11 (.d (.int .i64 0))) fun v15 => ifA v15 (retF [.d (.bool false)] H12 K) (frzLK [v1, .d (.str ⟨#[65, 66, 67, 68]⟩), .d (.int .i64 1)] H12 fun l18 H19 => γ 9 l18 H19 fun v16 H17 => optA (extractA v16 0) fun v20 => optA (extractA v16 1) fun v21 => optA (extractA v16 2) fun v22 => optA (intA .eql v22 (.d (.int .i64 0))) fun v23 => ifA v23 (optA (intA .eql v20 (.d (.int .i64 2))) fun v24 => ifA v24 (optA (intA .eql v21 (.d (.int .i64 6))) fun v25 => retF [v25] H17 K) (retF [.d (.bool false)] H17 K)) (retF [.d (.bool false)] H17 K))))
noncomputable def r6_0 : List Oper := regOps Try.f6 0
noncomputable def r6_1 : List Oper := regOps Try.f6 1
noncomputable def r6_2 : List Oper := regOps Try.f6 2
noncomputable def r6_3 : List Oper := regOps Try.f6 3
noncomputable def r6_4 : List Oper := regOps Try.f6 4
noncomputable def r6_5 : List Oper := regOps Try.f6 5
noncomputable def c6 : Code := (.seq (.region 0 #[opAt r6_0 0] false) (.seq (.region 1 #[opAt r6_1 0, opAt r6_1 1] false) (.seq (.seq (.region 2 #[opAt r6_2 0, opAt r6_2 1, opAt r6_2 2, opAt r6_2 3, opAt r6_2 4, opAt r6_2 5, opAt r6_2 6, opAt r6_2 7, opAt r6_2 8, opAt r6_2 9, opAt r6_2 10, opAt r6_2 11] false) (.cond (.tmp 17) (.seq (.region 3 #[opAt r6_3 0] false) .ret) .skip)) (.seq (.region 4 #[opAt r6_4 0, opAt r6_4 1, opAt r6_4 2, opAt r6_4 3, opAt r6_4 4, opAt r6_4 5, opAt r6_4 6, opAt r6_4 7, opAt r6_4 8] false) (.seq (.region 5 #[opAt r6_5 0, opAt r6_5 1, opAt r6_5 2, opAt r6_5 3, opAt r6_5 4, opAt r6_5 5, opAt r6_5 6, opAt r6_5 7, opAt r6_5 8, opAt r6_5 9, opAt r6_5 10] false) .ret)))))
theorem c6_eq : Try.f6.body = some c6 := by kernel_rfl
theorem S6_eq (γ : Calld) (H : AHeap) (K : AV → AHeap → Prop) : execC Try.prog γ pol6 Try.f6 c6 [] H K = S6 γ H K := by kernel_rfl
theorem C6 {H : AHeap} {K : AV → AHeap → Prop} (h : S6 (CallsA Try.prog) H K) : CallsA Try.prog 6 [] H K :=
  calls_of Try.func6 (ne_of_beq_false (by kernel_rfl)) c6_eq (by kernel_rfl) (by rw [S6_eq]; exact h)
/-! tithing/desktop.New -/
def pol7 : Pol := { lend := fun g => !([28, 57] : List Nat).contains g, keep := [], frz := fun _ => [], perm := fun r => [], bf := fun r => [], ret := true }
def S7 (γ : Calld) (H : AHeap) (K : AV → AHeap → Prop) : Prop :=
  newK H (fun n3 => some (.map n3, [(n3, .map [] 0)])) fun v1 H2 => stepK (bdA Try.prog ti55 [2] [v1] H2) H2 fun v4 H5 => newK H5 (fun n8 => boxA v4 n8) fun v6 H7 => retF [v6] H7 K
noncomputable def r7_0 : List Oper := regOps Try.f7 0
noncomputable def r7_1 : List Oper := regOps Try.f7 1
noncomputable def c7 : Code := (.seq (.region 0 #[opAt r7_0 0] false) (.seq (.region 1 #[opAt r7_1 0, opAt r7_1 1, opAt r7_1 2, opAt r7_1 3] false) .ret))
theorem c7_eq : Try.f7.body = some c7 := by kernel_rfl
theorem S7_eq (γ : Calld) (H : AHeap) (K : AV → AHeap → Prop) : execC Try.prog γ pol7 Try.f7 c7 [] H K = S7 γ H K := by kernel_rfl
theorem C7 {H : AHeap} {K : AV → AHeap → Prop} (h : S7 (CallsA Try.prog) H K) : CallsA Try.prog 7 [] H K :=
  calls_of Try.func7 (ne_of_beq_false (by kernel_rfl)) c7_eq (by kernel_rfl) (by rw [S7_eq]; exact h)
/-! (*tithing/desktop.Base).PutProgram -/
def pol8 : Pol := { lend := fun g => !([28, 57] : List Nat).contains g, keep := [], frz := fun _ => [], perm := fun r => [], bf := fun r => [], ret := true }
def S8 (γ : Calld) (a0 a1 a2 a3 : AV) (H : AHeap) (K : AV → AHeap → Prop) : Prop :=
  frzLK [a0] H fun l3 H4 => γ 25 l3 H4 fun v1 H2 => ifA v1 (retF [.d (.int .i64 7)] H2 K) (optA (lenStr a1) fun v5 => optA (intA .neq v5 (.d (.int .i64 4))) fun v6 => ifA v6 (retF [.d (.int .i64 2)] H2 K) (frzLK [a3] H2 fun l9 H10 => γ 26 l9 H10 fun v7 H8 => optA (unA .not v7) fun v11 => ifA v11 (retF [.d (.int .i64 2)] H8 K) (frzLK [a0, a1, a3] H8 fun l14 H15 => γ 27 l14 H15 fun v12 H13 => optA (intA .lss v12 (.d (.int .i64 0))) fun v16 => ifA v16 (optA (nilCkA a0) fun v17 => optA (fieldA ti55 v17 1) fun v18 => optA (ldV false 1 v18 H13) fun v19 => optA (lenSl v19) fun v20 => optA (intA .eql v20 (.d (.int .i64 200))) fun v21 => ifA v21 (retF [.d (.int .i64 4)] H13 K) (optA (intA .geq v12 (.d (.int .i64 0))) fun v22 => ifA v22 (optA (nilCkA a0) fun v23 => optA (fieldA ti55 v23 1) fun v24 => optA (ldV false 1 v24 H13) fun v25 => optA (intA .add v12 (.d (.int .i64 1))) fun v26 => γ 28 [v25, v12, v26] H13 fun v27 H28 => optA (nilCkA a0) fun v29 => optA (fieldA ti55 v29 1) fun v30 => stepK (stoA false 1 v30 v27 H28) H28 fun v31 H32 => optA (nilCkA a0) fun v33 => optA (fieldA ti55 v33 1) fun v34 => optA (ldV false 1 v34 H32) fun v35 => stepK (bdA Try.prog ti62 [0, 1, 2] [a1, a2, a3] H32) H32 fun v36 H37 => newK H37 (fun n40 => bsA ti62 1 [0] [v36] H37 n40) fun v38 H39 => newK H39 (fun n43 => apA 3 32 v35 v38 H39 n43) fun v41 H42 => optA (nilCkA a0) fun v44 => optA (fieldA ti55 v44 1) fun v45 => stepK (stoA false 1 v45 v41 H42) H42 fun v46 H47 => retF [.d (.int .i64 0)] H47 K) (optA (nilCkA a0) fun v48 => optA (fieldA ti55 v48 1) fun v49 => optA (ldV false 1 v49 H13) fun v50 => stepK (bdA Try.prog ti62 [0, 1, 2] [a1, a2, a3] H13) H13 fun v51 H52 => newK H52 (fun n55 => bsA ti62 1 [0] [v51] H52 n55) fun v53 H54 => newK H54 (fun n58 => apA 3 32 v50 v53 H54 n58) fun v56 H57 => optA (nilCkA a0) fun v59 => optA (fieldA ti55 v59 1) fun v60 => stepK (stoA false 1 v60 v56 H57) H57 fun v61 H62 => retF [.d (.int .i64 0)] H62 K))) (optA (intA .geq v12 (.d (.int .i64 0))) fun v63 => ifA v63 (optA (nilCkA a0) fun v64 => optA (fieldA ti55 v64 1) fun v65 => optA (ldV false 1 v65 H13) fun v66 => optA (intA .add v12 (.d (.int .i64 1))) fun v67 => γ 28 [v66, v12, v67] H13 fun v68 H69 => optA (nilCkA a0) fun v70 => optA (fieldA ti55 v70 1) fun v71 => stepK (stoA false 1 v71 v68 H69) H69 fun v72 H73 => optA (nilCkA a0) fun v74 => optA (fieldA ti55 v74 1) fun v75 => optA (ldV false 1 v75 H73) fun v76 => stepK (bdA Try.prog ti62 [0, 1, 2] [a1, a2, a3] H73) H73 fun v77 H78 => newK H78 (fun n81 => bsA ti62 1 [0] [v77] H78 n81) fun v79 H80 => newK H80 (fun n84 => apA 3 32 v76 v79 H80 n84) fun v82 H83 => optA (nilCkA a0) fun v85 => optA (fieldA ti55 v85 1) fun v86 => stepK (stoA false 1 v86 v82 H83) H83 fun v87 H88 => retF [.d (.int .i64 0)] H88 K) (optA (nilCkA a0) fun v89 => optA (fieldA ti55 v89 1) fun v90 => optA (ldV false 1 v90 H13) fun v91 => stepK (bdA Try.prog ti62 [0, 1, 2] [a1, a2, a3] H13) H13 fun v92 H93 => newK H93 (fun n96 => bsA ti62 1 [0] [v92] H93 n96) fun v94 H95 => newK H95 (fun n99 => apA 3 32 v91 v94 H95 n99) fun v97 H98 => optA (nilCkA a0) fun v100 => optA (fieldA ti55 v100 1) fun v101 => stepK (stoA false 1 v101 v97 H98) H98 fun v102 H103 => retF [.d (.int .i64 0)] H103 K)))))
noncomputable def r8_0 : List Oper := regOps Try.f8 0
noncomputable def r8_1 : List Oper := regOps Try.f8 1
noncomputable def r8_2 : List Oper := regOps Try.f8 2
noncomputable def r8_3 : List Oper := regOps Try.f8 3
noncomputable def r8_4 : List Oper := regOps Try.f8 4
noncomputable def r8_5 : List Oper := regOps Try.f8 5
noncomputable def r8_6 : List Oper := regOps Try.f8 6
noncomputable def r8_7 : List Oper := regOps Try.f8 7
noncomputable def r8_8 : List Oper := regOps Try.f8 8
noncomputable def r8_9 : List Oper := regOps Try.f8 9
noncomputable def r8_10 : List Oper := regOps Try.f8 10
noncomputable def r8_11 : List Oper := regOps Try.f8 11
noncomputable def c8 : Code := (.seq (.region 0 #[opAt r8_0 0] false) (.seq (.block 0 (.seq (.region 1 #[opAt r8_1 0, opAt r8_1 1, opAt r8_1 2] false) (.cond (.tmp 10) (.seq (.region 2 #[opAt r8_2 0] false) .ret) (.seq (.region 3 #[opAt r8_3 0, opAt r8_3 1, opAt r8_3 2, opAt r8_3 3, opAt r8_3 4, opAt r8_3 5, opAt r8_3 6, opAt r8_3 7, opAt r8_3 8] false) (.cond (.tmp 13) (.seq (.region 4 #[opAt r8_4 0] false) .ret) .skip))))) (.seq (.region 5 #[opAt r8_5 0, opAt r8_5 1, opAt r8_5 2, opAt r8_5 3, opAt r8_5 4] false) (.seq (.seq (.region 6 #[opAt r8_6 0, opAt r8_6 1, opAt r8_6 2, opAt r8_6 3, opAt r8_6 4, opAt r8_6 5, opAt r8_6 6, opAt r8_6 7, opAt r8_6 8, opAt r8_6 9] false) (.cond (.tmp 35) (.seq (.region 7 #[opAt r8_7 0] false) .ret) .skip)) (.seq (.seq (.region 8 #[opAt r8_8 0, opAt r8_8 1] false) (.cond (.tmp 37) (.region 9 #[opAt r8_9 0, opAt r8_9 1, opAt r8_9 2, opAt r8_9 3, opAt r8_9 4, opAt r8_9 5, opAt r8_9 6, opAt r8_9 7, opAt r8_9 8, opAt r8_9 9, opAt r8_9 10, opAt r8_9 11] false) .skip)) (.seq (.region 10 #[opAt r8_10 0, opAt r8_10 1, opAt r8_10 2, opAt r8_10 3, opAt r8_10 4, opAt r8_10 5, opAt r8_10 6, opAt r8_10 7, opAt r8_10 8, opAt r8_10 9, opAt r8_10 10, opAt r8_10 11, opAt r8_10 12, opAt r8_10 13] false) (.seq (.region 11 #[opAt r8_11 0] false) .ret)))))))
theorem c8_eq : Try.f8.body = some c8 := by kernel_rfl
theorem S8_eq (γ : Calld) (a0 a1 a2 a3 : AV) (H : AHeap) (K : AV → AHeap → Prop) : execC Try.prog γ pol8 Try.f8 c8 [a0, a1, a2, a3] H K = S8 γ a0 a1 a2 a3 H K := by kernel_rfl
theorem C8 {a0 a1 a2 a3 : AV} {H : AHeap} {K : AV → AHeap → Prop} (h : S8 (CallsA Try.prog) a0 a1 a2 a3 H K) : CallsA Try.prog 8 [a0, a1, a2, a3] H K :=
  calls_of Try.func8 (ne_of_beq_false (by kernel_rfl)) c8_eq (by kernel_rfl) (by rw [S8_eq]; exact h)
/-! (*tithing/desktop.Base).none -/
def pol25 : Pol := { lend := fun g => !([28, 57] : List Nat).contains g, keep := [], frz := fun _ => [], perm := fun r => [], bf := fun r => [], ret := true }
def S25 (γ : Calld) (a0 : AV) (H : AHeap) (K : AV → AHeap → Prop) : Prop :=
  optA (nilA 3 .eql a0 .nilptr) fun v1 => ifA v1 (retF [.d (.bool true)] H K) (optA (nilCkA a0) fun v2 => optA (fieldA ti55 v2 2) fun v3 => optA (ldV false 1 v3 H) fun v4 => optA (nilA 1 .eql v4 .nilmap) fun v5 => retF [v5] H K)
noncomputable def r25_0 : List Oper := regOps Try.f25 0
noncomputable def r25_1 : List Oper := regOps Try.f25 1
noncomputable def c25 : Code := (.seq (.region 0 #[opAt r25_0 0] false) (.seq (.region 1 #[opAt r25_1 0, opAt r25_1 1, opAt r25_1 2, opAt r25_1 3, opAt r25_1 4, opAt r25_1 5, opAt r25_1 6, opAt r25_1 7, opAt r25_1 8, opAt r25_1 9] false) .ret))
theorem c25_eq : Try.f25.body = some c25 := by kernel_rfl
theorem S25_eq (γ : Calld) (a0 : AV) (H : AHeap) (K : AV → AHeap → Prop) : execC Try.prog γ pol25 Try.f25 c25 [a0] H K = S25 γ a0 H K := by kernel_rfl
theorem C25 {a0 : AV} {H : AHeap} {K : AV → AHeap → Prop} (h : S25 (CallsA Try.prog) a0 H K) : CallsA Try.prog 25 [a0] H K :=
  calls_of Try.func25 (ne_of_beq_false (by kernel_rfl)) c25_eq (by kernel_rfl) (by rw [S25_eq]; exact h)
/-! tithing/desktop.isId -/
def pol26 : Pol := { lend := fun g => !([28, 57] : List Nat).contains g, keep := [], frz := fun _ => [], perm := fun r => [], bf := fun r => [], ret := true }
def S26 (γ : Calld) (a0 : AV) (H : AHeap) (K : AV → AHeap → Prop) : Prop :=
  frzLK [a0, .d (.int .i64 1), .d (.int .i64 4294967295)] H fun l3 H4 => γ 51 l3 H4 fun v1 H2 => retF [v1] H2 K
noncomputable def r26_0 : List Oper := regOps Try.f26 0
noncomputable def r26_1 : List Oper := regOps Try.f26 1
noncomputable def c26 : Code := (.seq (.region 0 #[opAt r26_0 0] false) (.seq (.region 1 #[opAt r26_1 0, opAt r26_1 1, opAt r26_1 2] false) .ret))
theorem c26_eq : Try.f26.body = some c26 := by kernel_rfl
theorem S26_eq (γ : Calld) (a0 : AV) (H : AHeap) (K : AV → AHeap → Prop) : execC Try.prog γ pol26 Try.f26 c26 [a0] H K = S26 γ a0 H K := by kernel_rfl
theorem C26 {a0 : AV} {H : AHeap} {K : AV → AHeap → Prop} (h : S26 (CallsA Try.prog) a0 H K) : CallsA Try.prog 26 [a0] H K :=
  calls_of Try.func26 (ne_of_beq_false (by kernel_rfl)) c26_eq (by kernel_rfl) (by rw [S26_eq]; exact h)
/-! (*tithing/desktop.Base).program -/
def pol27 : Pol := { lend := fun g => !([28, 57] : List Nat).contains g, keep := [], frz := fun _ => [], perm := fun r => [], bf := fun r => [], ret := true }
def S27 (γ : Calld) (a0 a1 a2 : AV) (H : AHeap) (K : AV → AHeap → Prop) : Prop :=
  newK H (fun n3 => boxA a1 n3) fun v1 H2 => newK H2 (fun n6 => boxA a2 n6) fun v4 H5 => optA (nilCkA a0) fun v7 => optA (fieldA ti55 v7 1) fun v8 => optA (ldV false 1 v8 H5) fun v9 => γ 57 [v9, .func 58 [] [v1, v4]] H5 fun v10 H11 => retF [v10] H11 K
noncomputable def r27_0 : List Oper := regOps Try.f27 0
noncomputable def r27_1 : List Oper := regOps Try.f27 1
noncomputable def c27 : Code := (.seq (.region 0 #[opAt r27_0 0, opAt r27_0 1, opAt r27_0 2] false) (.seq (.region 1 #[opAt r27_1 0, opAt r27_1 1, opAt r27_1 2, opAt r27_1 3, opAt r27_1 4, opAt r27_1 5, opAt r27_1 6] false) .ret))
theorem c27_eq : Try.f27.body = some c27 := by kernel_rfl
theorem S27_eq (γ : Calld) (a0 a1 a2 : AV) (H : AHeap) (K : AV → AHeap → Prop) : execC Try.prog γ pol27 Try.f27 c27 [a0, a1, a2] H K = S27 γ a0 a1 a2 H K := by kernel_rfl
theorem C27 {a0 a1 a2 : AV} {H : AHeap} {K : AV → AHeap → Prop} (h : S27 (CallsA Try.prog) a0 a1 a2 H K) : CallsA Try.prog 27 [a0, a1, a2] H K :=
  calls_of Try.func27 (ne_of_beq_false (by kernel_rfl)) c27_eq (by kernel_rfl) (by rw [S27_eq]; exact h)
/-! slices.Delete[[]tithing/desktop.program,tithing/desktop.program] -/
def pol28m : Pol := { lend := fun g => !([28, 57] : List Nat).contains g, keep := [], frz := fun _ => [], perm := fun r => if r = 5 then [0, 1, 2, 3, 4, 5, 6, 7] else [], bf := fun r => if r = 5 then [0, 0, 3, 0, 0, 24, 63, 127] else [], ret := false }
def S28m (γ : Calld) (a0 a1 a2 : AV) (H : AHeap) (K : AV → AHeap → Prop) : Prop :=
  optA (lenSl a0) fun v1 => optA (sliceA 3 a0 (some a1) (some a2) (some v1) H) fun v2 => optA (intA .eql a1 a2) fun v3 => ifA v3 (finA a0 H K) (optA (lenSl a0) fun v4 => drA true (optA (sliceA 3 a0 none (some a1) none H) fun v5 => optA (sliceA 3 a0 (some a2) none none H) fun v6 => newK H (fun n9 => apA 3 32 v5 v6 H n9) fun v7 H8 => optA (lenSl v7) fun v10 => optA (sliceA 3 v7 (some v10) (some v4) none H8) fun v11 => stepK (clA ti62 v11 H8) H8 fun v12 H13 => finA v7 H13 K))
noncomputable def r28m_0 : List Oper := regOps Try.f28 0
noncomputable def r28m_1 : List Oper := regOps Try.f28 1
noncomputable def r28m_2 : List Oper := regOps Try.f28 2
noncomputable def r28m_3 : List Oper := regOps Try.f28 3
noncomputable def r28m_4 : List Oper := regOps Try.f28 4
noncomputable def r28m_5 : List Oper := regOps Try.f28 5
noncomputable def r28m_6 : List Oper := regOps Try.f28 6
noncomputable def r28m_7 : List Oper := regOps Try.f28 7
noncomputable def c28m : Code := (.seq (.region 0 #[opAt r28m_0 0] false) (.seq (.region 1 #[opAt r28m_1 0, opAt r28m_1 1, opAt r28m_1 2, opAt r28m_1 3, opAt r28m_1 4, opAt r28m_1 5] false) (.seq (.seq (.region 2 #[opAt r28m_2 0, opAt r28m_2 1, opAt r28m_2 2] false) (.cond (.tmp 16) (.seq (.region 3 #[opAt r28m_3 0, opAt r28m_3 1] false) .ret) .skip)) (.seq (.region 4 #[opAt r28m_4 0, opAt r28m_4 1, opAt r28m_4 2] false) (.seq (.region 5 #[opAt r28m_5 0, opAt r28m_5 1, opAt r28m_5 2, opAt r28m_5 3, opAt r28m_5 4, opAt r28m_5 5, opAt r28m_5 6, opAt r28m_5 7] true) (.seq (.region 6 #[opAt r28m_6 0, opAt r28m_6 1, opAt r28m_6 2, opAt r28m_6 3, opAt r28m_6 4, opAt r28m_6 5] false) (.seq (.region 7 #[opAt r28m_7 0, opAt r28m_7 1] false) .ret)))))))
theorem c28m_eq : Try.f28.body = some c28m := by kernel_rfl
theorem S28m_eq (γ : Calld) (a0 a1 a2 : AV) (H : AHeap) (K : AV → AHeap → Prop) : execC Try.prog γ pol28m Try.f28 c28m [a0, a1, a2] H K = S28m γ a0 a1 a2 H K := by kernel_rfl
theorem C28m {a0 a1 a2 : AV} {H : AHeap} {K : AV → AHeap → Prop} (h : S28m (CallsA Try.prog) a0 a1 a2 H K) : CallsA Try.prog 28 [a0, a1, a2] H K :=
  calls_of Try.func28 (ne_of_beq_false (by kernel_rfl)) c28m_eq (by kernel_rfl) (by rw [S28m_eq]; exact h)
/-! tithing/desktop.within -/
def pol51 : Pol := { lend := fun g => !([28, 57] : List Nat).contains g, keep := [], frz := fun _ => [], perm := fun r => [], bf := fun r => [], ret := true }
def S51 (γ : Calld) (a0 a1 a2 : AV) (H : AHeap) (K : AV → AHeap → Prop) : Prop :=
  optA (intA .geq a0 a1) fun v1 => ifA v1 (optA (intA .leq a0 a2) fun v2 => retF [v2] H K) (retF [.d (.bool false)] H K)
noncomputable def r51_0 : List Oper := regOps Try.f51 0
noncomputable def r51_1 : List Oper := regOps Try.f51 1
noncomputable def c51 : Code := (.seq (.region 0 #[opAt r51_0 0] false) (.seq (.region 1 #[opAt r51_1 0, opAt r51_1 1, opAt r51_1 2, opAt r51_1 3, opAt r51_1 4, opAt r51_1 5, opAt r51_1 6, opAt r51_1 7, opAt r51_1 8] false) .ret))
theorem c51_eq : Try.f51.body = some c51 := by kernel_rfl
theorem S51_eq (γ : Calld) (a0 a1 a2 : AV) (H : AHeap) (K : AV → AHeap → Prop) : execC Try.prog γ pol51 Try.f51 c51 [a0, a1, a2] H K = S51 γ a0 a1 a2 H K := by kernel_rfl
theorem C51 {a0 a1 a2 : AV} {H : AHeap} {K : AV → AHeap → Prop} (h : S51 (CallsA Try.prog) a0 a1 a2 H K) : CallsA Try.prog 51 [a0, a1, a2] H K :=
  calls_of Try.func51 (ne_of_beq_false (by kernel_rfl)) c51_eq (by kernel_rfl) (by rw [S51_eq]; exact h)
/-! slices.IndexFunc[[]tithing/desktop.program,tithing/desktop.program] -/
def pol57 : Pol := { lend := fun g => !([28, 57] : List Nat).contains g, keep := [0, 1, 7, 8], frz := fun _ => [], perm := fun r => [], bf := fun r => [], ret := true }
def S57 (γ : Calld) (a0 a1 : AV) (H : AHeap) (K : AV → AHeap → Prop) : Prop :=
  optA (lenSl a0) fun v1 => loopA (fun X2 l3 H4 => optA (intA .lss (l3.getD 3 .junk) (l3.getD 2 .junk)) fun v5 => ifA v5 (optA (indexAddrA ti52 3 (l3.getD 0 .junk) (l3.getD 3 .junk)) fun v6 => optA (ldV true 3 v6 H4) fun v7 => callA γ pol57 (l3.getD 1 .junk) [v7] H4 fun v8 H9 => ifA v8 (retF [l3.getD 3 .junk] H9 K) (optA (intA .add (l3.getD 3 .junk) (.d (.int .i64 1))) fun v10 => X2 [l3.getD 0 .junk, l3.getD 1 .junk, l3.getD 2 .junk, v10] H9)) (retF [.d (.int .i64 (-1))] H4 K)) [a0, a1, v1, .d (.int .i64 0)] H
noncomputable def r57_0 : List Oper := regOps Try.f57 0
noncomputable def r57_1 : List Oper := regOps Try.f57 1
noncomputable def r57_2 : List Oper := regOps Try.f57 2
noncomputable def r57_3 : List Oper := regOps Try.f57 3
noncomputable def r57_4 : List Oper := regOps Try.f57 4
noncomputable def r57_5 : List Oper := regOps Try.f57 5
noncomputable def r57_6 : List Oper := regOps Try.f57 6
noncomputable def r57_7 : List Oper := regOps Try.f57 7
noncomputable def c57 : Code := (.seq (.region 0 #[opAt r57_0 0] false) (.seq (.seq (.region 1 #[opAt r57_1 0, opAt r57_1 1, opAt r57_1 2] false) (.block 0 (.loop (.seq (.region 2 #[opAt r57_2 0] false) (.seq (.cond (.tmp 9) .skip (.exit 0)) (.seq (.block 1 (.seq (.region 3 #[opAt r57_3 0, opAt r57_3 1] false) (.seq (.region 4 #[opAt r57_4 0, opAt r57_4 1, opAt r57_4 2, opAt r57_4 3, opAt r57_4 4, opAt r57_4 5] false) (.cond (.tmp 16) (.seq (.region 5 #[opAt r57_5 0, opAt r57_5 1] false) .ret) .skip)))) (.region 6 #[opAt r57_6 0, opAt r57_6 1] false))))))) (.seq (.region 7 #[opAt r57_7 0] false) .ret)))
theorem c57_eq : Try.f57.body = some c57 := by kernel_rfl
theorem S57_eq (γ : Calld) (a0 a1 : AV) (H : AHeap) (K : AV → AHeap → Prop) : execC Try.prog γ pol57 Try.f57 c57 [a0, a1] H K = S57 γ a0 a1 H K := by kernel_rfl
theorem C57 {a0 a1 : AV} {H : AHeap} {K : AV → AHeap → Prop} (h : S57 (CallsA Try.prog) a0 a1 H K) : CallsA Try.prog 57 [a0, a1] H K :=
  calls_of Try.func57 (ne_of_beq_false (by kernel_rfl)) c57_eq (by kernel_rfl) (by rw [S57_eq]; exact h)
/-! (*tithing/desktop.Base).program$1 -/
def pol58 : Pol := { lend := fun g => !([28, 57] : List Nat).contains g, keep := [], frz := fun _ => [], perm := fun r => [], bf := fun r => [], ret := true }
def S58 (γ : Calld) (a0 a1 a2 : AV) (H : AHeap) (K : AV → AHeap → Prop) : Prop :=
  newK H (fun n3 => boxA a0 n3) fun v1 H2 => optA (fieldA ti62 v1 0) fun v4 => optA (ldV false 1 v4 H2) fun v5 => optA (ldV false 1 a1 H2) fun v6 => optA (strA .eql v5 v6) fun v7 => ifA v7 (optA (fieldA ti62 v1 2) fun v8 => optA (ldV false 1 v8 H2) fun v9 => optA (ldV false 1 a2 H2) fun v10 => optA (intA .eql v9 v10) fun v11 => retF [v11] H2 K) (retF [.d (.bool false)] H2 K)
noncomputable def r58_0 : List Oper := regOps Try.f58 0
noncomputable def r58_1 : List Oper := regOps Try.f58 1
noncomputable def c58 : Code := (.seq (.region 0 #[opAt r58_0 0, opAt r58_0 1] false) (.seq (.region 1 #[opAt r58_1 0, opAt r58_1 1, opAt r58_1 2, opAt r58_1 3, opAt r58_1 4, opAt r58_1 5, opAt r58_1 6, opAt r58_1 7, opAt r58_1 8, opAt r58_1 9, opAt r58_1 10] false) .ret))
theorem c58_eq : Try.f58.body = some c58 := by kernel_rfl
theorem S58_eq (γ : Calld) (a0 a1 a2 : AV) (H : AHeap) (K : AV → AHeap → Prop) : execC Try.prog γ pol58 Try.f58 c58 [a0, a1, a2] H K = S58 γ a0 a1 a2 H K := by kernel_rfl
theorem C58 {a0 a1 a2 : AV} {H : AHeap} {K : AV → AHeap → Prop} (h : S58 (CallsA Try.prog) a0 a1 a2 H K) : CallsA Try.prog 58 [a0, a1, a2] H K :=
  calls_of Try.func58 (ne_of_beq_false (by kernel_rfl)) c58_eq (by kernel_rfl) (by rw [S58_eq]; exact h)
end Go.Proofs.Ytmciomkibklokaa

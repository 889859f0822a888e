/- What the functions do, printed by a program of mine out of their code; Lean checks each equation. -/
import Derived.Test.YtmciomkibklokaaT23
import Derived.Test.YtmciomkibklokaaT23n
import Derived.Test.YtmciomkibklokaaA26
import Derived.Test.YtmciomkibklokaaProg
import Derived.KernelRfl
set_option maxRecDepth 100000
set_option linter.unusedVariables false
namespace Go.Proofs.Ytmciomkibklokaa
open Go Go.AM Go.Proofs
def ti5 : TI := { agg := false, size := 1, bytes := 1, zero := [.d (.int .u8 0)], k := .int .u8 }
def ti68 : TI := { agg := true, size := 2, bytes := 32, zero := [.d (.sl true []), .d (.int .i64 0)], k := .struct [(0, 22), (1, 27)] }
theorem ti68_f0 {i v e o : Nat} : fieldA ti68 (.ptr i v e o) 0 = some (.ptr i v e (o + 0)) := rfl
theorem ti68_v0 {cs : List Dat} {o : Nat} : fieldA ti68 (.vptr cs o) 0 = some (.vptr cs (o + 0)) := rfl
theorem ti68_f1 {i v e o : Nat} : fieldA ti68 (.ptr i v e o) 1 = some (.ptr i v e (o + 1)) := rfl
theorem ti68_v1 {cs : List Dat} {o : Nat} : fieldA ti68 (.vptr cs o) 1 = some (.vptr cs (o + 1)) := rfl
def ti79 : TI := { agg := true, size := 3, bytes := 40, zero := [.d (.sl true []), .d (.int .i64 0), .d (.int .i64 0)], k := .struct [(0, 22), (1, 3), (2, 27)] }
theorem ti79_f0 {i v e o : Nat} : fieldA ti79 (.ptr i v e o) 0 = some (.ptr i v e (o + 0)) := rfl
theorem ti79_v0 {cs : List Dat} {o : Nat} : fieldA ti79 (.vptr cs o) 0 = some (.vptr cs (o + 0)) := rfl
theorem ti79_f1 {i v e o : Nat} : fieldA ti79 (.ptr i v e o) 1 = some (.ptr i v e (o + 1)) := rfl
theorem ti79_v1 {cs : List Dat} {o : Nat} : fieldA ti79 (.vptr cs o) 1 = some (.vptr cs (o + 1)) := rfl
theorem ti79_f2 {i v e o : Nat} : fieldA ti79 (.ptr i v e o) 2 = some (.ptr i v e (o + 2)) := rfl
theorem ti79_v2 {cs : List Dat} {o : Nat} : fieldA ti79 (.vptr cs o) 2 = some (.vptr cs (o + 2)) := rfl
def ti82 : TI := { agg := false, size := 1, bytes := 24, zero := [.d (.sl true [])], k := .slice 88 }
def ti83 : TI := { agg := false, size := 1, bytes := 24, zero := [.d (.sl true [])], k := .slice 91 }
def ti84 : TI := { agg := false, size := 1, bytes := 24, zero := [.d (.sl true [])], k := .slice 93 }
def ti86 : TI := { agg := true, size := 3, bytes := 72, zero := [.d (.sl true []), .d (.sl true []), .d (.sl true [])], k := .struct [(0, 82), (1, 83), (2, 84)] }
theorem ti86_f0 {i v e o : Nat} : fieldA ti86 (.ptr i v e o) 0 = some (.ptr i v e (o + 0)) := rfl
theorem ti86_v0 {cs : List Dat} {o : Nat} : fieldA ti86 (.vptr cs o) 0 = some (.vptr cs (o + 0)) := rfl
theorem ti86_f1 {i v e o : Nat} : fieldA ti86 (.ptr i v e o) 1 = some (.ptr i v e (o + 1)) := rfl
theorem ti86_v1 {cs : List Dat} {o : Nat} : fieldA ti86 (.vptr cs o) 1 = some (.vptr cs (o + 1)) := rfl
theorem ti86_f2 {i v e o : Nat} : fieldA ti86 (.ptr i v e o) 2 = some (.ptr i v e (o + 2)) := rfl
theorem ti86_v2 {cs : List Dat} {o : Nat} : fieldA ti86 (.vptr cs o) 2 = some (.vptr cs (o + 2)) := rfl
def ti88 : TI := { agg := true, size := 5, bytes := 72, zero := [.d (.str ⟨#[]⟩), .d (.str ⟨#[]⟩), .d (.int .i64 0), .d (.int .i64 0), .d (.sl true [])], k := .struct [(0, 9), (1, 9), (2, 3), (3, 3), (4, 22)] }
theorem ti88_f0 {i v e o : Nat} : fieldA ti88 (.ptr i v e o) 0 = some (.ptr i v e (o + 0)) := rfl
theorem ti88_v0 {cs : List Dat} {o : Nat} : fieldA ti88 (.vptr cs o) 0 = some (.vptr cs (o + 0)) := rfl
theorem ti88_f1 {i v e o : Nat} : fieldA ti88 (.ptr i v e o) 1 = some (.ptr i v e (o + 1)) := rfl
theorem ti88_v1 {cs : List Dat} {o : Nat} : fieldA ti88 (.vptr cs o) 1 = some (.vptr cs (o + 1)) := rfl
theorem ti88_f2 {i v e o : Nat} : fieldA ti88 (.ptr i v e o) 2 = some (.ptr i v e (o + 2)) := rfl
theorem ti88_v2 {cs : List Dat} {o : Nat} : fieldA ti88 (.vptr cs o) 2 = some (.vptr cs (o + 2)) := rfl
theorem ti88_f3 {i v e o : Nat} : fieldA ti88 (.ptr i v e o) 3 = some (.ptr i v e (o + 3)) := rfl
theorem ti88_v3 {cs : List Dat} {o : Nat} : fieldA ti88 (.vptr cs o) 3 = some (.vptr cs (o + 3)) := rfl
theorem ti88_f4 {i v e o : Nat} : fieldA ti88 (.ptr i v e o) 4 = some (.ptr i v e (o + 4)) := rfl
theorem ti88_v4 {cs : List Dat} {o : Nat} : fieldA ti88 (.vptr cs o) 4 = some (.vptr cs (o + 4)) := rfl
def ti91 : TI := { agg := true, size := 3, bytes := 32, zero := [.d (.str ⟨#[]⟩), .d (.int .i64 0), .d (.int .i64 0)], k := .struct [(0, 9), (1, 3), (2, 3)] }
theorem ti91_f0 {i v e o : Nat} : fieldA ti91 (.ptr i v e o) 0 = some (.ptr i v e (o + 0)) := rfl
theorem ti91_v0 {cs : List Dat} {o : Nat} : fieldA ti91 (.vptr cs o) 0 = some (.vptr cs (o + 0)) := rfl
theorem ti91_f1 {i v e o : Nat} : fieldA ti91 (.ptr i v e o) 1 = some (.ptr i v e (o + 1)) := rfl
theorem ti91_v1 {cs : List Dat} {o : Nat} : fieldA ti91 (.vptr cs o) 1 = some (.vptr cs (o + 1)) := rfl
theorem ti91_f2 {i v e o : Nat} : fieldA ti91 (.ptr i v e o) 2 = some (.ptr i v e (o + 2)) := rfl
theorem ti91_v2 {cs : List Dat} {o : Nat} : fieldA ti91 (.vptr cs o) 2 = some (.vptr cs (o + 2)) := rfl
def ti93 : TI := { agg := true, size := 2, bytes := 24, zero := [.d (.int .i64 0), .d (.str ⟨#[]⟩)], k := .struct [(0, 3), (1, 9)] }
theorem ti93_f0 {i v e o : Nat} : fieldA ti93 (.ptr i v e o) 0 = some (.ptr i v e (o + 0)) := rfl
theorem ti93_v0 {cs : List Dat} {o : Nat} : fieldA ti93 (.vptr cs o) 0 = some (.vptr cs (o + 0)) := rfl
theorem ti93_f1 {i v e o : Nat} : fieldA ti93 (.ptr i v e o) 1 = some (.ptr i v e (o + 1)) := rfl
theorem ti93_v1 {cs : List Dat} {o : Nat} : fieldA ti93 (.vptr cs o) 1 = some (.vptr cs (o + 1)) := rfl
def ti114 : TI := { agg := false, size := 1, bytes := 24, zero := [.d (.sl true [])], k := .slice 22 }
theorem bd68 {parts : List (Nat × AV)} : buildA Try.prog ti68 parts = (fillA (fun i => (([(0, 22), (1, 27)] : List (Nat × TypeId))[i]?).map fun f => (f.1, Try.prog.cellsOf f.2)) [.d (.sl true []), .d (.int .i64 0)] parts).map AV.agg := rfl
theorem bd79 {parts : List (Nat × AV)} : buildA Try.prog ti79 parts = (fillA (fun i => (([(0, 22), (1, 3), (2, 27)] : List (Nat × TypeId))[i]?).map fun f => (f.1, Try.prog.cellsOf f.2)) [.d (.sl true []), .d (.int .i64 0), .d (.int .i64 0)] parts).map AV.agg := rfl
theorem bd86 {parts : List (Nat × AV)} : buildA Try.prog ti86 parts = (fillA (fun i => (([(0, 82), (1, 83), (2, 84)] : List (Nat × TypeId))[i]?).map fun f => (f.1, Try.prog.cellsOf f.2)) [.d (.sl true []), .d (.sl true []), .d (.sl true [])] parts).map AV.agg := rfl
theorem bd88 {parts : List (Nat × AV)} : buildA Try.prog ti88 parts = (fillA (fun i => (([(0, 9), (1, 9), (2, 3), (3, 3), (4, 22)] : List (Nat × TypeId))[i]?).map fun f => (f.1, Try.prog.cellsOf f.2)) [.d (.str ⟨#[]⟩), .d (.str ⟨#[]⟩), .d (.int .i64 0), .d (.int .i64 0), .d (.sl true [])] parts).map AV.agg := rfl
theorem bd91 {parts : List (Nat × AV)} : buildA Try.prog ti91 parts = (fillA (fun i => (([(0, 9), (1, 3), (2, 3)] : List (Nat × TypeId))[i]?).map fun f => (f.1, Try.prog.cellsOf f.2)) [.d (.str ⟨#[]⟩), .d (.int .i64 0), .d (.int .i64 0)] parts).map AV.agg := rfl
theorem bd93 {parts : List (Nat × AV)} : buildA Try.prog ti93 parts = (fillA (fun i => (([(0, 3), (1, 9)] : List (Nat × TypeId))[i]?).map fun f => (f.1, Try.prog.cellsOf f.2)) [.d (.int .i64 0), .d (.str ⟨#[]⟩)] parts).map AV.agg := rfl
theorem cell27 : Try.prog.cellsOf 27 = 1 := by kernel_rfl
theorem cell82 : Try.prog.cellsOf 82 = 1 := by kernel_rfl
theorem cell83 : Try.prog.cellsOf 83 = 1 := by kernel_rfl
theorem cell84 : Try.prog.cellsOf 84 = 1 := by kernel_rfl
theorem cell88 : Try.prog.cellsOf 88 = 5 := by kernel_rfl
theorem cell91 : Try.prog.cellsOf 91 = 3 := by kernel_rfl
theorem cell93 : Try.prog.cellsOf 93 = 2 := by kernel_rfl
/-! tithing/tithinglaw23.DesktopLoads -/
def pol4 : Pol := { lend := fun g => !([28, 57, 52, 61, 43, 44] : List Nat).contains g, keep := [], frz := fun _ => [], perm := fun r => if r = 5 then [0, 1, 2, 3, 4, 5, 6, 7, 8, 9, 10, 11, 12, 13, 14, 15, 16, 17, 18, 19, 20, 21, 22] else [], bf := fun r => if r = 5 then [0, 1, 3, 7, 15, 31, 7, 95, 223, 511, 1023, 2047, 4095, 8191, 2047, 18431, 65535, 131071, 262143, 524287, 1048575, 2097151, 4194303] else [], ret := true }
def S4 (γ : Calld) (a0 : AV) (H : AHeap) (K : AV → AHeap → Prop) : Prop :=
  frzLK [a0] H fun l3 H4 => γ 10 l3 H4 fun v1 H2 => optA (extractA v1 0) fun v5 => optA (extractA v1 1) fun v6 => frzLK [a0] H2 fun l9 H10 => γ 11 l9 H10 fun v7 H8 => optA (extractA v7 0) fun v11 => optA (extractA v7 1) fun v12 => optA (intA .neq v6 v12) fun v13 => ifA v13 (retF [.d (.bool false)] H8 K) (optA (intA .eql v6 (.d (.int .i64 0))) fun v14 => optA (nilA 3 .neq v5 .nilptr) fun v15 => optA (boolA .neq v14 v15) fun v16 => ifA v16 (retF [.d (.bool false)] H8 K) (drA true (optA (intA .neq v6 (.d (.int .i64 0))) fun v17 => ifA v17 (frzLK [] H8 fun l19 H21 => ∃ r20, γ 6 l19 H21 (fun v H2 => v = r20 ∧ AHeap.le H21 H2) ∧ (retF [r20] H21 K)) (noRsA (aggL v5) (frzLK [v5] H8 fun l23 H25 => ∃ r24, γ 12 l23 H25 (fun v H2 => v = r24 ∧ AHeap.le H25 H2) ∧ (optA (cvBS r24 H25) fun v26 => apart (rsOf v11) r24 ∧ (noRsA (aggL v11) (frzLK [v11] H25 fun l28 H30 => ∃ r29, γ 13 l28 H30 (fun v H2 => v = r29 ∧ AHeap.le H30 H2) ∧ (optA (cvBS r29 H30) fun v31 => optA (strA .eql v26 v31) fun v32 => ifA v32 (noRsA (aggL v5) (frzLK [v5] H30 fun l34 H36 => ∃ r35, γ 12 l34 H36 (fun v H2 => v = r35 ∧ AHeap.le H36 H2) ∧ (optA (cvBS r35 H36) fun v37 => apart (rsOf v5) a0 ∧ (optA (cvBS a0 H36) fun v38 => optA (strA .eql v37 v38) fun v39 => ifA v39 (frzLK [] H36 fun l41 H43 => ∃ r42, γ 6 l41 H43 (fun v H2 => v = r42 ∧ AHeap.le H43 H2) ∧ (retF [r42] H43 K)) (retF [.d (.bool false)] H36 K))))) (retF [.d (.bool false)] H30 K))))))))))
noncomputable def r4_0 : List Oper := regOps Try.f4 0
noncomputable def r4_1 : List Oper := regOps Try.f4 1
noncomputable def r4_2 : List Oper := regOps Try.f4 2
noncomputable def r4_3 : List Oper := regOps Try.f4 3
noncomputable def r4_4 : List Oper := regOps Try.f4 4
noncomputable def r4_5 : List Oper := regOps Try.f4 5
noncomputable def c4 : Code := (.seq (.region 0 #[opAt r4_0 0] false) (.seq (.region 1 #[opAt r4_1 0, opAt r4_1 1, opAt r4_1 2, opAt r4_1 3, opAt r4_1 4, opAt r4_1 5, opAt r4_1 6] false) (.seq (.region 2 #[opAt r4_2 0, opAt r4_2 1, opAt r4_2 2, opAt r4_2 3, opAt r4_2 4, opAt r4_2 5, opAt r4_2 6] false) (.seq (.seq (.region 3 #[opAt r4_3 0, opAt r4_3 1, opAt r4_3 2, opAt r4_3 3, opAt r4_3 4, opAt r4_3 5, opAt r4_3 6, opAt r4_3 7, opAt r4_3 8, opAt r4_3 9] false) (.cond (.tmp 26) (.seq (.region 4 #[opAt r4_4 0] false) .ret) .skip)) (.seq (.region 5 #[opAt r4_5 0, opAt r4_5 1, opAt r4_5 2, opAt r4_5 3, opAt r4_5 4, opAt r4_5 5, opAt r4_5 6, opAt r4_5 7, opAt r4_5 8, opAt r4_5 9, opAt r4_5 10, opAt r4_5 11, opAt r4_5 12, opAt r4_5 13, opAt r4_5 14, opAt r4_5 15, opAt r4_5 16, opAt r4_5 17, opAt r4_5 18, opAt r4_5 19, opAt r4_5 20, opAt r4_5 21, opAt r4_5 22] true) .ret)))))
theorem c4_eq : Try.f4.body = some c4 := by kernel_rfl
theorem S4_eq (γ : Calld) (a0 : AV) (H : AHeap) (K : AV → AHeap → Prop) : execC Try.prog γ pol4 Try.f4 c4 [a0] H K = S4 γ a0 H K := by kernel_rfl
theorem C4 {a0 : AV} {H : AHeap} {K : AV → AHeap → Prop} (h : S4 (CallsA Try.prog) a0 H K) : CallsA Try.prog 4 [a0] H K :=
  calls_of Try.func4 (ne_of_beq_false (by kernel_rfl)) c4_eq (by kernel_rfl) (by rw [S4_eq]; exact h)
/-! tithing/desktop.Load -/
def pol10 : Pol := { lend := fun g => !([28, 57, 52, 61, 43, 44] : List Nat).contains g, keep := [4, 5, 8, 16, 17, 62, 63, 96, 97], frz := fun _ => [], perm := fun r => if r = 11 then [0, 1, 2, 3, 4, 5, 6, 7, 8, 9, 10] else if r = 19 then [0, 1, 2, 3, 4, 5, 6, 7, 8, 9, 10] else if r = 32 then [0, 1, 2, 3, 4, 5] else [], bf := fun r => if r = 11 then [0, 0, 2, 6, 14, 0, 32, 126, 255, 511, 1023] else if r = 19 then [0, 0, 2, 6, 14, 0, 32, 126, 255, 511, 1023] else if r = 32 then [0, 1, 3, 7, 0, 31] else [], ret := true }
def S10 (γ : Calld) (a0 : AV) (H : AHeap) (K : AV → AHeap → Prop) : Prop :=
  frzLK [] H fun l3 H4 => γ 7 l3 H4 fun v1 H2 => stepK (bdA Try.prog ti68 [0] [a0] H2) H2 fun v5 H6 => newK H6 (fun n9 => boxA v5 n9) fun v7 H8 => frzLK [v7] H8 fun l12 H13 => γ 30 l12 H13 fun v10 H11 => loopA (fun X14 l15 H16 => optA (intA .lss (l15.getD 4 .junk) (l15.getD 3 .junk)) fun v17 => ifA v17 (frzLK [l15.getD 1 .junk, .d (.int .i64 4)] H16 fun l20 H21 => γ 31 l20 H21 fun v18 H19 => optA (cvBS v18 H19) fun v22 => stepK (bdA Try.prog ti72 [0] [v22] H19) H19 fun v23 H24 => newK H24 (fun n27 => some (.ptr n27 0 0 0, [(n27, .mem 0 0 5 [[.d (.str ⟨#[]⟩), .d (.str ⟨#[]⟩), .d (.int .i64 0), .d (.int .i64 0), .d (.sl true [])]])])) fun v25 H26 => stepK (stoA true 5 v25 v23 H26) H26 fun v28 H29 => frzLK [l15.getD 1 .junk, .d (.int .i64 4)] H29 fun l32 H33 => γ 31 l32 H33 fun v30 H31 => optA (cvBS v30 H31) fun v34 => optA (fieldA ti72 v25 1) fun v35 => stepK (stoA false 1 v35 v34 H31) H31 fun v36 H37 => frzLK [l15.getD 1 .junk, .d (.int .i64 1), .d (.int .i64 1), .d (.int .i64 6)] H37 fun l40 H41 => γ 32 l40 H41 fun v38 H39 => optA (fieldA ti72 v25 2) fun v42 => stepK (stoA false 1 v42 v38 H39) H39 fun v43 H44 => optA (fieldA ti72 v25 0) fun v45 => optA (ldV false 1 v45 H44) fun v46 => optA (fieldA ti72 v25 1) fun v47 => optA (ldV false 1 v47 H44) fun v48 => optA (fieldA ti72 v25 2) fun v49 => optA (ldV false 1 v49 H44) fun v50 => frzLK [l15.getD 0 .junk, v46, v48, v50] H44 fun l53 H54 => γ 34 l53 H54 fun v51 H52 => optA (intA .lss v51 (.d (.int .i64 0))) fun v55 => frzLK [l15.getD 1 .junk, v55, .d (.int .i64 3)] H52 fun l58 H59 => γ 33 l58 H59 fun v56 H57 => frzLK [l15.getD 1 .junk] H57 fun l62 H63 => γ 35 l62 H63 fun v60 H61 => optA (fieldA ti72 v25 3) fun v64 => stepK (stoA false 1 v64 v60 H61) H61 fun v65 H66 => frzLK [l15.getD 1 .junk, .d (.int .i64 2), .d (.int .i64 1), .d (.int .i64 500)] H66 fun l69 H70 => γ 32 l69 H70 fun v67 H68 => frzLK [l15.getD 1 .junk, v67] H68 fun l73 H74 => γ 31 l73 H74 fun v71 H72 => frzLK [v71] H72 fun l77 H78 => γ 36 l77 H78 fun v75 H76 => optA (fieldA ti72 v25 4) fun v79 => stepK (stoA false 1 v79 v75 H76) H76 fun v80 H81 => drA true (optA (nilCkA (l15.getD 0 .junk)) fun v82 => optA (fieldA ti55 v82 0) fun v83 => optA (ldV false 1 v83 H81) fun v84 => optA (ldV true 5 v25 H81) fun v85 => apart (rsOf v85) v83 ∧ (noRsA (aggL v85) (newK H81 (fun n88 => bsA ti72 1 [0] [v85] H81 n88) fun v86 H87 => newK H87 (fun n91 => apA 5 72 v84 v86 H87 n91) fun v89 H90 => optA (nilCkA (l15.getD 0 .junk)) fun v92 => optA (fieldA ti55 v92 0) fun v93 => noRsA (aggL v89) (stepK (stoA false 1 v93 v89 H90) H90 fun v94 H95 => optA (intA .add (l15.getD 4 .junk) (.d (.int .i64 1))) fun v96 => X14 [l15.getD 0 .junk, l15.getD 1 .junk, l15.getD 2 .junk, l15.getD 3 .junk, v96, l15.getD 5 .junk, l15.getD 6 .junk, l15.getD 7 .junk, l15.getD 8 .junk] H95))))) (frzLK [l15.getD 1 .junk] H16 fun l99 H100 => γ 30 l99 H100 fun v97 H98 => loopA (fun X101 l102 H103 => optA (intA .lss (l102.getD 6 .junk) (l102.getD 5 .junk)) fun v104 => ifA v104 (frzLK [l102.getD 1 .junk, .d (.int .i64 4)] H103 fun l107 H108 => γ 31 l107 H108 fun v105 H106 => optA (cvBS v105 H106) fun v109 => stepK (bdA Try.prog ti62 [0] [v109] H106) H106 fun v110 H111 => newK H111 (fun n114 => some (.ptr n114 0 0 0, [(n114, .mem 0 0 3 [[.d (.str ⟨#[]⟩), .d (.int .i64 0), .d (.int .i64 0)]])])) fun v112 H113 => stepK (stoA true 3 v112 v110 H113) H113 fun v115 H116 => frzLK [l102.getD 1 .junk] H116 fun l119 H120 => γ 35 l119 H120 fun v117 H118 => optA (fieldA ti62 v112 1) fun v121 => stepK (stoA false 1 v121 v117 H118) H118 fun v122 H123 => frzLK [l102.getD 1 .junk, .d (.int .i64 4), .d (.int .i64 1), .d (.int .i64 4294967295)] H123 fun l126 H127 => γ 32 l126 H127 fun v124 H125 => optA (fieldA ti62 v112 2) fun v128 => stepK (stoA false 1 v128 v124 H125) H125 fun v129 H130 => optA (fieldA ti62 v112 0) fun v131 => optA (ldV false 1 v131 H130) fun v132 => optA (fieldA ti62 v112 2) fun v133 => optA (ldV false 1 v133 H130) fun v134 => frzLK [l102.getD 0 .junk, v132, v134] H130 fun l137 H138 => γ 27 l137 H138 fun v135 H136 => optA (intA .lss v135 (.d (.int .i64 0))) fun v139 => frzLK [l102.getD 1 .junk, v139, .d (.int .i64 3)] H136 fun l142 H143 => γ 33 l142 H143 fun v140 H141 => drA true (optA (nilCkA (l102.getD 0 .junk)) fun v144 => optA (fieldA ti55 v144 1) fun v145 => optA (ldV false 1 v145 H141) fun v146 => optA (ldV true 3 v112 H141) fun v147 => apart (rsOf v147) v145 ∧ (noRsA (aggL v147) (newK H141 (fun n150 => bsA ti62 1 [0] [v147] H141 n150) fun v148 H149 => newK H149 (fun n153 => apA 3 32 v146 v148 H149 n153) fun v151 H152 => optA (nilCkA (l102.getD 0 .junk)) fun v154 => optA (fieldA ti55 v154 1) fun v155 => noRsA (aggL v151) (stepK (stoA false 1 v155 v151 H152) H152 fun v156 H157 => optA (intA .add (l102.getD 6 .junk) (.d (.int .i64 1))) fun v158 => X101 [l102.getD 0 .junk, l102.getD 1 .junk, l102.getD 2 .junk, l102.getD 3 .junk, l102.getD 4 .junk, l102.getD 5 .junk, v158, l102.getD 7 .junk, l102.getD 8 .junk] H157))))) (frzLK [l102.getD 1 .junk] H103 fun l161 H162 => γ 30 l161 H162 fun v159 H160 => loopA (fun X163 l164 H165 => optA (intA .lss (l164.getD 8 .junk) (l164.getD 7 .junk)) fun v166 => ifA v166 (frzLK [l164.getD 1 .junk, .d (.int .i64 4), .d (.int .i64 1), .d (.int .i64 4294967295)] H165 fun l169 H170 => γ 32 l169 H170 fun v167 H168 => optA (intA .gtr v167 (l164.getD 2 .junk)) fun v171 => frzLK [l164.getD 1 .junk, v171, .d (.int .i64 3)] H168 fun l174 H175 => γ 33 l174 H175 fun v172 H173 => frzLK [l164.getD 1 .junk, .d (.int .i64 1), .d (.int .i64 1), .d (.int .i64 199)] H173 fun l178 H179 => γ 32 l178 H179 fun v176 H177 => frzLK [l164.getD 1 .junk, v176] H177 fun l182 H183 => γ 31 l182 H183 fun v180 H181 => optA (cvBS v180 H181) fun v184 => optA (nilCkA (l164.getD 0 .junk)) fun v185 => optA (fieldA ti55 v185 2) fun v186 => optA (ldV false 1 v186 H181) fun v187 => stepK (muA Try.prog 3 v187 v167 v184 H181) H181 fun v188 H189 => optA (intA .add (l164.getD 8 .junk) (.d (.int .i64 1))) fun v190 => X163 [l164.getD 0 .junk, l164.getD 1 .junk, v167, l164.getD 3 .junk, l164.getD 4 .junk, l164.getD 5 .junk, l164.getD 6 .junk, l164.getD 7 .junk, v190] H189) (optA (nilCkA (l164.getD 1 .junk)) fun v191 => optA (fieldA ti68 v191 0) fun v192 => optA (ldV false 1 v192 H165) fun v193 => optA (lenSl v193) fun v194 => optA (intA .eql v194 (.d (.int .i64 0))) fun v195 => frzLK [l164.getD 1 .junk, v195, .d (.int .i64 3)] H165 fun l198 H199 => γ 33 l198 H199 fun v196 H197 => optA (nilCkA (l164.getD 1 .junk)) fun v200 => optA (fieldA ti68 v200 1) fun v201 => optA (ldV false 1 v201 H197) fun v202 => optA (intA .neq v202 (.d (.int .i64 0))) fun v203 => ifA v203 (drA true (optA (nilCkA (l164.getD 1 .junk)) fun v204 => optA (fieldA ti68 v204 1) fun v205 => optA (ldV false 1 v205 H197) fun v206 => retF [.nilptr, v206] H197 K)) (retF [l164.getD 0 .junk, .d (.int .i64 0)] H197 K))) [l102.getD 0 .junk, l102.getD 1 .junk, .d (.int .i64 0), l102.getD 3 .junk, l102.getD 4 .junk, l102.getD 5 .junk, l102.getD 6 .junk, v159, .d (.int .i64 0)] H160)) [l15.getD 0 .junk, l15.getD 1 .junk, l15.getD 2 .junk, l15.getD 3 .junk, l15.getD 4 .junk, v97, .d (.int .i64 0), l15.getD 7 .junk, l15.getD 8 .junk] H98)) [v1, v7, .junk, v10, .d (.int .i64 0), .junk, .junk, .junk, .junk] H11
noncomputable def r10_0 : List Oper := regOps Try.f10 0
noncomputable def r10_1 : List Oper := regOps Try.f10 1
noncomputable def r10_2 : List Oper := regOps Try.f10 2
noncomputable def r10_3 : List Oper := regOps Try.f10 3
noncomputable def r10_4 : List Oper := regOps Try.f10 4
noncomputable def r10_5 : List Oper := regOps Try.f10 5
noncomputable def r10_6 : List Oper := regOps Try.f10 6
noncomputable def r10_7 : List Oper := regOps Try.f10 7
noncomputable def r10_8 : List Oper := regOps Try.f10 8
noncomputable def r10_9 : List Oper := regOps Try.f10 9
noncomputable def r10_10 : List Oper := regOps Try.f10 10
noncomputable def r10_11 : List Oper := regOps Try.f10 11
noncomputable def r10_12 : List Oper := regOps Try.f10 12
noncomputable def r10_13 : List Oper := regOps Try.f10 13
noncomputable def r10_14 : List Oper := regOps Try.f10 14
noncomputable def r10_15 : List Oper := regOps Try.f10 15
noncomputable def r10_16 : List Oper := regOps Try.f10 16
noncomputable def r10_17 : List Oper := regOps Try.f10 17
noncomputable def r10_18 : List Oper := regOps Try.f10 18
noncomputable def r10_19 : List Oper := regOps Try.f10 19
noncomputable def r10_20 : List Oper := regOps Try.f10 20
noncomputable def r10_21 : List Oper := regOps Try.f10 21
noncomputable def r10_22 : List Oper := regOps Try.f10 22
noncomputable def r10_23 : List Oper := regOps Try.f10 23
noncomputable def r10_24 : List Oper := regOps Try.f10 24
noncomputable def r10_25 : List Oper := regOps Try.f10 25
noncomputable def r10_26 : List Oper := regOps Try.f10 26
noncomputable def r10_27 : List Oper := regOps Try.f10 27
noncomputable def r10_28 : List Oper := regOps Try.f10 28
noncomputable def r10_29 : List Oper := regOps Try.f10 29
noncomputable def r10_30 : List Oper := regOps Try.f10 30
noncomputable def r10_31 : List Oper := regOps Try.f10 31
noncomputable def r10_32 : List Oper := regOps Try.f10 32
noncomputable def r10_33 : List Oper := regOps Try.f10 33
noncomputable def c10 : Code := (.seq (.region 0 #[opAt r10_0 0, opAt r10_0 1] false) (.seq (.region 1 #[opAt r10_1 0, opAt r10_1 1] false) (.seq (.region 2 #[opAt r10_2 0, opAt r10_2 1, opAt r10_2 2, opAt r10_2 3] false) (.seq (.seq (.region 3 #[opAt r10_3 0, opAt r10_3 1, opAt r10_3 2] false) (.block 0 (.loop (.seq (.region 4 #[opAt r10_4 0] false) (.seq (.cond (.tmp 18) .skip (.exit 0)) (.seq (.block 1 (.seq (.region 5 #[opAt r10_5 0, opAt r10_5 1, opAt r10_5 2, opAt r10_5 3, opAt r10_5 4, opAt r10_5 5] false) (.seq (.region 6 #[opAt r10_6 0, opAt r10_6 1, opAt r10_6 2, opAt r10_6 3, opAt r10_6 4] false) (.seq (.region 7 #[opAt r10_7 0, opAt r10_7 1, opAt r10_7 2, opAt r10_7 3] false) (.seq (.region 8 #[opAt r10_8 0, opAt r10_8 1, opAt r10_8 2, opAt r10_8 3, opAt r10_8 4, opAt r10_8 5, opAt r10_8 6, opAt r10_8 7, opAt r10_8 8, opAt r10_8 9, opAt r10_8 10] false) (.seq (.region 9 #[opAt r10_9 0, opAt r10_9 1, opAt r10_9 2, opAt r10_9 3] false) (.seq (.region 10 #[opAt r10_10 0, opAt r10_10 1, opAt r10_10 2, opAt r10_10 3, opAt r10_10 4, opAt r10_10 5, opAt r10_10 6] false) (.region 11 #[opAt r10_11 0, opAt r10_11 1, opAt r10_11 2, opAt r10_11 3, opAt r10_11 4, opAt r10_11 5, opAt r10_11 6, opAt r10_11 7, opAt r10_11 8, opAt r10_11 9, opAt r10_11 10] true)))))))) (.region 12 #[opAt r10_12 0, opAt r10_12 1] false))))))) (.seq (.seq (.region 13 #[opAt r10_13 0, opAt r10_13 1, opAt r10_13 2] false) (.block 2 (.loop (.seq (.region 14 #[opAt r10_14 0] false) (.seq (.cond (.tmp 64) .skip (.exit 2)) (.seq (.block 3 (.seq (.region 15 #[opAt r10_15 0, opAt r10_15 1, opAt r10_15 2, opAt r10_15 3, opAt r10_15 4, opAt r10_15 5] false) (.seq (.region 16 #[opAt r10_16 0, opAt r10_16 1, opAt r10_16 2, opAt r10_16 3] false) (.seq (.region 17 #[opAt r10_17 0, opAt r10_17 1, opAt r10_17 2, opAt r10_17 3] false) (.seq (.region 18 #[opAt r10_18 0, opAt r10_18 1, opAt r10_18 2, opAt r10_18 3, opAt r10_18 4, opAt r10_18 5, opAt r10_18 6, opAt r10_18 7, opAt r10_18 8] false) (.region 19 #[opAt r10_19 0, opAt r10_19 1, opAt r10_19 2, opAt r10_19 3, opAt r10_19 4, opAt r10_19 5, opAt r10_19 6, opAt r10_19 7, opAt r10_19 8, opAt r10_19 9, opAt r10_19 10] true)))))) (.region 20 #[opAt r10_20 0, opAt r10_20 1] false))))))) (.seq (.region 21 #[opAt r10_21 0] false) (.seq (.seq (.region 22 #[opAt r10_22 0, opAt r10_22 1, opAt r10_22 2] false) (.block 4 (.loop (.seq (.region 23 #[opAt r10_23 0] false) (.seq (.cond (.tmp 98) .skip (.exit 4)) (.seq (.block 5 (.seq (.region 24 #[opAt r10_24 0, opAt r10_24 1, opAt r10_24 2] false) (.seq (.region 25 #[opAt r10_25 0, opAt r10_25 1, opAt r10_25 2, opAt r10_25 3, opAt r10_25 4] false) (.seq (.region 26 #[opAt r10_26 0, opAt r10_26 1, opAt r10_26 2, opAt r10_26 3, opAt r10_26 4, opAt r10_26 5] false) (.seq (.region 27 #[opAt r10_27 0, opAt r10_27 1] false) (.region 28 #[opAt r10_28 0, opAt r10_28 1, opAt r10_28 2, opAt r10_28 3, opAt r10_28 4, opAt r10_28 5, opAt r10_28 6] false)))))) (.region 29 #[opAt r10_29 0, opAt r10_29 1] false))))))) (.seq (.region 30 #[opAt r10_30 0, opAt r10_30 1, opAt r10_30 2, opAt r10_30 3, opAt r10_30 4, opAt r10_30 5, opAt r10_30 6, opAt r10_30 7] false) (.seq (.seq (.region 31 #[opAt r10_31 0, opAt r10_31 1, opAt r10_31 2, opAt r10_31 3, opAt r10_31 4] false) (.cond (.tmp 131) (.seq (.region 32 #[opAt r10_32 0, opAt r10_32 1, opAt r10_32 2, opAt r10_32 3, opAt r10_32 4, opAt r10_32 5] true) .ret) .skip)) (.seq (.region 33 #[opAt r10_33 0, opAt r10_33 1, opAt r10_33 2] false) .ret))))))))))
theorem c10_eq : Try.f10.body = some c10 := by kernel_rfl
theorem S10_eq (γ : Calld) (a0 : AV) (H : AHeap) (K : AV → AHeap → Prop) : execC Try.prog γ pol10 Try.f10 c10 [a0] H K = S10 γ a0 H K := by kernel_rfl
theorem C10 {a0 : AV} {H : AHeap} {K : AV → AHeap → Prop} (h : S10 (CallsA Try.prog) a0 H K) : CallsA Try.prog 10 [a0] H K :=
  calls_of Try.func10 (ne_of_beq_false (by kernel_rfl)) c10_eq (by kernel_rfl) (by rw [S10_eq]; exact h)
/-! (*tithing/tithingref23.Base).Bytes -/
def pol13 : Pol := { lend := fun g => !([28, 57, 52, 61, 43, 44] : List Nat).contains g, keep := [0, 3, 4, 6, 8], frz := fun _ => [], perm := fun r => if r = 7 then [0, 1, 2, 3, 4, 5, 6, 7, 8, 9, 10] else if r = 8 then [0, 1, 2, 3, 4, 5, 6, 7, 8, 9] else if r = 15 then [0, 1, 2, 3, 4, 5, 6, 7, 8, 9] else if r = 21 then [0, 1, 2, 3, 4, 5, 6, 7, 8, 9, 10, 11] else [], bf := fun r => if r = 7 then [0, 0, 2, 6, 14, 31, 0, 64, 255, 511, 1023] else if r = 8 then [0, 0, 2, 6, 14, 31, 0, 64, 255, 511] else if r = 15 then [0, 0, 2, 6, 15, 0, 32, 127, 255, 511] else if r = 21 then [0, 0, 2, 6, 15, 0, 32, 96, 224, 480, 1023, 2047] else [], ret := true }
def S13 (γ : Calld) (a0 : AV) (H : AHeap) (K : AV → AHeap → Prop) : Prop :=
  optA (nilCkA a0) fun v1 => optA (fieldA ti86 v1 0) fun v2 => optA (ldV false 1 v2 H) fun v3 => optA (lenSl v3) fun v4 => frzLK [.d (.int .i64 2), v4] H fun l7 H8 => γ 49 l7 H8 fun v5 H6 => loopA (fun X9 l10 H11 => optA (nilCkA (l10.getD 0 .junk)) fun v12 => optA (fieldA ti86 v12 0) fun v13 => optA (ldV false 1 v13 H11) fun v14 => optA (lenSl v14) fun v15 => optA (intA .lss (l10.getD 2 .junk) v15) fun v16 => ifA v16 (optA (nilCkA (l10.getD 0 .junk)) fun v17 => optA (fieldA ti86 v17 0) fun v18 => optA (ldV false 1 v18 H11) fun v19 => optA (indexAddrA ti82 5 v19 (l10.getD 2 .junk)) fun v20 => optA (ldV true 5 v20 H11) fun v21 => newK H11 (fun n24 => some (.ptr n24 0 0 0, [(n24, .mem 0 0 5 [[.d (.str ⟨#[]⟩), .d (.str ⟨#[]⟩), .d (.int .i64 0), .d (.int .i64 0), .d (.sl true [])]])])) fun v22 H23 => stepK (stoA true 5 v22 v21 H23) H23 fun v25 H26 => optA (fieldA ti88 v22 0) fun v27 => optA (ldV false 1 v27 H26) fun v28 => optA (fieldA ti88 v22 1) fun v29 => optA (ldV false 1 v29 H26) fun v30 => optA (strA .add v28 v30) fun v31 => stepK (sbA v31) H26 fun v32 H33 => newK H33 (fun n36 => apA 1 1 (l10.getD 1 .junk) v32 H33 n36) fun v34 H35 => drA true (optA (fieldA ti88 v22 2) fun v37 => optA (ldV false 1 v37 H35) fun v38 => optA (cvI .u8 v38) fun v39 => noRsA (aggL v39) (newK H35 (fun n42 => bsA ti5 1 [0] [v39] H35 n42) fun v40 H41 => newK H41 (fun n45 => apA 1 1 v34 v40 H41 n45) fun v43 H44 => optA (fieldA ti88 v22 3) fun v46 => apart v34 v46 ∧ (apart v43 v46 ∧ (apart (rsOf v39) v46 ∧ (apart v40 v46 ∧ (optA (ldV false 1 v46 H44) fun v47 => noRsA (aggL (.d (.int .i64 8))) (noRsA (aggL v47) (frzLK [.d (.int .i64 8), v47] H44 fun l49 H51 => ∃ r50, γ 49 l49 H51 (fun v H2 => v = r50 ∧ AHeap.le H51 H2) ∧ (newK H51 (fun n54 => apA 1 1 v43 r50 H51 n54) fun v52 H53 => drA true (optA (fieldA ti88 v22 4) fun v55 => optA (ldV false 1 v55 H53) fun v56 => optA (lenSl v56) fun v57 => noRsA (aggL (.d (.int .i64 2))) (noRsA (aggL v57) (frzLK [.d (.int .i64 2), v57] H53 fun l59 H61 => ∃ r60, γ 49 l59 H61 (fun v H2 => v = r60 ∧ AHeap.le H61 H2) ∧ (newK H61 (fun n64 => apA 1 1 v52 r60 H61 n64) fun v62 H63 => optA (fieldA ti88 v22 4) fun v65 => apart v52 v65 ∧ (apart v62 v65 ∧ (apart (rsOf (.d (.int .i64 2))) v65 ∧ (apart (rsOf v57) v65 ∧ (optA (ldV false 1 v65 H63) fun v66 => newK H63 (fun n69 => apA 1 1 v62 v66 H63 n69) fun v67 H68 => optA (intA .add (l10.getD 2 .junk) (.d (.int .i64 1))) fun v70 => X9 [l10.getD 0 .junk, v67, v70, l10.getD 3 .junk, l10.getD 4 .junk] H68)))))))))))))))))) (optA (nilCkA (l10.getD 0 .junk)) fun v71 => optA (fieldA ti86 v71 1) fun v72 => optA (ldV false 1 v72 H11) fun v73 => optA (lenSl v73) fun v74 => frzLK [.d (.int .i64 2), v74] H11 fun l77 H78 => γ 49 l77 H78 fun v75 H76 => newK H76 (fun n81 => apA 1 1 (l10.getD 1 .junk) v75 H76 n81) fun v79 H80 => loopA (fun X82 l83 H84 => optA (nilCkA (l83.getD 0 .junk)) fun v85 => optA (fieldA ti86 v85 1) fun v86 => optA (ldV false 1 v86 H84) fun v87 => optA (lenSl v87) fun v88 => optA (intA .lss (l83.getD 3 .junk) v88) fun v89 => ifA v89 (optA (nilCkA (l83.getD 0 .junk)) fun v90 => optA (fieldA ti86 v90 1) fun v91 => optA (ldV false 1 v91 H84) fun v92 => optA (indexAddrA ti83 3 v92 (l83.getD 3 .junk)) fun v93 => optA (ldV true 3 v93 H84) fun v94 => newK H84 (fun n97 => some (.ptr n97 0 0 0, [(n97, .mem 0 0 3 [[.d (.str ⟨#[]⟩), .d (.int .i64 0), .d (.int .i64 0)]])])) fun v95 H96 => stepK (stoA true 3 v95 v94 H96) H96 fun v98 H99 => optA (fieldA ti91 v95 0) fun v100 => optA (ldV false 1 v100 H99) fun v101 => stepK (sbA v101) H99 fun v102 H103 => newK H103 (fun n106 => apA 1 1 (l83.getD 1 .junk) v102 H103 n106) fun v104 H105 => drA true (optA (fieldA ti91 v95 1) fun v107 => optA (ldV false 1 v107 H105) fun v108 => noRsA (aggL (.d (.int .i64 8))) (noRsA (aggL v108) (frzLK [.d (.int .i64 8), v108] H105 fun l110 H112 => ∃ r111, γ 49 l110 H112 (fun v H2 => v = r111 ∧ AHeap.le H112 H2) ∧ (newK H112 (fun n115 => apA 1 1 v104 r111 H112 n115) fun v113 H114 => optA (fieldA ti91 v95 2) fun v116 => apart v104 v116 ∧ (apart v113 v116 ∧ (apart (rsOf (.d (.int .i64 8))) v116 ∧ (apart (rsOf v108) v116 ∧ (optA (ldV false 1 v116 H114) fun v117 => noRsA (aggL (.d (.int .i64 4))) (noRsA (aggL v117) (frzLK [.d (.int .i64 4), v117] H114 fun l119 H121 => ∃ r120, γ 49 l119 H121 (fun v H2 => v = r120 ∧ AHeap.le H121 H2) ∧ (newK H121 (fun n124 => apA 1 1 v113 r120 H121 n124) fun v122 H123 => optA (intA .add (l83.getD 3 .junk) (.d (.int .i64 1))) fun v125 => X82 [l83.getD 0 .junk, v122, l83.getD 2 .junk, v125, l83.getD 4 .junk] H123)))))))))))) (optA (nilCkA (l83.getD 0 .junk)) fun v126 => optA (fieldA ti86 v126 2) fun v127 => optA (ldV false 1 v127 H84) fun v128 => optA (lenSl v128) fun v129 => frzLK [.d (.int .i64 2), v129] H84 fun l132 H133 => γ 49 l132 H133 fun v130 H131 => newK H131 (fun n136 => apA 1 1 (l83.getD 1 .junk) v130 H131 n136) fun v134 H135 => loopA (fun X137 l138 H139 => optA (nilCkA (l138.getD 0 .junk)) fun v140 => optA (fieldA ti86 v140 2) fun v141 => optA (ldV false 1 v141 H139) fun v142 => optA (lenSl v142) fun v143 => optA (intA .lss (l138.getD 4 .junk) v143) fun v144 => ifA v144 (optA (nilCkA (l138.getD 0 .junk)) fun v145 => optA (fieldA ti86 v145 2) fun v146 => optA (ldV false 1 v146 H139) fun v147 => optA (indexAddrA ti84 2 v147 (l138.getD 4 .junk)) fun v148 => optA (ldV true 2 v148 H139) fun v149 => newK H139 (fun n152 => some (.ptr n152 0 0 0, [(n152, .mem 0 0 2 [[.d (.int .i64 0), .d (.str ⟨#[]⟩)]])])) fun v150 H151 => stepK (stoA true 2 v150 v149 H151) H151 fun v153 H154 => drA true (optA (fieldA ti93 v150 0) fun v155 => optA (ldV false 1 v155 H154) fun v156 => noRsA (aggL (.d (.int .i64 4))) (noRsA (aggL v156) (frzLK [.d (.int .i64 4), v156] H154 fun l158 H160 => ∃ r159, γ 49 l158 H160 (fun v H2 => v = r159 ∧ AHeap.le H160 H2) ∧ (newK H160 (fun n163 => apA 1 1 (l138.getD 1 .junk) r159 H160 n163) fun v161 H162 => optA (fieldA ti93 v150 1) fun v164 => apart (l138.getD 1 .junk) v164 ∧ (apart v161 v164 ∧ (apart (rsOf (.d (.int .i64 4))) v164 ∧ (apart (rsOf v156) v164 ∧ (optA (ldV false 1 v164 H162) fun v165 => apart (l138.getD 1 .junk) v165 ∧ (apart v161 v165 ∧ (apart (rsOf (.d (.int .i64 4))) v165 ∧ (apart (rsOf v156) v165 ∧ (optA (lenStr v165) fun v166 => apart (l138.getD 1 .junk) v166 ∧ (apart v161 v166 ∧ (apart (rsOf (.d (.int .i64 4))) v166 ∧ (apart (rsOf v156) v166 ∧ (optA (cvI .u8 v166) fun v167 => apart (rsOf v167) (l138.getD 1 .junk) ∧ (apart (rsOf v167) r159 ∧ (apart (rsOf v167) (l138.getD 1 .junk) ∧ (apart (rsOf v167) v161 ∧ (apart (rsOf v167) .junk ∧ (apart (rsOf v167) (rsOf (.d (.int .i64 4))) ∧ (apart (rsOf v167) (rsOf v156) ∧ (apart (rsOf v167) v155 ∧ (noRsA (aggL v167) (newK H162 (fun n170 => bsA ti5 1 [0] [v167] H162 n170) fun v168 H169 => newK H169 (fun n173 => apA 1 1 v161 v168 H169 n173) fun v171 H172 => optA (fieldA ti93 v150 1) fun v174 => optA (ldV false 1 v174 H172) fun v175 => stepK (sbA v175) H172 fun v176 H177 => newK H177 (fun n180 => apA 1 1 v171 v176 H177 n180) fun v178 H179 => optA (intA .add (l138.getD 4 .junk) (.d (.int .i64 1))) fun v181 => X137 [l138.getD 0 .junk, v178, l138.getD 2 .junk, l138.getD 3 .junk, v181] H179)))))))))))))))))))))))))) (retF [l138.getD 1 .junk] H139 K)) [l83.getD 0 .junk, v134, l83.getD 2 .junk, l83.getD 3 .junk, .d (.int .i64 0)] H135)) [l10.getD 0 .junk, v79, l10.getD 2 .junk, .d (.int .i64 0), l10.getD 4 .junk] H80)) [a0, v5, .d (.int .i64 0), .junk, .junk] H6
noncomputable def r13_0 : List Oper := regOps Try.f13 0
noncomputable def r13_1 : List Oper := regOps Try.f13 1
noncomputable def r13_2 : List Oper := regOps Try.f13 2
noncomputable def r13_3 : List Oper := regOps Try.f13 3
noncomputable def r13_4 : List Oper := regOps Try.f13 4
noncomputable def r13_5 : List Oper := regOps Try.f13 5
noncomputable def r13_6 : List Oper := regOps Try.f13 6
noncomputable def r13_7 : List Oper := regOps Try.f13 7
noncomputable def r13_8 : List Oper := regOps Try.f13 8
noncomputable def r13_9 : List Oper := regOps Try.f13 9
noncomputable def r13_10 : List Oper := regOps Try.f13 10
noncomputable def r13_11 : List Oper := regOps Try.f13 11
noncomputable def r13_12 : List Oper := regOps Try.f13 12
noncomputable def r13_13 : List Oper := regOps Try.f13 13
noncomputable def r13_14 : List Oper := regOps Try.f13 14
noncomputable def r13_15 : List Oper := regOps Try.f13 15
noncomputable def r13_16 : List Oper := regOps Try.f13 16
noncomputable def r13_17 : List Oper := regOps Try.f13 17
noncomputable def r13_18 : List Oper := regOps Try.f13 18
noncomputable def r13_19 : List Oper := regOps Try.f13 19
noncomputable def r13_20 : List Oper := regOps Try.f13 20
noncomputable def r13_21 : List Oper := regOps Try.f13 21
noncomputable def r13_22 : List Oper := regOps Try.f13 22
noncomputable def r13_23 : List Oper := regOps Try.f13 23
noncomputable def c13 : Code := (.seq (.region 0 #[opAt r13_0 0] false) (.seq (.region 1 #[opAt r13_1 0, opAt r13_1 1, opAt r13_1 2, opAt r13_1 3, opAt r13_1 4, opAt r13_1 5, opAt r13_1 6] false) (.seq (.seq (.region 2 #[opAt r13_2 0] false) (.block 0 (.loop (.seq (.seq (.region 3 #[opAt r13_3 0, opAt r13_3 1, opAt r13_3 2, opAt r13_3 3, opAt r13_3 4, opAt r13_3 5, opAt r13_3 6] false) (.cond (.tmp 22) .skip (.exit 0))) (.seq (.block 1 (.seq (.region 5 #[opAt r13_4 0, opAt r13_4 1, opAt r13_4 2, opAt r13_4 3, opAt r13_4 4, opAt r13_4 5, opAt r13_4 6, opAt r13_4 7, opAt r13_4 8] false) (.seq (.region 6 #[opAt r13_5 0, opAt r13_5 1, opAt r13_5 2, opAt r13_5 3, opAt r13_5 4, opAt r13_5 5, opAt r13_5 6, opAt r13_5 7, opAt r13_5 8] false) (.seq (.region 7 #[opAt r13_6 0, opAt r13_6 1, opAt r13_6 2, opAt r13_6 3, opAt r13_6 4, opAt r13_6 5, opAt r13_6 6, opAt r13_6 7, opAt r13_6 8, opAt r13_6 9, opAt r13_6 10] true) (.region 8 #[opAt r13_7 0, opAt r13_7 1, opAt r13_7 2, opAt r13_7 3, opAt r13_7 4, opAt r13_7 5, opAt r13_7 6, opAt r13_7 7, opAt r13_7 8, opAt r13_7 9] true))))) (.region 4 #[opAt r13_8 0, opAt r13_8 1, opAt r13_8 2] false)))))) (.seq (.region 9 #[opAt r13_9 0, opAt r13_9 1, opAt r13_9 2, opAt r13_9 3, opAt r13_9 4, opAt r13_9 5, opAt r13_9 6, opAt r13_9 7, opAt r13_9 8] false) (.seq (.seq (.region 10 #[opAt r13_10 0] false) (.block 2 (.loop (.seq (.seq (.region 11 #[opAt r13_11 0, opAt r13_11 1, opAt r13_11 2, opAt r13_11 3, opAt r13_11 4, opAt r13_11 5, opAt r13_11 6] false) (.cond (.tmp 73) .skip (.exit 2))) (.seq (.block 3 (.seq (.region 13 #[opAt r13_12 0, opAt r13_12 1, opAt r13_12 2, opAt r13_12 3, opAt r13_12 4, opAt r13_12 5, opAt r13_12 6, opAt r13_12 7, opAt r13_12 8] false) (.seq (.region 14 #[opAt r13_13 0, opAt r13_13 1, opAt r13_13 2, opAt r13_13 3, opAt r13_13 4, opAt r13_13 5] false) (.region 15 #[opAt r13_14 0, opAt r13_14 1, opAt r13_14 2, opAt r13_14 3, opAt r13_14 4, opAt r13_14 5, opAt r13_14 6, opAt r13_14 7, opAt r13_14 8, opAt r13_14 9] true)))) (.region 12 #[opAt r13_15 0, opAt r13_15 1, opAt r13_15 2] false)))))) (.seq (.region 16 #[opAt r13_16 0, opAt r13_16 1, opAt r13_16 2, opAt r13_16 3, opAt r13_16 4, opAt r13_16 5, opAt r13_16 6, opAt r13_16 7, opAt r13_16 8] false) (.seq (.seq (.region 17 #[opAt r13_17 0] false) (.block 4 (.loop (.seq (.seq (.region 18 #[opAt r13_18 0, opAt r13_18 1, opAt r13_18 2, opAt r13_18 3, opAt r13_18 4, opAt r13_18 5, opAt r13_18 6] false) (.cond (.tmp 111) .skip (.exit 4))) (.seq (.block 5 (.seq (.region 20 #[opAt r13_19 0, opAt r13_19 1, opAt r13_19 2, opAt r13_19 3, opAt r13_19 4, opAt r13_19 5, opAt r13_19 6, opAt r13_19 7, opAt r13_19 8] false) (.seq (.region 21 #[opAt r13_20 0, opAt r13_20 1, opAt r13_20 2, opAt r13_20 3, opAt r13_20 4, opAt r13_20 5, opAt r13_20 6, opAt r13_20 7, opAt r13_20 8, opAt r13_20 9, opAt r13_20 10, opAt r13_20 11] true) (.region 22 #[opAt r13_21 0, opAt r13_21 1, opAt r13_21 2, opAt r13_21 3, opAt r13_21 4, opAt r13_21 5] false)))) (.region 19 #[opAt r13_22 0, opAt r13_22 1, opAt r13_22 2] false)))))) (.seq (.region 23 #[opAt r13_23 0, opAt r13_23 1] false) .ret))))))))
theorem c13_eq : Try.f13.body = some c13 := by kernel_rfl
theorem S13_eq (γ : Calld) (a0 : AV) (H : AHeap) (K : AV → AHeap → Prop) : execC Try.prog γ pol13 Try.f13 c13 [a0] H K = S13 γ a0 H K := by kernel_rfl
theorem C13 {a0 : AV} {H : AHeap} {K : AV → AHeap → Prop} (h : S13 (CallsA Try.prog) a0 H K) : CallsA Try.prog 13 [a0] H K :=
  calls_of Try.func13 (ne_of_beq_false (by kernel_rfl)) c13_eq (by kernel_rfl) (by rw [S13_eq]; exact h)
/-! (*tithing/desktop.reader).count -/
def pol30 : Pol := { lend := fun g => !([28, 57, 52, 61, 43, 44] : List Nat).contains g, keep := [], frz := fun _ => [], perm := fun r => [], bf := fun r => [], ret := true }
def S30 (γ : Calld) (a0 : AV) (H : AHeap) (K : AV → AHeap → Prop) : Prop :=
  frzLK [a0, .d (.int .i64 2), .d (.int .i64 0), .d (.int .i64 65535)] H fun l3 H4 => γ 32 l3 H4 fun v1 H2 => optA (intA .leq v1 (.d (.int .i64 200))) fun v5 => frzLK [a0, v5, .d (.int .i64 4)] H2 fun l8 H9 => γ 33 l8 H9 fun v6 H7 => optA (foldA min2A [v1, .d (.int .i64 200)]) fun v10 => retF [v10] H7 K
noncomputable def r30_0 : List Oper := regOps Try.f30 0
noncomputable def r30_1 : List Oper := regOps Try.f30 1
noncomputable def r30_2 : List Oper := regOps Try.f30 2
noncomputable def r30_3 : List Oper := regOps Try.f30 3
noncomputable def c30 : Code := (.seq (.region 0 #[opAt r30_0 0] false) (.seq (.region 1 #[opAt r30_1 0, opAt r30_1 1, opAt r30_1 2] false) (.seq (.region 2 #[opAt r30_2 0, opAt r30_2 1, opAt r30_2 2, opAt r30_2 3] false) (.seq (.region 3 #[opAt r30_3 0, opAt r30_3 1, opAt r30_3 2] false) .ret))))
theorem c30_eq : Try.f30.body = some c30 := by kernel_rfl
theorem S30_eq (γ : Calld) (a0 : AV) (H : AHeap) (K : AV → AHeap → Prop) : execC Try.prog γ pol30 Try.f30 c30 [a0] H K = S30 γ a0 H K := by kernel_rfl
theorem C30 {a0 : AV} {H : AHeap} {K : AV → AHeap → Prop} (h : S30 (CallsA Try.prog) a0 H K) : CallsA Try.prog 30 [a0] H K :=
  calls_of Try.func30 (ne_of_beq_false (by kernel_rfl)) c30_eq (by kernel_rfl) (by rw [S30_eq]; exact h)
/-! (*tithing/desktop.reader).take -/
def pol31 : Pol := { lend := fun g => !([28, 57, 52, 61, 43, 44] : List Nat).contains g, keep := [], frz := fun _ => [], perm := fun r => [], bf := fun r => [], ret := true }
def S31 (γ : Calld) (a0 a1 : AV) (H : AHeap) (K : AV → AHeap → Prop) : Prop :=
  optA (nilCkA a0) fun v1 => optA (fieldA ti68 v1 0) fun v2 => optA (ldV false 1 v2 H) fun v3 => optA (lenSl v3) fun v4 => optA (intA .geq v4 a1) fun v5 => frzLK [a0, v5, .d (.int .i64 6)] H fun l8 H9 => γ 33 l8 H9 fun v6 H7 => optA (nilCkA a0) fun v10 => optA (fieldA ti68 v10 1) fun v11 => optA (ldV false 1 v11 H7) fun v12 => optA (intA .neq v12 (.d (.int .i64 0))) fun v13 => ifA v13 (retF [.d (.sl true [])] H7 K) (optA (nilCkA a0) fun v14 => optA (fieldA ti68 v14 0) fun v15 => optA (ldV false 1 v15 H7) fun v16 => optA (sliceA 1 v16 none (some a1) none H7) fun v17 => optA (nilCkA a0) fun v18 => optA (fieldA ti68 v18 0) fun v19 => optA (ldV false 1 v19 H7) fun v20 => optA (sliceA 1 v20 (some a1) none none H7) fun v21 => optA (nilCkA a0) fun v22 => optA (fieldA ti68 v22 0) fun v23 => stepK (stoA false 1 v23 v21 H7) H7 fun v24 H25 => retF [v17] H25 K)
noncomputable def r31_0 : List Oper := regOps Try.f31 0
noncomputable def r31_1 : List Oper := regOps Try.f31 1
noncomputable def r31_2 : List Oper := regOps Try.f31 2
noncomputable def r31_3 : List Oper := regOps Try.f31 3
noncomputable def r31_4 : List Oper := regOps Try.f31 4
noncomputable def r31_5 : List Oper := regOps Try.f31 5
noncomputable def r31_6 : List Oper := regOps Try.f31 6
noncomputable def c31 : Code := (.seq (.region 0 #[opAt r31_0 0] false) (.seq (.region 1 #[opAt r31_1 0, opAt r31_1 1, opAt r31_1 2, opAt r31_1 3, opAt r31_1 4, opAt r31_1 5, opAt r31_1 6, opAt r31_1 7, opAt r31_1 8] false) (.seq (.seq (.region 2 #[opAt r31_2 0, opAt r31_2 1, opAt r31_2 2, opAt r31_2 3, opAt r31_2 4] false) (.cond (.tmp 19) (.seq (.region 3 #[opAt r31_3 0] false) .ret) .skip)) (.seq (.region 4 #[opAt r31_4 0, opAt r31_4 1, opAt r31_4 2, opAt r31_4 3, opAt r31_4 4, opAt r31_4 5, opAt r31_4 6] false) (.seq (.region 5 #[opAt r31_5 0, opAt r31_5 1, opAt r31_5 2, opAt r31_5 3, opAt r31_5 4, opAt r31_5 5, opAt r31_5 6, opAt r31_5 7, opAt r31_5 8, opAt r31_5 9] false) (.seq (.region 6 #[opAt r31_6 0, opAt r31_6 1] false) .ret))))))
theorem c31_eq : Try.f31.body = some c31 := by kernel_rfl
theorem S31_eq (γ : Calld) (a0 a1 : AV) (H : AHeap) (K : AV → AHeap → Prop) : execC Try.prog γ pol31 Try.f31 c31 [a0, a1] H K = S31 γ a0 a1 H K := by kernel_rfl
theorem C31 {a0 a1 : AV} {H : AHeap} {K : AV → AHeap → Prop} (h : S31 (CallsA Try.prog) a0 a1 H K) : CallsA Try.prog 31 [a0, a1] H K :=
  calls_of Try.func31 (ne_of_beq_false (by kernel_rfl)) c31_eq (by kernel_rfl) (by rw [S31_eq]; exact h)
/-! (*tithing/desktop.reader).number -/
def pol32 : Pol := { lend := fun g => !([28, 57, 52, 61, 43, 44] : List Nat).contains g, keep := [], frz := fun _ => [], perm := fun r => [], bf := fun r => [], ret := true }
def S32 (γ : Calld) (a0 a1 a2 a3 : AV) (H : AHeap) (K : AV → AHeap → Prop) : Prop :=
  frzLK [a0, a1] H fun l3 H4 => γ 31 l3 H4 fun v1 H2 => frzLK [v1, .d (.int .i64 0), a1] H2 fun l7 H8 => γ 60 l7 H8 fun v5 H6 => optA (extractA v5 0) fun v9 => optA (extractA v5 1) fun v10 => optA (extractA v5 2) fun v11 => frzLK [v9, a2, a3] H6 fun l14 H15 => γ 51 l14 H15 fun v12 H13 => frzLK [a0, v12, .d (.int .i64 3)] H13 fun l18 H19 => γ 33 l18 H19 fun v16 H17 => optA (nilCkA a0) fun v20 => optA (fieldA ti68 v20 1) fun v21 => optA (ldV false 1 v21 H17) fun v22 => optA (intA .neq v22 (.d (.int .i64 0))) fun v23 => ifA v23 (retF [.d (.int .i64 0)] H17 K) (retF [v9] H17 K)
noncomputable def r32_0 : List Oper := regOps Try.f32 0
noncomputable def r32_1 : List Oper := regOps Try.f32 1
noncomputable def r32_2 : List Oper := regOps Try.f32 2
noncomputable def r32_3 : List Oper := regOps Try.f32 3
noncomputable def r32_4 : List Oper := regOps Try.f32 4
noncomputable def r32_5 : List Oper := regOps Try.f32 5
noncomputable def c32 : Code := (.seq (.region 0 #[opAt r32_0 0] false) (.seq (.region 1 #[opAt r32_1 0, opAt r32_1 1, opAt r32_1 2, opAt r32_1 3, opAt r32_1 4, opAt r32_1 5, opAt r32_1 6, opAt r32_1 7, opAt r32_1 8, opAt r32_1 9, opAt r32_1 10, opAt r32_1 11] false) (.seq (.region 2 #[opAt r32_2 0, opAt r32_2 1, opAt r32_2 2, opAt r32_2 3, opAt r32_2 4, opAt r32_2 5] false) (.seq (.seq (.region 3 #[opAt r32_3 0, opAt r32_3 1, opAt r32_3 2, opAt r32_3 3, opAt r32_3 4] false) (.cond (.tmp 31) (.seq (.region 4 #[opAt r32_4 0] false) .ret) .skip)) (.seq (.region 5 #[opAt r32_5 0, opAt r32_5 1] false) .ret)))))
theorem c32_eq : Try.f32.body = some c32 := by kernel_rfl
theorem S32_eq (γ : Calld) (a0 a1 a2 a3 : AV) (H : AHeap) (K : AV → AHeap → Prop) : execC Try.prog γ pol32 Try.f32 c32 [a0, a1, a2, a3] H K = S32 γ a0 a1 a2 a3 H K := by kernel_rfl
theorem C32 {a0 a1 a2 a3 : AV} {H : AHeap} {K : AV → AHeap → Prop} (h : S32 (CallsA Try.prog) a0 a1 a2 a3 H K) : CallsA Try.prog 32 [a0, a1, a2, a3] H K :=
  calls_of Try.func32 (ne_of_beq_false (by kernel_rfl)) c32_eq (by kernel_rfl) (by rw [S32_eq]; exact h)
/-! (*tithing/desktop.reader).must -/
def pol33 : Pol := { lend := fun g => !([28, 57, 52, 61, 43, 44] : List Nat).contains g, keep := [], frz := fun _ => [], perm := fun r => [], bf := fun r => [], ret := true }
def S33 (γ : Calld) (a0 a1 a2 : AV) (H : AHeap) (K : AV → AHeap → Prop) : Prop :=
  optA (nilCkA a0) fun v1 => optA (fieldA ti68 v1 1) fun v2 => optA (ldV false 1 v2 H) fun v3 => optA (intA .eql v3 (.d (.int .i64 0))) fun v4 => ifA v4 (optA (unA .not a1) fun v5 => ifA v5 (optA (nilCkA a0) fun v6 => optA (fieldA ti68 v6 1) fun v7 => stepK (stoA false 1 v7 a2 H) H fun v8 H9 => retF [] H9 K) (retF [] H K)) (retF [] H K)
noncomputable def r33_0 : List Oper := regOps Try.f33 0
noncomputable def r33_1 : List Oper := regOps Try.f33 1
noncomputable def c33 : Code := (.seq (.region 0 #[opAt r33_0 0, opAt r33_0 1, opAt r33_0 2, opAt r33_0 3, opAt r33_0 4, opAt r33_0 5, opAt r33_0 6, opAt r33_0 7, opAt r33_0 8] false) (.cond (.tmp 14) (.region 1 #[opAt r33_1 0, opAt r33_1 1, opAt r33_1 2, opAt r33_1 3, opAt r33_1 4] false) .skip))
theorem c33_eq : Try.f33.body = some c33 := by kernel_rfl
theorem S33_eq (γ : Calld) (a0 a1 a2 : AV) (H : AHeap) (K : AV → AHeap → Prop) : execC Try.prog γ pol33 Try.f33 c33 [a0, a1, a2] H K = S33 γ a0 a1 a2 H K := by kernel_rfl
theorem C33 {a0 a1 a2 : AV} {H : AHeap} {K : AV → AHeap → Prop} (h : S33 (CallsA Try.prog) a0 a1 a2 H K) : CallsA Try.prog 33 [a0, a1, a2] H K :=
  calls_of Try.func33 (ne_of_beq_false (by kernel_rfl)) c33_eq (by kernel_rfl) (by rw [S33_eq]; exact h)
/-! (*tithing/desktop.Base).icon -/
def pol34 : Pol := { lend := fun g => !([28, 57, 52, 61, 43, 44] : List Nat).contains g, keep := [], frz := fun _ => [], perm := fun r => [], bf := fun r => [], ret := true }
def S34 (γ : Calld) (a0 a1 a2 a3 : AV) (H : AHeap) (K : AV → AHeap → Prop) : Prop :=
  newK H (fun n3 => boxA a1 n3) fun v1 H2 => newK H2 (fun n6 => boxA a2 n6) fun v4 H5 => newK H5 (fun n9 => boxA a3 n9) fun v7 H8 => optA (nilCkA a0) fun v10 => optA (fieldA ti55 v10 0) fun v11 => optA (ldV false 1 v11 H8) fun v12 => γ 61 [v12, .func 62 [] [v1, v4, v7]] H8 fun v13 H14 => retF [v13] H14 K
noncomputable def r34_0 : List Oper := regOps Try.f34 0
noncomputable def r34_1 : List Oper := regOps Try.f34 1
noncomputable def c34 : Code := (.seq (.region 0 #[opAt r34_0 0, opAt r34_0 1, opAt r34_0 2, opAt r34_0 3] false) (.seq (.region 1 #[opAt r34_1 0, opAt r34_1 1, opAt r34_1 2, opAt r34_1 3, opAt r34_1 4, opAt r34_1 5, opAt r34_1 6] false) .ret))
theorem c34_eq : Try.f34.body = some c34 := by kernel_rfl
theorem S34_eq (γ : Calld) (a0 a1 a2 a3 : AV) (H : AHeap) (K : AV → AHeap → Prop) : execC Try.prog γ pol34 Try.f34 c34 [a0, a1, a2, a3] H K = S34 γ a0 a1 a2 a3 H K := by kernel_rfl
theorem C34 {a0 a1 a2 a3 : AV} {H : AHeap} {K : AV → AHeap → Prop} (h : S34 (CallsA Try.prog) a0 a1 a2 a3 H K) : CallsA Try.prog 34 [a0, a1, a2, a3] H K :=
  calls_of Try.func34 (ne_of_beq_false (by kernel_rfl)) c34_eq (by kernel_rfl) (by rw [S34_eq]; exact h)
/-! (*tithing/desktop.reader).whole -/
def pol35 : Pol := { lend := fun g => !([28, 57, 52, 61, 43, 44] : List Nat).contains g, keep := [3, 7, 8, 9], frz := fun _ => [], perm := fun r => [], bf := fun r => [], ret := true }
def S35 (γ : Calld) (a0 : AV) (H : AHeap) (K : AV → AHeap → Prop) : Prop :=
  frzLK [a0, .d (.int .i64 8)] H fun l3 H4 => γ 31 l3 H4 fun v1 H2 => optA (lenSl v1) fun v5 => loopA (fun X6 l7 H8 => optA (intA .lss (l7.getD 3 .junk) (l7.getD 2 .junk)) fun v9 => ifA v9 (optA (indexAddrA ti22 1 (l7.getD 1 .junk) (l7.getD 3 .junk)) fun v10 => optA (ldV false 1 v10 H8) fun v11 => optA (intA .shl (l7.getD 0 .junk) (.d (.int .u64 8))) fun v12 => optA (cvI .u64 v11) fun v13 => optA (intA .or v12 v13) fun v14 => optA (intA .add (l7.getD 3 .junk) (.d (.int .i64 1))) fun v15 => X6 [v14, l7.getD 1 .junk, l7.getD 2 .junk, v15] H8) (optA (cvI .i64 (l7.getD 0 .junk)) fun v16 => retF [v16] H8 K)) [.d (.int .u64 0), v1, v5, .d (.int .i64 0)] H2
noncomputable def r35_0 : List Oper := regOps Try.f35 0
noncomputable def r35_1 : List Oper := regOps Try.f35 1
noncomputable def r35_2 : List Oper := regOps Try.f35 2
noncomputable def r35_3 : List Oper := regOps Try.f35 3
noncomputable def r35_4 : List Oper := regOps Try.f35 4
noncomputable def r35_5 : List Oper := regOps Try.f35 5
noncomputable def r35_6 : List Oper := regOps Try.f35 6
noncomputable def r35_7 : List Oper := regOps Try.f35 7
noncomputable def c35 : Code := (.seq (.region 0 #[opAt r35_0 0] false) (.seq (.region 1 #[opAt r35_1 0] false) (.seq (.seq (.region 2 #[opAt r35_2 0, opAt r35_2 1, opAt r35_2 2, opAt r35_2 3] false) (.block 0 (.loop (.seq (.region 3 #[opAt r35_3 0] false) (.seq (.cond (.tmp 10) .skip (.exit 0)) (.seq (.block 1 (.seq (.region 4 #[opAt r35_4 0, opAt r35_4 1, opAt r35_4 2] false) (.region 5 #[opAt r35_5 0, opAt r35_5 1, opAt r35_5 2, opAt r35_5 3, opAt r35_5 4, opAt r35_5 5] false))) (.region 6 #[opAt r35_6 0, opAt r35_6 1] false))))))) (.seq (.region 7 #[opAt r35_7 0, opAt r35_7 1, opAt r35_7 2] false) .ret))))
theorem c35_eq : Try.f35.body = some c35 := by kernel_rfl
theorem S35_eq (γ : Calld) (a0 : AV) (H : AHeap) (K : AV → AHeap → Prop) : execC Try.prog γ pol35 Try.f35 c35 [a0] H K = S35 γ a0 H K := by kernel_rfl
theorem C35 {a0 : AV} {H : AHeap} {K : AV → AHeap → Prop} (h : S35 (CallsA Try.prog) a0 H K) : CallsA Try.prog 35 [a0] H K :=
  calls_of Try.func35 (ne_of_beq_false (by kernel_rfl)) c35_eq (by kernel_rfl) (by rw [S35_eq]; exact h)
/-! slices.Clone[[]byte,byte] -/
def pol36 : Pol := { lend := fun g => !([28, 57, 52, 61, 43, 44] : List Nat).contains g, keep := [], frz := fun _ => [], perm := fun r => [], bf := fun r => [], ret := true }
def S36 (γ : Calld) (a0 : AV) (H : AHeap) (K : AV → AHeap → Prop) : Prop :=
  optA (nilA 0 .eql a0 (.d (.sl true []))) fun v1 => ifA v1 (retF [.d (.sl true [])] H K) (newK H (fun n4 => bsA ti5 0 [] [] H n4) fun v2 H3 => newK H3 (fun n7 => apA 1 1 v2 a0 H3 n7) fun v5 H6 => retF [v5] H6 K)
noncomputable def r36_0 : List Oper := regOps Try.f36 0
noncomputable def r36_1 : List Oper := regOps Try.f36 1
noncomputable def r36_2 : List Oper := regOps Try.f36 2
noncomputable def r36_3 : List Oper := regOps Try.f36 3
noncomputable def c36 : Code := (.seq (.region 0 #[opAt r36_0 0] false) (.seq (.seq (.region 1 #[opAt r36_1 0, opAt r36_1 1] false) (.cond (.tmp 4) (.seq (.region 2 #[opAt r36_2 0] false) .ret) .skip)) (.seq (.region 3 #[opAt r36_3 0, opAt r36_3 1, opAt r36_3 2, opAt r36_3 3] false) .ret)))
theorem c36_eq : Try.f36.body = some c36 := by kernel_rfl
theorem S36_eq (γ : Calld) (a0 : AV) (H : AHeap) (K : AV → AHeap → Prop) : execC Try.prog γ pol36 Try.f36 c36 [a0] H K = S36 γ a0 H K := by kernel_rfl
theorem C36 {a0 : AV} {H : AHeap} {K : AV → AHeap → Prop} (h : S36 (CallsA Try.prog) a0 H K) : CallsA Try.prog 36 [a0] H K :=
  calls_of Try.func36 (ne_of_beq_false (by kernel_rfl)) c36_eq (by kernel_rfl) (by rw [S36_eq]; exact h)
/-! tithing/tithingref23.New -/
def pol37 : Pol := { lend := fun g => !([28, 57, 52, 61, 43, 44] : List Nat).contains g, keep := [], frz := fun _ => [], perm := fun r => [], bf := fun r => [], ret := true }
def S37 (γ : Calld) (H : AHeap) (K : AV → AHeap → Prop) : Prop :=
  stepK (bdA Try.prog ti86 [] [] H) H fun v1 H2 => newK H2 (fun n5 => boxA v1 n5) fun v3 H4 => retF [v3] H4 K
noncomputable def r37_0 : List Oper := regOps Try.f37 0
noncomputable def r37_1 : List Oper := regOps Try.f37 1
noncomputable def c37 : Code := (.seq (.region 0 #[opAt r37_0 0] false) (.seq (.region 1 #[opAt r37_1 0, opAt r37_1 1, opAt r37_1 2] false) .ret))
theorem c37_eq : Try.f37.body = some c37 := by kernel_rfl
theorem S37_eq (γ : Calld) (H : AHeap) (K : AV → AHeap → Prop) : execC Try.prog γ pol37 Try.f37 c37 [] H K = S37 γ H K := by kernel_rfl
theorem C37 {H : AHeap} {K : AV → AHeap → Prop} (h : S37 (CallsA Try.prog) H K) : CallsA Try.prog 37 [] H K :=
  calls_of Try.func37 (ne_of_beq_false (by kernel_rfl)) c37_eq (by kernel_rfl) (by rw [S37_eq]; exact h)
/-! (*tithing/tithingref23.reader).count -/
def pol38 : Pol := { lend := fun g => !([28, 57, 52, 61, 43, 44] : List Nat).contains g, keep := [], frz := fun _ => [], perm := fun r => [], bf := fun r => [], ret := true }
def S38 (γ : Calld) (a0 : AV) (H : AHeap) (K : AV → AHeap → Prop) : Prop :=
  frzLK [a0, .d (.int .i64 2)] H fun l3 H4 => γ 40 l3 H4 fun v1 H2 => optA (intA .leq v1 (.d (.int .i64 200))) fun v5 => frzLK [a0, v5, .d (.int .i64 4)] H2 fun l8 H9 => γ 41 l8 H9 fun v6 H7 => retF [v1] H7 K
noncomputable def r38_0 : List Oper := regOps Try.f38 0
noncomputable def r38_1 : List Oper := regOps Try.f38 1
noncomputable def r38_2 : List Oper := regOps Try.f38 2
noncomputable def r38_3 : List Oper := regOps Try.f38 3
noncomputable def c38 : Code := (.seq (.region 0 #[opAt r38_0 0] false) (.seq (.region 1 #[opAt r38_1 0, opAt r38_1 1, opAt r38_1 2] false) (.seq (.region 2 #[opAt r38_2 0, opAt r38_2 1, opAt r38_2 2, opAt r38_2 3] false) (.seq (.region 3 #[opAt r38_3 0, opAt r38_3 1] false) .ret))))
theorem c38_eq : Try.f38.body = some c38 := by kernel_rfl
theorem S38_eq (γ : Calld) (a0 : AV) (H : AHeap) (K : AV → AHeap → Prop) : execC Try.prog γ pol38 Try.f38 c38 [a0] H K = S38 γ a0 H K := by kernel_rfl
theorem C38 {a0 : AV} {H : AHeap} {K : AV → AHeap → Prop} (h : S38 (CallsA Try.prog) a0 H K) : CallsA Try.prog 38 [a0] H K :=
  calls_of Try.func38 (ne_of_beq_false (by kernel_rfl)) c38_eq (by kernel_rfl) (by rw [S38_eq]; exact h)
/-! (*tithing/tithingref23.reader).take -/
def pol39 : Pol := { lend := fun g => !([28, 57, 52, 61, 43, 44] : List Nat).contains g, keep := [], frz := fun _ => [], perm := fun r => if r = 1 then [0, 1, 2, 3, 4, 5, 6, 7, 8, 9, 10, 11, 12, 13] else if r = 5 then [0, 1, 2, 3, 4, 5, 6, 7, 8, 9, 10, 11, 12, 13, 14, 15] else [], bf := fun r => if r = 1 then [0, 0, 0, 4, 12, 28, 60, 0, 128, 384, 896, 2044, 4094, 8191] else if r = 5 then [0, 1, 3, 7, 0, 16, 48, 112, 0, 496, 0, 1024, 3072, 7168, 16383, 32767] else [], ret := true, tail := fun r => ([1] : List Nat).contains r }
def S39 (γ : Calld) (a0 a1 : AV) (H : AHeap) (K : AV → AHeap → Prop) : Prop :=
  drA true (optA (nilCkA a0) fun v1 => optA (fieldA ti79 v1 0) fun v2 => optA (ldV false 1 v2 H) fun v3 => optA (lenSl v3) fun v4 => optA (nilCkA a0) fun v5 => optA (fieldA ti79 v5 1) fun v6 => optA (ldV false 1 v6 H) fun v7 => optA (intA .sub v4 v7) fun v8 => optA (intA .leq a1 v8) fun v9 => frzLK [a0, v9, .d (.int .i64 6)] H fun l12 H13 => γ 41 l12 H13 fun v10 H11 => optA (nilCkA a0) fun v14 => optA (fieldA ti79 v14 2) fun v15 => optA (ldV false 1 v15 H11) fun v16 => optA (intA .neq v16 (.d (.int .i64 0))) fun v17 => ifA v17 (newK H11 (fun n20 => mkSlA ti5 a1 a1 n20) fun v18 H19 => retF [v18] H19 K) (optA (nilCkA a0) fun v21 => optA (fieldA ti79 v21 1) fun v22 => optA (ldV false 1 v22 H11) fun v23 => optA (intA .add v23 a1) fun v24 => optA (nilCkA a0) fun v25 => optA (fieldA ti79 v25 1) fun v26 => stepK (stoA false 1 v26 v24 H11) H11 fun v27 H28 => drA true (optA (nilCkA a0) fun v29 => optA (fieldA ti79 v29 0) fun v30 => optA (ldV false 1 v30 H28) fun v31 => optA (nilCkA a0) fun v32 => optA (fieldA ti79 v32 1) fun v33 => optA (ldV false 1 v33 H28) fun v34 => optA (intA .sub v34 a1) fun v35 => optA (nilCkA a0) fun v36 => optA (fieldA ti79 v36 1) fun v37 => optA (ldV false 1 v37 H28) fun v38 => optA (sliceA 1 v31 (some v35) (some v38) none H28) fun v39 => retF [v39] H28 K)))
noncomputable def r39_0 : List Oper := regOps Try.f39 0
noncomputable def r39_1 : List Oper := regOps Try.f39 1
noncomputable def r39_2 : List Oper := regOps Try.f39 2
noncomputable def r39_3 : List Oper := regOps Try.f39 3
noncomputable def r39_4 : List Oper := regOps Try.f39 4
noncomputable def r39_5 : List Oper := regOps Try.f39 5
noncomputable def c39 : Code := (.seq (.region 0 #[opAt r39_0 0] false) (.seq (.region 1 #[opAt r39_1 0, opAt r39_1 1, opAt r39_1 2, opAt r39_1 3, opAt r39_1 4, opAt r39_1 5, opAt r39_1 6, opAt r39_1 7, opAt r39_1 8, opAt r39_1 9, opAt r39_1 10, opAt r39_1 11, opAt r39_1 12, opAt r39_1 13] true) (.seq (.seq (.region 2 #[opAt r39_2 0, opAt r39_2 1, opAt r39_2 2, opAt r39_2 3, opAt r39_2 4] false) (.cond (.tmp 23) (.seq (.region 3 #[opAt r39_3 0, opAt r39_3 1, opAt r39_3 2] false) .ret) .skip)) (.seq (.region 4 #[opAt r39_4 0, opAt r39_4 1, opAt r39_4 2, opAt r39_4 3, opAt r39_4 4, opAt r39_4 5, opAt r39_4 6, opAt r39_4 7, opAt r39_4 8] false) (.seq (.region 5 #[opAt r39_5 0, opAt r39_5 1, opAt r39_5 2, opAt r39_5 3, opAt r39_5 4, opAt r39_5 5, opAt r39_5 6, opAt r39_5 7, opAt r39_5 8, opAt r39_5 9, opAt r39_5 10, opAt r39_5 11, opAt r39_5 12, opAt r39_5 13, opAt r39_5 14, opAt r39_5 15] true) .ret)))))
theorem c39_eq : Try.f39.body = some c39 := by kernel_rfl
theorem S39_eq (γ : Calld) (a0 a1 : AV) (H : AHeap) (K : AV → AHeap → Prop) : execC Try.prog γ pol39 Try.f39 c39 [a0, a1] H K = S39 γ a0 a1 H K := by kernel_rfl
theorem C39 {a0 a1 : AV} {H : AHeap} {K : AV → AHeap → Prop} (h : S39 (CallsA Try.prog) a0 a1 H K) : CallsA Try.prog 39 [a0, a1] H K :=
  calls_of Try.func39 (ne_of_beq_false (by kernel_rfl)) c39_eq (by kernel_rfl) (by rw [S39_eq]; exact h)
/-! (*tithing/tithingref23.reader).num -/
def pol40 : Pol := { lend := fun g => !([28, 57, 52, 61, 43, 44] : List Nat).contains g, keep := [1, 5, 6, 7], frz := fun _ => [], perm := fun r => [], bf := fun r => [], ret := true }
def S40 (γ : Calld) (a0 a1 : AV) (H : AHeap) (K : AV → AHeap → Prop) : Prop :=
  frzLK [a0, a1] H fun l3 H4 => γ 39 l3 H4 fun v1 H2 => loopA (fun X5 l6 H7 => optA (intA .lss (l6.getD 3 .junk) (l6.getD 0 .junk)) fun v8 => ifA v8 (optA (intA .shl (l6.getD 2 .junk) (.d (.int .u64 8))) fun v9 => optA (indexAddrA ti22 1 (l6.getD 1 .junk) (l6.getD 3 .junk)) fun v10 => optA (ldV false 1 v10 H7) fun v11 => optA (cvI .i64 v11) fun v12 => optA (intA .or v9 v12) fun v13 => optA (intA .add (l6.getD 3 .junk) (.d (.int .i64 1))) fun v14 => X5 [l6.getD 0 .junk, l6.getD 1 .junk, v13, v14] H7) (retF [l6.getD 2 .junk] H7 K)) [a1, v1, .d (.int .i64 0), .d (.int .i64 0)] H2
noncomputable def r40_0 : List Oper := regOps Try.f40 0
noncomputable def r40_1 : List Oper := regOps Try.f40 1
noncomputable def r40_2 : List Oper := regOps Try.f40 2
noncomputable def r40_3 : List Oper := regOps Try.f40 3
noncomputable def r40_4 : List Oper := regOps Try.f40 4
noncomputable def r40_5 : List Oper := regOps Try.f40 5
noncomputable def r40_6 : List Oper := regOps Try.f40 6
noncomputable def r40_7 : List Oper := regOps Try.f40 7
noncomputable def c40 : Code := (.seq (.region 0 #[opAt r40_0 0] false) (.seq (.region 1 #[opAt r40_1 0, opAt r40_1 1, opAt r40_1 2, opAt r40_1 3] false) (.seq (.region 2 #[opAt r40_2 0] false) (.seq (.seq (.region 3 #[opAt r40_3 0] false) (.block 0 (.loop (.seq (.seq (.region 4 #[opAt r40_4 0, opAt r40_4 1, opAt r40_4 2] false) (.cond (.tmp 13) .skip (.exit 0))) (.seq (.block 1 (.region 6 #[opAt r40_5 0, opAt r40_5 1, opAt r40_5 2, opAt r40_5 3, opAt r40_5 4, opAt r40_5 5, opAt r40_5 6, opAt r40_5 7, opAt r40_5 8] false)) (.region 5 #[opAt r40_6 0, opAt r40_6 1, opAt r40_6 2] false)))))) (.seq (.region 7 #[opAt r40_7 0, opAt r40_7 1] false) .ret)))))
theorem c40_eq : Try.f40.body = some c40 := by kernel_rfl
theorem S40_eq (γ : Calld) (a0 a1 : AV) (H : AHeap) (K : AV → AHeap → Prop) : execC Try.prog γ pol40 Try.f40 c40 [a0, a1] H K = S40 γ a0 a1 H K := by kernel_rfl
theorem C40 {a0 a1 : AV} {H : AHeap} {K : AV → AHeap → Prop} (h : S40 (CallsA Try.prog) a0 a1 H K) : CallsA Try.prog 40 [a0, a1] H K :=
  calls_of Try.func40 (ne_of_beq_false (by kernel_rfl)) c40_eq (by kernel_rfl) (by rw [S40_eq]; exact h)
/-! (*tithing/tithingref23.reader).check -/
def pol41 : Pol := { lend := fun g => !([28, 57, 52, 61, 43, 44] : List Nat).contains g, keep := [], frz := fun _ => [], perm := fun r => [], bf := fun r => [], ret := true }
def S41 (γ : Calld) (a0 a1 a2 : AV) (H : AHeap) (K : AV → AHeap → Prop) : Prop :=
  optA (nilCkA a0) fun v1 => optA (fieldA ti79 v1 2) fun v2 => optA (ldV false 1 v2 H) fun v3 => optA (intA .eql v3 (.d (.int .i64 0))) fun v4 => ifA v4 (optA (unA .not a1) fun v5 => ifA v5 (optA (nilCkA a0) fun v6 => optA (fieldA ti79 v6 2) fun v7 => stepK (stoA false 1 v7 a2 H) H fun v8 H9 => retF [] H9 K) (retF [] H K)) (retF [] H K)
noncomputable def r41_0 : List Oper := regOps Try.f41 0
noncomputable def r41_1 : List Oper := regOps Try.f41 1
noncomputable def c41 : Code := (.seq (.region 0 #[opAt r41_0 0, opAt r41_0 1, opAt r41_0 2, opAt r41_0 3, opAt r41_0 4, opAt r41_0 5, opAt r41_0 6, opAt r41_0 7, opAt r41_0 8] false) (.cond (.tmp 14) (.region 1 #[opAt r41_1 0, opAt r41_1 1, opAt r41_1 2, opAt r41_1 3, opAt r41_1 4] false) .skip))
theorem c41_eq : Try.f41.body = some c41 := by kernel_rfl
theorem S41_eq (γ : Calld) (a0 a1 a2 : AV) (H : AHeap) (K : AV → AHeap → Prop) : execC Try.prog γ pol41 Try.f41 c41 [a0, a1, a2] H K = S41 γ a0 a1 a2 H K := by kernel_rfl
theorem C41 {a0 a1 a2 : AV} {H : AHeap} {K : AV → AHeap → Prop} (h : S41 (CallsA Try.prog) a0 a1 a2 H K) : CallsA Try.prog 41 [a0, a1, a2] H K :=
  calls_of Try.func41 (ne_of_beq_false (by kernel_rfl)) c41_eq (by kernel_rfl) (by rw [S41_eq]; exact h)
/-! tithing/tithingref23.isSize -/
def pol42 : Pol := { lend := fun g => !([28, 57, 52, 61, 43, 44] : List Nat).contains g, keep := [], frz := fun _ => [], perm := fun r => [], bf := fun r => [], ret := true }
def S42 (γ : Calld) (a0 : AV) (H : AHeap) (K : AV → AHeap → Prop) : Prop :=
  optA (intA .geq a0 (.d (.int .i64 1))) fun v1 => ifA v1 (optA (intA .leq a0 (.d (.int .i64 6))) fun v2 => retF [v2] H K) (retF [.d (.bool false)] H K)
noncomputable def r42_0 : List Oper := regOps Try.f42 0
noncomputable def r42_1 : List Oper := regOps Try.f42 1
noncomputable def c42 : Code := (.seq (.region 0 #[opAt r42_0 0] false) (.seq (.region 1 #[opAt r42_1 0, opAt r42_1 1, opAt r42_1 2, opAt r42_1 3, opAt r42_1 4, opAt r42_1 5, opAt r42_1 6] false) .ret))
theorem c42_eq : Try.f42.body = some c42 := by kernel_rfl
theorem S42_eq (γ : Calld) (a0 : AV) (H : AHeap) (K : AV → AHeap → Prop) : execC Try.prog γ pol42 Try.f42 c42 [a0] H K = S42 γ a0 H K := by kernel_rfl
theorem C42 {a0 : AV} {H : AHeap} {K : AV → AHeap → Prop} (h : S42 (CallsA Try.prog) a0 H K) : CallsA Try.prog 42 [a0] H K :=
  calls_of Try.func42 (ne_of_beq_false (by kernel_rfl)) c42_eq (by kernel_rfl) (by rw [S42_eq]; exact h)
/-! (*tithing/tithingref23.Base).icon -/
def pol43 : Pol := { lend := fun g => !([28, 57, 52, 61, 43, 44] : List Nat).contains g, keep := [0, 1, 2, 3, 9], frz := fun _ => [], perm := fun r => [], bf := fun r => [], ret := true }
def S43 (γ : Calld) (a0 a1 a2 a3 : AV) (H : AHeap) (K : AV → AHeap → Prop) : Prop :=
  loopA (fun X1 l2 H3 => optA (nilCkA (l2.getD 0 .junk)) fun v4 => optA (fieldA ti86 v4 0) fun v5 => optA (ldV false 1 v5 H3) fun v6 => optA (lenSl v6) fun v7 => optA (intA .lss (l2.getD 4 .junk) v7) fun v8 => ifA v8 (optA (nilCkA (l2.getD 0 .junk)) fun v9 => optA (fieldA ti86 v9 0) fun v10 => optA (ldV false 1 v10 H3) fun v11 => optA (indexAddrA ti82 5 v11 (l2.getD 4 .junk)) fun v12 => optA (ldV true 5 v12 H3) fun v13 => newK H3 (fun n16 => some (.ptr n16 0 0 0, [(n16, .mem 0 0 5 [[.d (.str ⟨#[]⟩), .d (.str ⟨#[]⟩), .d (.int .i64 0), .d (.int .i64 0), .d (.sl true [])]])])) fun v14 H15 => stepK (stoA true 5 v14 v13 H15) H15 fun v17 H18 => optA (fieldA ti88 v14 0) fun v19 => optA (ldV false 1 v19 H18) fun v20 => optA (strA .eql v20 (l2.getD 1 .junk)) fun v21 => ifA v21 (optA (fieldA ti88 v14 1) fun v22 => optA (ldV false 1 v22 H18) fun v23 => optA (strA .eql v23 (l2.getD 2 .junk)) fun v24 => ifA v24 (optA (fieldA ti88 v14 2) fun v25 => optA (ldV false 1 v25 H18) fun v26 => optA (intA .eql v26 (l2.getD 3 .junk)) fun v27 => ifA v27 (retF [l2.getD 4 .junk] H18 K) (optA (intA .add (l2.getD 4 .junk) (.d (.int .i64 1))) fun v28 => X1 [l2.getD 0 .junk, l2.getD 1 .junk, l2.getD 2 .junk, l2.getD 3 .junk, v28] H18)) (optA (intA .add (l2.getD 4 .junk) (.d (.int .i64 1))) fun v29 => X1 [l2.getD 0 .junk, l2.getD 1 .junk, l2.getD 2 .junk, l2.getD 3 .junk, v29] H18)) (optA (intA .add (l2.getD 4 .junk) (.d (.int .i64 1))) fun v30 => X1 [l2.getD 0 .junk, l2.getD 1 .junk, l2.getD 2 .junk, l2.getD 3 .junk, v30] H18)) (retF [.d (.int .i64 (-1))] H3 K)) [a0, a1, a2, a3, .d (.int .i64 0)] H
noncomputable def r43_0 : List Oper := regOps Try.f43 0
noncomputable def r43_1 : List Oper := regOps Try.f43 1
noncomputable def r43_2 : List Oper := regOps Try.f43 2
noncomputable def r43_3 : List Oper := regOps Try.f43 3
noncomputable def r43_4 : List Oper := regOps Try.f43 4
noncomputable def r43_5 : List Oper := regOps Try.f43 5
noncomputable def r43_6 : List Oper := regOps Try.f43 6
noncomputable def r43_7 : List Oper := regOps Try.f43 7
noncomputable def c43 : Code := (.seq (.region 0 #[opAt r43_0 0] false) (.seq (.seq (.region 1 #[opAt r43_1 0] false) (.block 0 (.loop (.seq (.seq (.region 2 #[opAt r43_2 0, opAt r43_2 1, opAt r43_2 2, opAt r43_2 3, opAt r43_2 4, opAt r43_2 5, opAt r43_2 6] false) (.cond (.tmp 17) .skip (.exit 0))) (.seq (.block 1 (.seq (.region 4 #[opAt r43_3 0, opAt r43_3 1, opAt r43_3 2, opAt r43_3 3, opAt r43_3 4, opAt r43_3 5, opAt r43_3 6, opAt r43_3 7, opAt r43_3 8] false) (.seq (.region 5 #[opAt r43_4 0, opAt r43_4 1, opAt r43_4 2, opAt r43_4 3, opAt r43_4 4, opAt r43_4 5, opAt r43_4 6, opAt r43_4 7, opAt r43_4 8, opAt r43_4 9, opAt r43_4 10, opAt r43_4 11, opAt r43_4 12, opAt r43_4 13, opAt r43_4 14, opAt r43_4 15] false) (.cond (.tmp 42) (.seq (.region 6 #[opAt r43_5 0, opAt r43_5 1] false) .ret) .skip)))) (.region 3 #[opAt r43_6 0, opAt r43_6 1, opAt r43_6 2] false)))))) (.seq (.region 7 #[opAt r43_7 0] false) .ret)))
theorem c43_eq : Try.f43.body = some c43 := by kernel_rfl
theorem S43_eq (γ : Calld) (a0 a1 a2 a3 : AV) (H : AHeap) (K : AV → AHeap → Prop) : execC Try.prog γ pol43 Try.f43 c43 [a0, a1, a2, a3] H K = S43 γ a0 a1 a2 a3 H K := by kernel_rfl
theorem C43 {a0 a1 a2 a3 : AV} {H : AHeap} {K : AV → AHeap → Prop} (h : S43 (CallsA Try.prog) a0 a1 a2 a3 H K) : CallsA Try.prog 43 [a0, a1, a2, a3] H K :=
  calls_of Try.func43 (ne_of_beq_false (by kernel_rfl)) c43_eq (by kernel_rfl) (by rw [S43_eq]; exact h)
/-! (*tithing/tithingref23.Base).without -/
def pol44 : Pol := { lend := fun g => !([28, 57, 52, 61, 43, 44] : List Nat).contains g, keep := [0, 1, 2, 3, 9, 10], frz := fun _ => [], perm := fun r => [], bf := fun r => [], ret := true }
def S44 (γ : Calld) (a0 a1 a2 a3 : AV) (H : AHeap) (K : AV → AHeap → Prop) : Prop :=
  loopA (fun X1 l2 H3 => optA (nilCkA (l2.getD 0 .junk)) fun v4 => optA (fieldA ti86 v4 1) fun v5 => optA (ldV false 1 v5 H3) fun v6 => optA (lenSl v6) fun v7 => optA (intA .lss (l2.getD 5 .junk) v7) fun v8 => ifA v8 (optA (nilCkA (l2.getD 0 .junk)) fun v9 => optA (fieldA ti86 v9 1) fun v10 => optA (ldV false 1 v10 H3) fun v11 => optA (indexAddrA ti83 3 v11 (l2.getD 5 .junk)) fun v12 => optA (ldV true 3 v12 H3) fun v13 => newK H3 (fun n16 => some (.ptr n16 0 0 0, [(n16, .mem 0 0 3 [[.d (.str ⟨#[]⟩), .d (.int .i64 0), .d (.int .i64 0)]])])) fun v14 H15 => stepK (stoA true 3 v14 v13 H15) H15 fun v17 H18 => optA (fieldA ti91 v14 2) fun v19 => optA (ldV false 1 v19 H18) fun v20 => optA (intA .neq v20 (l2.getD 2 .junk)) fun v21 => ifA v21 (optA (ldV true 3 v14 H18) fun v22 => newK H18 (fun n25 => bsA ti91 1 [0] [v22] H18 n25) fun v23 H24 => newK H24 (fun n28 => apA 3 32 (l2.getD 4 .junk) v23 H24 n28) fun v26 H27 => optA (intA .add (l2.getD 5 .junk) (.d (.int .i64 1))) fun v29 => X1 [l2.getD 0 .junk, l2.getD 1 .junk, l2.getD 2 .junk, l2.getD 3 .junk, v26, v29] H27) (optA (unA .not (l2.getD 3 .junk)) fun v30 => ifA v30 (optA (fieldA ti91 v14 0) fun v31 => optA (ldV false 1 v31 H18) fun v32 => optA (strA .neq v32 (l2.getD 1 .junk)) fun v33 => ifA v33 (optA (ldV true 3 v14 H18) fun v34 => newK H18 (fun n37 => bsA ti91 1 [0] [v34] H18 n37) fun v35 H36 => newK H36 (fun n40 => apA 3 32 (l2.getD 4 .junk) v35 H36 n40) fun v38 H39 => optA (intA .add (l2.getD 5 .junk) (.d (.int .i64 1))) fun v41 => X1 [l2.getD 0 .junk, l2.getD 1 .junk, l2.getD 2 .junk, l2.getD 3 .junk, v38, v41] H39) (optA (intA .add (l2.getD 5 .junk) (.d (.int .i64 1))) fun v42 => X1 [l2.getD 0 .junk, l2.getD 1 .junk, l2.getD 2 .junk, l2.getD 3 .junk, l2.getD 4 .junk, v42] H18)) (optA (intA .add (l2.getD 5 .junk) (.d (.int .i64 1))) fun v43 => X1 [l2.getD 0 .junk, l2.getD 1 .junk, l2.getD 2 .junk, l2.getD 3 .junk, l2.getD 4 .junk, v43] H18))) (retF [l2.getD 4 .junk] H3 K)) [a0, a1, a2, a3, .d (.sl true []), .d (.int .i64 0)] H
noncomputable def r44_0 : List Oper := regOps Try.f44 0
noncomputable def r44_1 : List Oper := regOps Try.f44 1
noncomputable def r44_2 : List Oper := regOps Try.f44 2
noncomputable def r44_3 : List Oper := regOps Try.f44 3
noncomputable def r44_4 : List Oper := regOps Try.f44 4
noncomputable def r44_5 : List Oper := regOps Try.f44 5
noncomputable def r44_6 : List Oper := regOps Try.f44 6
noncomputable def r44_7 : List Oper := regOps Try.f44 7
noncomputable def r44_8 : List Oper := regOps Try.f44 8
noncomputable def c44 : Code := (.seq (.region 0 #[opAt r44_0 0] false) (.seq (.region 1 #[opAt r44_1 0] false) (.seq (.seq (.region 2 #[opAt r44_2 0] false) (.block 0 (.loop (.seq (.seq (.region 3 #[opAt r44_3 0, opAt r44_3 1, opAt r44_3 2, opAt r44_3 3, opAt r44_3 4, opAt r44_3 5, opAt r44_3 6] false) (.cond (.tmp 18) .skip (.exit 0))) (.seq (.block 1 (.seq (.region 5 #[opAt r44_4 0, opAt r44_4 1, opAt r44_4 2, opAt r44_4 3, opAt r44_4 4, opAt r44_4 5, opAt r44_4 6, opAt r44_4 7, opAt r44_4 8] false) (.seq (.region 6 #[opAt r44_5 0, opAt r44_5 1, opAt r44_5 2, opAt r44_5 3, opAt r44_5 4, opAt r44_5 5, opAt r44_5 6, opAt r44_5 7, opAt r44_5 8, opAt r44_5 9, opAt r44_5 10, opAt r44_5 11, opAt r44_5 12, opAt r44_5 13] false) (.cond (.tmp 41) (.region 7 #[opAt r44_6 0, opAt r44_6 1, opAt r44_6 2, opAt r44_6 3, opAt r44_6 4] false) .skip)))) (.region 4 #[opAt r44_7 0, opAt r44_7 1, opAt r44_7 2] false)))))) (.seq (.region 8 #[opAt r44_8 0, opAt r44_8 1] false) .ret))))
theorem c44_eq : Try.f44.body = some c44 := by kernel_rfl
theorem S44_eq (γ : Calld) (a0 a1 a2 a3 : AV) (H : AHeap) (K : AV → AHeap → Prop) : execC Try.prog γ pol44 Try.f44 c44 [a0, a1, a2, a3] H K = S44 γ a0 a1 a2 a3 H K := by kernel_rfl
theorem C44 {a0 a1 a2 a3 : AV} {H : AHeap} {K : AV → AHeap → Prop} (h : S44 (CallsA Try.prog) a0 a1 a2 a3 H K) : CallsA Try.prog 44 [a0, a1, a2, a3] H K :=
  calls_of Try.func44 (ne_of_beq_false (by kernel_rfl)) c44_eq (by kernel_rfl) (by rw [S44_eq]; exact h)
/-! tithing/desktop.number -/
def pol45 : Pol := { lend := fun g => !([28, 57, 52, 61, 43, 44] : List Nat).contains g, keep := [1, 5, 6], frz := fun _ => [], perm := fun r => [], bf := fun r => [], ret := true }
def S45 (γ : Calld) (a0 a1 : AV) (H : AHeap) (K : AV → AHeap → Prop) : Prop :=
  optA (intA .sub a0 (.d (.int .i64 1))) fun v1 => loopA (fun X2 l3 H4 => optA (intA .geq (l3.getD 2 .junk) (.d (.int .i64 0))) fun v5 => ifA v5 (optA (intA .mul (.d (.int .i64 8)) (l3.getD 2 .junk)) fun v6 => optA (intA .shr (l3.getD 0 .junk) v6) fun v7 => optA (cvI .u8 v7) fun v8 => newK H4 (fun n11 => bsA ti5 1 [0] [v8] H4 n11) fun v9 H10 => newK H10 (fun n14 => apA 1 1 (l3.getD 1 .junk) v9 H10 n14) fun v12 H13 => optA (intA .sub (l3.getD 2 .junk) (.d (.int .i64 1))) fun v15 => X2 [l3.getD 0 .junk, v12, v15] H13) (retF [l3.getD 1 .junk] H4 K)) [a1, .d (.sl true []), v1] H
noncomputable def r45_0 : List Oper := regOps Try.f45 0
noncomputable def r45_1 : List Oper := regOps Try.f45 1
noncomputable def r45_2 : List Oper := regOps Try.f45 2
noncomputable def r45_3 : List Oper := regOps Try.f45 3
noncomputable def r45_4 : List Oper := regOps Try.f45 4
noncomputable def r45_5 : List Oper := regOps Try.f45 5
noncomputable def r45_6 : List Oper := regOps Try.f45 6
noncomputable def c45 : Code := (.seq (.region 0 #[opAt r45_0 0] false) (.seq (.region 1 #[opAt r45_1 0] false) (.seq (.seq (.region 2 #[opAt r45_2 0, opAt r45_2 1, opAt r45_2 2] false) (.block 0 (.loop (.seq (.seq (.region 3 #[opAt r45_3 0, opAt r45_3 1] false) (.cond (.tmp 10) .skip (.exit 0))) (.seq (.block 1 (.region 5 #[opAt r45_4 0, opAt r45_4 1, opAt r45_4 2, opAt r45_4 3, opAt r45_4 4, opAt r45_4 5, opAt r45_4 6, opAt r45_4 7, opAt r45_4 8] false)) (.region 4 #[opAt r45_5 0, opAt r45_5 1, opAt r45_5 2] false)))))) (.seq (.region 6 #[opAt r45_6 0, opAt r45_6 1] false) .ret))))
theorem c45_eq : Try.f45.body = some c45 := by kernel_rfl
theorem S45_eq (γ : Calld) (a0 a1 : AV) (H : AHeap) (K : AV → AHeap → Prop) : execC Try.prog γ pol45 Try.f45 c45 [a0, a1] H K = S45 γ a0 a1 H K := by kernel_rfl
theorem C45 {a0 a1 : AV} {H : AHeap} {K : AV → AHeap → Prop} (h : S45 (CallsA Try.prog) a0 a1 H K) : CallsA Try.prog 45 [a0, a1] H K :=
  calls_of Try.func45 (ne_of_beq_false (by kernel_rfl)) c45_eq (by kernel_rfl) (by rw [S45_eq]; exact h)
/-! slices.Concat[[]byte,byte] -/
def pol46 : Pol := { lend := fun g => !([28, 57, 52, 61, 43, 44] : List Nat).contains g, keep := [0, 3, 6, 9, 10, 11, 25, 26, 27], frz := fun _ => [], perm := fun r => [], bf := fun r => [], ret := true }
def S46 (γ : Calld) (a0 : AV) (H : AHeap) (K : AV → AHeap → Prop) : Prop :=
  optA (lenSl a0) fun v1 => loopA (fun X2 l3 H4 => optA (intA .lss (l3.getD 5 .junk) (l3.getD 4 .junk)) fun v5 => ifA v5 (optA (indexAddrA ti114 1 (l3.getD 3 .junk) (l3.getD 5 .junk)) fun v6 => optA (ldV false 1 v6 H4) fun v7 => optA (lenSl v7) fun v8 => optA (intA .add (l3.getD 1 .junk) v8) fun v9 => optA (intA .lss v9 (.d (.int .i64 0))) fun v10 => ifA v10 (False) (optA (intA .add (l3.getD 5 .junk) (.d (.int .i64 1))) fun v13 => X2 [l3.getD 0 .junk, v9, l3.getD 2 .junk, l3.getD 3 .junk, l3.getD 4 .junk, v13, l3.getD 6 .junk, l3.getD 7 .junk, l3.getD 8 .junk] H4)) (frzLK [.d (.sl true []), l3.getD 1 .junk] H4 fun l16 H17 => γ 63 l16 H17 fun v14 H15 => optA (lenSl (l3.getD 0 .junk)) fun v18 => loopA (fun X19 l20 H21 => optA (intA .lss (l20.getD 8 .junk) (l20.getD 7 .junk)) fun v22 => ifA v22 (optA (indexAddrA ti114 1 (l20.getD 6 .junk) (l20.getD 8 .junk)) fun v23 => optA (ldV false 1 v23 H21) fun v24 => newK H21 (fun n27 => apA 1 1 (l20.getD 2 .junk) v24 H21 n27) fun v25 H26 => optA (intA .add (l20.getD 8 .junk) (.d (.int .i64 1))) fun v28 => X19 [l20.getD 0 .junk, l20.getD 1 .junk, v25, l20.getD 3 .junk, l20.getD 4 .junk, l20.getD 5 .junk, l20.getD 6 .junk, l20.getD 7 .junk, v28] H26) (retF [l20.getD 2 .junk] H21 K)) [l3.getD 0 .junk, l3.getD 1 .junk, v14, l3.getD 3 .junk, l3.getD 4 .junk, l3.getD 5 .junk, l3.getD 0 .junk, v18, .d (.int .i64 0)] H15)) [a0, .d (.int .i64 0), .junk, a0, v1, .d (.int .i64 0), .junk, .junk, .junk] H
noncomputable def r46_0 : List Oper := regOps Try.f46 0
noncomputable def r46_1 : List Oper := regOps Try.f46 1
noncomputable def r46_2 : List Oper := regOps Try.f46 2
noncomputable def r46_3 : List Oper := regOps Try.f46 3
noncomputable def r46_4 : List Oper := regOps Try.f46 4
noncomputable def r46_5 : List Oper := regOps Try.f46 5
noncomputable def r46_6 : List Oper := regOps Try.f46 6
noncomputable def r46_7 : List Oper := regOps Try.f46 7
noncomputable def r46_8 : List Oper := regOps Try.f46 8
noncomputable def r46_9 : List Oper := regOps Try.f46 9
noncomputable def r46_10 : List Oper := regOps Try.f46 10
noncomputable def r46_11 : List Oper := regOps Try.f46 11
noncomputable def r46_12 : List Oper := regOps Try.f46 12
noncomputable def r46_13 : List Oper := regOps Try.f46 13
noncomputable def r46_14 : List Oper := regOps Try.f46 14
noncomputable def r46_15 : List Oper := regOps Try.f46 15
noncomputable def c46 : Code := (.seq (.region 0 #[opAt r46_0 0] false) (.seq (.region 1 #[opAt r46_1 0] false) (.seq (.seq (.region 2 #[opAt r46_2 0, opAt r46_2 1, opAt r46_2 2] false) (.block 0 (.loop (.seq (.region 3 #[opAt r46_3 0] false) (.seq (.cond (.tmp 12) .skip (.exit 0)) (.seq (.block 1 (.seq (.region 4 #[opAt r46_4 0, opAt r46_4 1, opAt r46_4 2] false) (.seq (.region 5 #[opAt r46_5 0, opAt r46_5 1, opAt r46_5 2, opAt r46_5 3, opAt r46_5 4] false) (.seq (.region 6 #[opAt r46_6 0, opAt r46_6 1] false) (.cond (.tmp 20) (.region 7 #[opAt r46_7 0, opAt r46_7 1] false) .skip))))) (.region 8 #[opAt r46_8 0, opAt r46_8 1] false))))))) (.seq (.region 9 #[opAt r46_9 0, opAt r46_9 1, opAt r46_9 2] false) (.seq (.seq (.region 10 #[opAt r46_10 0, opAt r46_10 1, opAt r46_10 2] false) (.block 2 (.loop (.seq (.region 11 #[opAt r46_11 0] false) (.seq (.cond (.tmp 28) .skip (.exit 2)) (.seq (.block 3 (.seq (.region 12 #[opAt r46_12 0, opAt r46_12 1, opAt r46_12 2] false) (.region 13 #[opAt r46_13 0, opAt r46_13 1, opAt r46_13 2, opAt r46_13 3] false))) (.region 14 #[opAt r46_14 0, opAt r46_14 1] false))))))) (.seq (.region 15 #[opAt r46_15 0, opAt r46_15 1] false) .ret))))))
theorem c46_eq : Try.f46.body = some c46 := by kernel_rfl
theorem S46_eq (γ : Calld) (a0 : AV) (H : AHeap) (K : AV → AHeap → Prop) : execC Try.prog γ pol46 Try.f46 c46 [a0] H K = S46 γ a0 H K := by kernel_rfl
theorem C46 {a0 : AV} {H : AHeap} {K : AV → AHeap → Prop} (h : S46 (CallsA Try.prog) a0 H K) : CallsA Try.prog 46 [a0] H K :=
  calls_of Try.func46 (ne_of_beq_false (by kernel_rfl)) c46_eq (by kernel_rfl) (by rw [S46_eq]; exact h)
/-! tithing/tithingref23.put -/
def pol49 : Pol := { lend := fun g => !([28, 57, 52, 61, 43, 44] : List Nat).contains g, keep := [1, 5, 6], frz := fun _ => [], perm := fun r => [], bf := fun r => [], ret := true }
def S49 (γ : Calld) (a0 a1 : AV) (H : AHeap) (K : AV → AHeap → Prop) : Prop :=
  newK H (fun n3 => mkSlA ti5 a0 a0 n3) fun v1 H2 => optA (intA .sub a0 (.d (.int .i64 1))) fun v4 => loopA (fun X5 l6 H7 => optA (intA .geq (l6.getD 2 .junk) (.d (.int .i64 0))) fun v8 => ifA v8 (optA (cvI .u8 (l6.getD 0 .junk)) fun v9 => optA (indexAddrA ti22 1 (l6.getD 1 .junk) (l6.getD 2 .junk)) fun v10 => stepK (stoA false 1 v10 v9 H7) H7 fun v11 H12 => optA (intA .shr (l6.getD 0 .junk) (.d (.int .u64 8))) fun v13 => optA (intA .sub (l6.getD 2 .junk) (.d (.int .i64 1))) fun v14 => X5 [v13, l6.getD 1 .junk, v14] H12) (retF [l6.getD 1 .junk] H7 K)) [a1, v1, v4] H2
noncomputable def r49_0 : List Oper := regOps Try.f49 0
noncomputable def r49_1 : List Oper := regOps Try.f49 1
noncomputable def r49_2 : List Oper := regOps Try.f49 2
noncomputable def r49_3 : List Oper := regOps Try.f49 3
noncomputable def r49_4 : List Oper := regOps Try.f49 4
noncomputable def r49_5 : List Oper := regOps Try.f49 5
noncomputable def r49_6 : List Oper := regOps Try.f49 6
noncomputable def r49_7 : List Oper := regOps Try.f49 7
noncomputable def c49 : Code := (.seq (.region 0 #[opAt r49_0 0] false) (.seq (.region 1 #[opAt r49_1 0, opAt r49_1 1, opAt r49_1 2] false) (.seq (.seq (.region 2 #[opAt r49_2 0, opAt r49_2 1, opAt r49_2 2] false) (.block 0 (.loop (.seq (.seq (.region 3 #[opAt r49_3 0, opAt r49_3 1] false) (.cond (.tmp 12) .skip (.exit 0))) (.seq (.block 1 (.seq (.region 5 #[opAt r49_4 0, opAt r49_4 1, opAt r49_4 2, opAt r49_4 3, opAt r49_4 4, opAt r49_4 5] false) (.region 6 #[opAt r49_5 0, opAt r49_5 1, opAt r49_5 2] false))) (.region 4 #[opAt r49_6 0, opAt r49_6 1, opAt r49_6 2] false)))))) (.seq (.region 7 #[opAt r49_7 0, opAt r49_7 1] false) .ret))))
theorem c49_eq : Try.f49.body = some c49 := by kernel_rfl
theorem S49_eq (γ : Calld) (a0 a1 : AV) (H : AHeap) (K : AV → AHeap → Prop) : execC Try.prog γ pol49 Try.f49 c49 [a0, a1] H K = S49 γ a0 a1 H K := by kernel_rfl
theorem C49 {a0 a1 : AV} {H : AHeap} {K : AV → AHeap → Prop} (h : S49 (CallsA Try.prog) a0 a1 H K) : CallsA Try.prog 49 [a0, a1] H K :=
  calls_of Try.func49 (ne_of_beq_false (by kernel_rfl)) c49_eq (by kernel_rfl) (by rw [S49_eq]; exact h)
/-! tithing/desktop.isKey -/
def pol50 : Pol := { lend := fun g => !([28, 57, 52, 61, 43, 44] : List Nat).contains g, keep := [], frz := fun _ => [], perm := fun r => [], bf := fun r => [], ret := true }
def S50 (γ : Calld) (a0 a1 a2 : AV) (H : AHeap) (K : AV → AHeap → Prop) : Prop :=
  optA (lenStr a0) fun v1 => optA (intA .eql v1 (.d (.int .i64 4))) fun v2 => ifA v2 (optA (lenStr a1) fun v3 => optA (intA .eql v3 (.d (.int .i64 4))) fun v4 => ifA v4 (frzLK [a2, .d (.int .i64 1), .d (.int .i64 6)] H fun l7 H8 => γ 51 l7 H8 fun v5 H6 => retF [v5] H6 K) (retF [.d (.bool false)] H K)) (retF [.d (.bool false)] H K)
noncomputable def r50_0 : List Oper := regOps Try.f50 0
noncomputable def r50_1 : List Oper := regOps Try.f50 1
noncomputable def c50 : Code := (.seq (.region 0 #[opAt r50_0 0] false) (.seq (.region 1 #[opAt r50_1 0, opAt r50_1 1, opAt r50_1 2, opAt r50_1 3, opAt r50_1 4, opAt r50_1 5, opAt r50_1 6, opAt r50_1 7, opAt r50_1 8, opAt r50_1 9, opAt r50_1 10, opAt r50_1 11, opAt r50_1 12] false) .ret))
theorem c50_eq : Try.f50.body = some c50 := by kernel_rfl
theorem S50_eq (γ : Calld) (a0 a1 a2 : AV) (H : AHeap) (K : AV → AHeap → Prop) : execC Try.prog γ pol50 Try.f50 c50 [a0, a1, a2] H K = S50 γ a0 a1 a2 H K := by kernel_rfl
theorem C50 {a0 a1 a2 : AV} {H : AHeap} {K : AV → AHeap → Prop} (h : S50 (CallsA Try.prog) a0 a1 a2 H K) : CallsA Try.prog 50 [a0, a1, a2] H K :=
  calls_of Try.func50 (ne_of_beq_false (by kernel_rfl)) c50_eq (by kernel_rfl) (by rw [S50_eq]; exact h)
/-! tithing/octet.Get -/
def pol60 : Pol := { lend := fun g => !([28, 57, 52, 61, 43, 44] : List Nat).contains g, keep := [1, 2, 6, 37, 38, 39], frz := fun _ => [], perm := fun r => [], bf := fun r => [], ret := true }
def S60 (γ : Calld) (a0 a1 a2 : AV) (H : AHeap) (K : AV → AHeap → Prop) : Prop :=
  frzLK [a2] H fun l3 H4 => γ 68 l3 H4 fun v1 H2 => optA (unA .not v1) fun v5 => ifA v5 (retF [.d (.int .i64 0), .d (.int .i64 0), .d (.int .i64 2)] H2 K) (optA (intA .lss a1 (.d (.int .i64 0))) fun v6 => ifA v6 (retF [.d (.int .i64 0), .d (.int .i64 0), .d (.int .i64 2)] H2 K) (optA (lenSl a0) fun v7 => optA (intA .gtr a1 v7) fun v8 => ifA v8 (retF [.d (.int .i64 0), .d (.int .i64 0), .d (.int .i64 2)] H2 K) (optA (lenSl a0) fun v9 => optA (intA .sub v9 a1) fun v10 => optA (intA .lss v10 a2) fun v11 => ifA v11 (retF [.d (.int .i64 0), .d (.int .i64 0), .d (.int .i64 6)] H2 K) (optA (intA .add a1 a2) fun v12 => optA (sliceA 1 a0 (some a1) (some v12) none H2) fun v13 => optA (lenSl v13) fun v14 => loopA (fun X15 l16 H17 => optA (intA .lss (l16.getD 5 .junk) (l16.getD 4 .junk)) fun v18 => ifA v18 (optA (indexAddrA ti22 1 (l16.getD 3 .junk) (l16.getD 5 .junk)) fun v19 => optA (ldV false 1 v19 H17) fun v20 => optA (intA .shl (l16.getD 2 .junk) (.d (.int .u64 8))) fun v21 => optA (cvI .i64 v20) fun v22 => optA (intA .or v21 v22) fun v23 => optA (intA .add (l16.getD 5 .junk) (.d (.int .i64 1))) fun v24 => X15 [l16.getD 0 .junk, l16.getD 1 .junk, v23, l16.getD 3 .junk, l16.getD 4 .junk, v24] H17) (optA (intA .add (l16.getD 0 .junk) (l16.getD 1 .junk)) fun v25 => retF [l16.getD 2 .junk, v25, .d (.int .i64 0)] H17 K)) [a1, a2, .d (.int .i64 0), v13, v14, .d (.int .i64 0)] H2))))
noncomputable def r60_0 : List Oper := regOps Try.f60 0
noncomputable def r60_1 : List Oper := regOps Try.f60 1
noncomputable def r60_2 : List Oper := regOps Try.f60 2
noncomputable def r60_3 : List Oper := regOps Try.f60 3
noncomputable def r60_4 : List Oper := regOps Try.f60 4
noncomputable def r60_5 : List Oper := regOps Try.f60 5
noncomputable def r60_6 : List Oper := regOps Try.f60 6
noncomputable def r60_7 : List Oper := regOps Try.f60 7
noncomputable def r60_8 : List Oper := regOps Try.f60 8
noncomputable def r60_9 : List Oper := regOps Try.f60 9
noncomputable def r60_10 : List Oper := regOps Try.f60 10
noncomputable def c60 : Code := (.seq (.region 0 #[opAt r60_0 0, opAt r60_0 1, opAt r60_0 2] false) (.seq (.block 0 (.seq (.region 1 #[opAt r60_1 0, opAt r60_1 1, opAt r60_1 2, opAt r60_1 3, opAt r60_1 4, opAt r60_1 5, opAt r60_1 6, opAt r60_1 7, opAt r60_1 8, opAt r60_1 9, opAt r60_1 10, opAt r60_1 11, opAt r60_1 12, opAt r60_1 13] false) (.cond (.tmp 11) (.seq (.region 2 #[opAt r60_2 0, opAt r60_2 1, opAt r60_2 2] false) .ret) (.seq (.region 3 #[opAt r60_3 0, opAt r60_3 1, opAt r60_3 2, opAt r60_3 3, opAt r60_3 4, opAt r60_3 5, opAt r60_3 6] false) (.cond (.tmp 25) (.seq (.region 4 #[opAt r60_4 0, opAt r60_4 1, opAt r60_4 2] false) .ret) .skip))))) (.seq (.seq (.region 5 #[opAt r60_5 0, opAt r60_5 1, opAt r60_5 2, opAt r60_5 3, opAt r60_5 4, opAt r60_5 5, opAt r60_5 6, opAt r60_5 7] false) (.block 1 (.loop (.seq (.region 6 #[opAt r60_6 0] false) (.seq (.cond (.tmp 40) .skip (.exit 1)) (.seq (.block 2 (.seq (.region 7 #[opAt r60_7 0, opAt r60_7 1, opAt r60_7 2] false) (.region 8 #[opAt r60_8 0, opAt r60_8 1, opAt r60_8 2, opAt r60_8 3, opAt r60_8 4, opAt r60_8 5] false))) (.region 9 #[opAt r60_9 0, opAt r60_9 1] false))))))) (.seq (.region 10 #[opAt r60_10 0, opAt r60_10 1, opAt r60_10 2, opAt r60_10 3, opAt r60_10 4, opAt r60_10 5, opAt r60_10 6] false) .ret))))
theorem c60_eq : Try.f60.body = some c60 := by kernel_rfl
theorem S60_eq (γ : Calld) (a0 a1 a2 : AV) (H : AHeap) (K : AV → AHeap → Prop) : execC Try.prog γ pol60 Try.f60 c60 [a0, a1, a2] H K = S60 γ a0 a1 a2 H K := by kernel_rfl
theorem C60 {a0 a1 a2 : AV} {H : AHeap} {K : AV → AHeap → Prop} (h : S60 (CallsA Try.prog) a0 a1 a2 H K) : CallsA Try.prog 60 [a0, a1, a2] H K :=
  calls_of Try.func60 (ne_of_beq_false (by kernel_rfl)) c60_eq (by kernel_rfl) (by rw [S60_eq]; exact h)
/-! slices.IndexFunc[[]tithing/desktop.icon,tithing/desktop.icon] -/
def pol61 : Pol := { lend := fun g => !([28, 57, 52, 61, 43, 44] : List Nat).contains g, keep := [0, 1, 7, 8], frz := fun _ => [], perm := fun r => [], bf := fun r => [], ret := true }
def S61 (γ : Calld) (a0 a1 : AV) (H : AHeap) (K : AV → AHeap → Prop) : Prop :=
  optA (lenSl a0) fun v1 => loopA (fun X2 l3 H4 => optA (intA .lss (l3.getD 3 .junk) (l3.getD 2 .junk)) fun v5 => ifA v5 (optA (indexAddrA ti51 5 (l3.getD 0 .junk) (l3.getD 3 .junk)) fun v6 => optA (ldV true 5 v6 H4) fun v7 => callA γ pol61 (l3.getD 1 .junk) [v7] H4 fun v8 H9 => ifA v8 (retF [l3.getD 3 .junk] H9 K) (optA (intA .add (l3.getD 3 .junk) (.d (.int .i64 1))) fun v10 => X2 [l3.getD 0 .junk, l3.getD 1 .junk, l3.getD 2 .junk, v10] H9)) (retF [.d (.int .i64 (-1))] H4 K)) [a0, a1, v1, .d (.int .i64 0)] H
noncomputable def r61_0 : List Oper := regOps Try.f61 0
noncomputable def r61_1 : List Oper := regOps Try.f61 1
noncomputable def r61_2 : List Oper := regOps Try.f61 2
noncomputable def r61_3 : List Oper := regOps Try.f61 3
noncomputable def r61_4 : List Oper := regOps Try.f61 4
noncomputable def r61_5 : List Oper := regOps Try.f61 5
noncomputable def r61_6 : List Oper := regOps Try.f61 6
noncomputable def r61_7 : List Oper := regOps Try.f61 7
noncomputable def c61 : Code := (.seq (.region 0 #[opAt r61_0 0] false) (.seq (.seq (.region 1 #[opAt r61_1 0, opAt r61_1 1, opAt r61_1 2] false) (.block 0 (.loop (.seq (.region 2 #[opAt r61_2 0] false) (.seq (.cond (.tmp 9) .skip (.exit 0)) (.seq (.block 1 (.seq (.region 3 #[opAt r61_3 0, opAt r61_3 1] false) (.seq (.region 4 #[opAt r61_4 0, opAt r61_4 1, opAt r61_4 2, opAt r61_4 3, opAt r61_4 4, opAt r61_4 5] false) (.cond (.tmp 16) (.seq (.region 5 #[opAt r61_5 0, opAt r61_5 1] false) .ret) .skip)))) (.region 6 #[opAt r61_6 0, opAt r61_6 1] false))))))) (.seq (.region 7 #[opAt r61_7 0] false) .ret)))
theorem c61_eq : Try.f61.body = some c61 := by kernel_rfl
theorem S61_eq (γ : Calld) (a0 a1 : AV) (H : AHeap) (K : AV → AHeap → Prop) : execC Try.prog γ pol61 Try.f61 c61 [a0, a1] H K = S61 γ a0 a1 H K := by kernel_rfl
theorem C61 {a0 a1 : AV} {H : AHeap} {K : AV → AHeap → Prop} (h : S61 (CallsA Try.prog) a0 a1 H K) : CallsA Try.prog 61 [a0, a1] H K :=
  calls_of Try.func61 (ne_of_beq_false (by kernel_rfl)) c61_eq (by kernel_rfl) (by rw [S61_eq]; exact h)
/-! (*tithing/desktop.Base).icon$1 -/
def pol62 : Pol := { lend := fun g => !([28, 57, 52, 61, 43, 44] : List Nat).contains g, keep := [], frz := fun _ => [], perm := fun r => [], bf := fun r => [], ret := true }
def S62 (γ : Calld) (a0 a1 a2 a3 : AV) (H : AHeap) (K : AV → AHeap → Prop) : Prop :=
  newK H (fun n3 => boxA a0 n3) fun v1 H2 => optA (fieldA ti72 v1 0) fun v4 => optA (ldV false 1 v4 H2) fun v5 => optA (ldV false 1 a1 H2) fun v6 => optA (strA .eql v5 v6) fun v7 => ifA v7 (optA (fieldA ti72 v1 1) fun v8 => optA (ldV false 1 v8 H2) fun v9 => optA (ldV false 1 a2 H2) fun v10 => optA (strA .eql v9 v10) fun v11 => ifA v11 (optA (fieldA ti72 v1 2) fun v12 => optA (ldV false 1 v12 H2) fun v13 => optA (ldV false 1 a3 H2) fun v14 => optA (intA .eql v13 v14) fun v15 => retF [v15] H2 K) (retF [.d (.bool false)] H2 K)) (retF [.d (.bool false)] H2 K)
noncomputable def r62_0 : List Oper := regOps Try.f62 0
noncomputable def r62_1 : List Oper := regOps Try.f62 1
noncomputable def c62 : Code := (.seq (.region 0 #[opAt r62_0 0, opAt r62_0 1] false) (.seq (.region 1 #[opAt r62_1 0, opAt r62_1 1, opAt r62_1 2, opAt r62_1 3, opAt r62_1 4, opAt r62_1 5, opAt r62_1 6, opAt r62_1 7, opAt r62_1 8, opAt r62_1 9, opAt r62_1 10, opAt r62_1 11, opAt r62_1 12, opAt r62_1 13, opAt r62_1 14, opAt r62_1 15, opAt r62_1 16] false) .ret))
theorem c62_eq : Try.f62.body = some c62 := by kernel_rfl
theorem S62_eq (γ : Calld) (a0 a1 a2 a3 : AV) (H : AHeap) (K : AV → AHeap → Prop) : execC Try.prog γ pol62 Try.f62 c62 [a0, a1, a2, a3] H K = S62 γ a0 a1 a2 a3 H K := by kernel_rfl
theorem C62 {a0 a1 a2 a3 : AV} {H : AHeap} {K : AV → AHeap → Prop} (h : S62 (CallsA Try.prog) a0 a1 a2 a3 H K) : CallsA Try.prog 62 [a0, a1, a2, a3] H K :=
  calls_of Try.func62 (ne_of_beq_false (by kernel_rfl)) c62_eq (by kernel_rfl) (by rw [S62_eq]; exact h)
/-! tithing/octet.isWidth -/
def pol68 : Pol := { lend := fun g => !([28, 57, 52, 61, 43, 44] : List Nat).contains g, keep := [], frz := fun _ => [], perm := fun r => [], bf := fun r => [], ret := true }
def S68 (γ : Calld) (a0 : AV) (H : AHeap) (K : AV → AHeap → Prop) : Prop :=
  optA (intA .eql a0 (.d (.int .i64 1))) fun v1 => ifA v1 (retF [.d (.bool true)] H K) (optA (intA .eql a0 (.d (.int .i64 2))) fun v2 => ifA v2 (retF [.d (.bool true)] H K) (optA (intA .eql a0 (.d (.int .i64 4))) fun v3 => retF [v3] H K))
noncomputable def r68_0 : List Oper := regOps Try.f68 0
noncomputable def r68_1 : List Oper := regOps Try.f68 1
noncomputable def c68 : Code := (.seq (.region 0 #[opAt r68_0 0] false) (.seq (.region 1 #[opAt r68_1 0, opAt r68_1 1, opAt r68_1 2, opAt r68_1 3, opAt r68_1 4, opAt r68_1 5, opAt r68_1 6, opAt r68_1 7, opAt r68_1 8, opAt r68_1 9, opAt r68_1 10] false) .ret))
theorem c68_eq : Try.f68.body = some c68 := by kernel_rfl
theorem S68_eq (γ : Calld) (a0 : AV) (H : AHeap) (K : AV → AHeap → Prop) : execC Try.prog γ pol68 Try.f68 c68 [a0] H K = S68 γ a0 H K := by kernel_rfl
theorem C68 {a0 : AV} {H : AHeap} {K : AV → AHeap → Prop} (h : S68 (CallsA Try.prog) a0 H K) : CallsA Try.prog 68 [a0] H K :=
  calls_of Try.func68 (ne_of_beq_false (by kernel_rfl)) c68_eq (by kernel_rfl) (by rw [S68_eq]; exact h)
end Go.Proofs.Ytmciomkibklokaa

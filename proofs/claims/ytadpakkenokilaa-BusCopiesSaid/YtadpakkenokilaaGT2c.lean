/- Several of my texts as one. -/
import Derived.Test.YtadpakkenokilaaT2
import Derived.Test.YtadpakkenokilaaA26
import Derived.Test.YtadpakkenokilaaProg
import Derived.KernelRfl
set_option linter.unnecessarySimpa false
/- What the functions do, printed by a program of mine out of their code; Lean checks each equation. -/
set_option maxRecDepth 100000
set_option linter.unusedVariables false
namespace Go.Proofs.Ytadpakkenokilaa
open Go Go.AM Go.Proofs
/-! slices.Clone[[]int,int] -/
def pol32m : Pol := { lend := fun g => !([55] : List Nat).contains g, keep := [], frz := fun _ => [], perm := fun r => [], bf := fun r => [], ret := false }
def S32m (γ : Calld) (a0 : AV) (H : AHeap) (K : AV → AHeap → Prop) : Prop :=
  optA (nilA 0 .eql a0 (.d (.sl true []))) fun v1 => ifA v1 (finA (.d (.sl true [])) H K) (newK H (fun n4 => bsA ti3 0 [] [] H n4) fun v2 H3 => newK H3 (fun n7 => apA 1 8 v2 a0 H3 n7) fun v5 H6 => finA v5 H6 K)
noncomputable def r32m_0 : List Oper := regOps Try.f32 0
noncomputable def r32m_1 : List Oper := regOps Try.f32 1
noncomputable def r32m_2 : List Oper := regOps Try.f32 2
noncomputable def r32m_3 : List Oper := regOps Try.f32 3
noncomputable def c32m : Code := (.seq (.region 0 #[opAt r32m_0 0] false) (.seq (.seq (.region 1 #[opAt r32m_1 0, opAt r32m_1 1] false) (.cond (.tmp 4) (.seq (.region 2 #[opAt r32m_2 0] false) .ret) .skip)) (.seq (.region 3 #[opAt r32m_3 0, opAt r32m_3 1, opAt r32m_3 2, opAt r32m_3 3] false) .ret)))
theorem c32m_eq : Try.f32.body = some c32m := by kernel_rfl
theorem S32m_eq (γ : Calld) (a0 : AV) (H : AHeap) (K : AV → AHeap → Prop) : execC Try.prog γ pol32m Try.f32 c32m [a0] H K = S32m γ a0 H K := by kernel_rfl
theorem C32m {a0 : AV} {H : AHeap} {K : AV → AHeap → Prop} (h : S32m (CallsA Try.prog) a0 H K) : CallsA Try.prog 32 [a0] H K :=
  calls_of Try.func32 (ne_of_beq_false (by kernel_rfl)) c32m_eq (by kernel_rfl) (by rw [S32m_eq]; exact h)
/-! slices.Repeat[[]int,int] -/
def pol51m : Pol := { lend := fun g => !([55] : List Nat).contains g, keep := [7, 8], frz := fun _ => [], perm := fun r => if r = 9 then [0, 1, 2, 3, 4, 5, 6, 7, 8, 9] else [], bf := fun r => if r = 9 then [0, 0, 0, 6, 0, 0, 48, 126, 255, 511] else [], ret := false }
def S51m (γ : Calld) (a0 a1 : AV) (H : AHeap) (K : AV → AHeap → Prop) : Prop :=
  optA (intA .lss a1 (.d (.int .i64 0))) fun v1 => ifA v1 (False) (optA (lenSl a0) fun v4 => optA (cvI .u64 v4) fun v5 => optA (cvI .u64 a1) fun v6 => frzLK [v5, v6] H fun l9 H10 => γ 70 l9 H10 fun v7 H8 => optA (extractA v7 0) fun v11 => optA (extractA v7 1) fun v12 => optA (intA .gtr v11 (.d (.int .u64 0))) fun v13 => ifA v13 (False) (optA (intA .gtr v12 (.d (.int .u64 9223372036854775807))) fun v16 => ifA v16 (False) (optA (cvI .i64 v12) fun v19 => newK H8 (fun n22 => mkSlA ti3 v19 v19 n22) fun v20 H21 => stepK (cpyA 1 v20 a0 H21) H21 fun v23 H24 => loopA (fun X25 l26 H27 => optA (lenSl (l26.getD 0 .junk)) fun v28 => optA (intA .lss (l26.getD 1 .junk) v28) fun v29 => ifA v29 (drA true (optA (sliceA 1 (l26.getD 0 .junk) (some (l26.getD 1 .junk)) none none H27) fun v30 => optA (sliceA 1 (l26.getD 0 .junk) none (some (l26.getD 1 .junk)) none H27) fun v31 => stepK (cpyA 1 v30 v31 H27) H27 fun v32 H33 => optA (intA .add (l26.getD 1 .junk) v32) fun v34 => X25 [l26.getD 0 .junk, v34] H33)) (finA (l26.getD 0 .junk) H27 K)) [v20, v23] H24)))
noncomputable def r51m_0 : List Oper := regOps Try.f51 0
noncomputable def r51m_1 : List Oper := regOps Try.f51 1
noncomputable def r51m_2 : List Oper := regOps Try.f51 2
noncomputable def r51m_3 : List Oper := regOps Try.f51 3
noncomputable def r51m_4 : List Oper := regOps Try.f51 4
noncomputable def r51m_5 : List Oper := regOps Try.f51 5
noncomputable def r51m_6 : List Oper := regOps Try.f51 6
noncomputable def r51m_7 : List Oper := regOps Try.f51 7
noncomputable def r51m_8 : List Oper := regOps Try.f51 8
noncomputable def r51m_9 : List Oper := regOps Try.f51 9
noncomputable def r51m_10 : List Oper := regOps Try.f51 10
noncomputable def c51m : Code := (.seq (.region 0 #[opAt r51m_0 0] false) (.seq (.seq (.region 1 #[opAt r51m_1 0, opAt r51m_1 1] false) (.cond (.tmp 10) (.region 2 #[opAt r51m_2 0, opAt r51m_2 1] false) .skip)) (.seq (.region 3 #[opAt r51m_3 0, opAt r51m_3 1, opAt r51m_3 2, opAt r51m_3 3, opAt r51m_3 4, opAt r51m_3 5, opAt r51m_3 6, opAt r51m_3 7, opAt r51m_3 8, opAt r51m_3 9, opAt r51m_3 10] false) (.seq (.seq (.region 4 #[opAt r51m_4 0, opAt r51m_4 1, opAt r51m_4 2, opAt r51m_4 3, opAt r51m_4 4, opAt r51m_4 5] false) (.cond (.tmp 26) (.region 5 #[opAt r51m_5 0, opAt r51m_5 1] false) .skip)) (.seq (.region 6 #[opAt r51m_6 0, opAt r51m_6 1, opAt r51m_6 2, opAt r51m_6 3] false) (.seq (.region 7 #[opAt r51m_7 0, opAt r51m_7 1, opAt r51m_7 2, opAt r51m_7 3] false) (.seq (.block 0 (.loop (.seq (.seq (.region 8 #[opAt r51m_8 0, opAt r51m_8 1, opAt r51m_8 2, opAt r51m_8 3] false) (.cond (.tmp 37) .skip (.exit 0))) (.block 1 (.region 9 #[opAt r51m_9 0, opAt r51m_9 1, opAt r51m_9 2, opAt r51m_9 3, opAt r51m_9 4, opAt r51m_9 5, opAt r51m_9 6, opAt r51m_9 7, opAt r51m_9 8, opAt r51m_9 9] true))))) (.seq (.region 10 #[opAt r51m_10 0, opAt r51m_10 1] false) .ret))))))))
theorem c51m_eq : Try.f51.body = some c51m := by kernel_rfl
theorem S51m_eq (γ : Calld) (a0 a1 : AV) (H : AHeap) (K : AV → AHeap → Prop) : execC Try.prog γ pol51m Try.f51 c51m [a0, a1] H K = S51m γ a0 a1 H K := by kernel_rfl
theorem C51m {a0 a1 : AV} {H : AHeap} {K : AV → AHeap → Prop} (h : S51m (CallsA Try.prog) a0 a1 H K) : CallsA Try.prog 51 [a0, a1] H K :=
  calls_of Try.func51 (ne_of_beq_false (by kernel_rfl)) c51m_eq (by kernel_rfl) (by rw [S51m_eq]; exact h)
/-! tithing/bus.Same$1 -/
def pol53 : Pol := { lend := fun g => !([55] : List Nat).contains g, keep := [], frz := fun _ => [], perm := fun r => if r = 1 then [0, 1, 2, 3, 4, 5, 6, 7, 8, 9, 10, 11, 12, 13] else [], bf := fun r => if r = 1 then [0, 1, 3, 7, 0, 16, 48, 112, 255, 511, 1023, 1023, 2047, 8191] else [], ret := true }
def S53 (γ : Calld) (a0 : AV) (H : AHeap) (K : AV → AHeap → Prop) : Prop :=
  drA true (optA (nilCkA a0) fun v1 => optA (fieldA ti52 v1 1) fun v2 => optA (ldV false 1 v2 H) fun v3 => optA (nilCkA a0) fun v4 => optA (fieldA ti52 v4 3) fun v5 => optA (ldV false 1 v5 H) fun v6 => noRsA (aggL v3) (noRsA (aggL v6) (frzLK [v3, v6] H fun l8 H10 => ∃ r9, γ 54 l8 H10 (fun v H2 => v = r9 ∧ AHeap.le H10 H2) ∧ (optA (extractA r9 0) fun v11 => optA (extractA r9 1) fun v12 => optA (nilCkA a0) fun v13 => optA (fieldA ti52 v13 1) fun v14 => optA (ldV false 1 v14 H10) fun v15 => optA (sliceA 1 v15 (some v11) none none H10) fun v16 => frzLK [v16] H10 fun l19 H20 => γ 32 l19 H20 fun v17 H18 => γ 55 [v17] H18 fun v21 H22 => retF [v21] H22 K))))
noncomputable def r53_0 : List Oper := regOps Try.f53 0
noncomputable def r53_1 : List Oper := regOps Try.f53 1
noncomputable def r53_2 : List Oper := regOps Try.f53 2
noncomputable def c53 : Code := (.seq (.region 0 #[opAt r53_0 0] false) (.seq (.region 1 #[opAt r53_1 0, opAt r53_1 1, opAt r53_1 2, opAt r53_1 3, opAt r53_1 4, opAt r53_1 5, opAt r53_1 6, opAt r53_1 7, opAt r53_1 8, opAt r53_1 9, opAt r53_1 10, opAt r53_1 11, opAt r53_1 12, opAt r53_1 13] true) (.seq (.region 2 #[opAt r53_2 0, opAt r53_2 1, opAt r53_2 2, opAt r53_2 3, opAt r53_2 4, opAt r53_2 5, opAt r53_2 6, opAt r53_2 7, opAt r53_2 8] false) .ret)))
theorem c53_eq : Try.f53.body = some c53 := by kernel_rfl
theorem S53_eq (γ : Calld) (a0 : AV) (H : AHeap) (K : AV → AHeap → Prop) : execC Try.prog γ pol53 Try.f53 c53 [a0] H K = S53 γ a0 H K := by kernel_rfl
theorem C53 {a0 : AV} {H : AHeap} {K : AV → AHeap → Prop} (h : S53 (CallsA Try.prog) a0 H K) : CallsA Try.prog 53 [a0] H K :=
  calls_of Try.func53 (ne_of_beq_false (by kernel_rfl)) c53_eq (by kernel_rfl) (by rw [S53_eq]; exact h)
/-! slices.Compact[[]int,int] -/
def pol55 : Pol := { lend := fun g => !([55] : List Nat).contains g, keep := [0, 3, 4, 5], frz := fun _ => [], perm := fun r => if r = 6 then [0, 1, 2, 3, 4, 5, 6, 7, 8, 9] else if r = 11 then [0, 1, 2, 3, 4, 5, 6, 7, 8, 9] else [], bf := fun r => if r = 6 then [0, 0, 3, 7, 0, 0, 32, 112, 240, 511] else if r = 11 then [0, 0, 3, 7, 0, 0, 32, 112, 240, 511] else [], ret := true }
def S55 (γ : Calld) (a0 : AV) (H : AHeap) (K : AV → AHeap → Prop) : Prop :=
  optA (lenSl a0) fun v1 => optA (intA .lss v1 (.d (.int .i64 2))) fun v2 => ifA v2 (retF [a0] H K) (loopA (fun X3 l4 H5 => optA (lenSl (l4.getD 0 .junk)) fun v6 => optA (intA .lss (l4.getD 1 .junk) v6) fun v7 => ifA v7 (drA true (optA (indexAddrA ti22 1 (l4.getD 0 .junk) (l4.getD 1 .junk)) fun v8 => optA (ldV false 1 v8 H5) fun v9 => optA (intA .sub (l4.getD 1 .junk) (.d (.int .i64 1))) fun v10 => optA (indexAddrA ti22 1 (l4.getD 0 .junk) v10) fun v11 => optA (ldV false 1 v11 H5) fun v12 => optA (intA .eql v9 v12) fun v13 => ifA v13 (optA (sliceA 1 (l4.getD 0 .junk) (some (l4.getD 1 .junk)) none none H5) fun v14 => loopA (fun X15 l16 H17 => optA (lenSl (l16.getD 2 .junk)) fun v18 => optA (intA .lss (l16.getD 3 .junk) v18) fun v19 => ifA v19 (drA true (optA (indexAddrA ti22 1 (l16.getD 2 .junk) (l16.getD 3 .junk)) fun v20 => optA (ldV false 1 v20 H17) fun v21 => optA (intA .sub (l16.getD 3 .junk) (.d (.int .i64 1))) fun v22 => optA (indexAddrA ti22 1 (l16.getD 2 .junk) v22) fun v23 => optA (ldV false 1 v23 H17) fun v24 => optA (intA .neq v21 v24) fun v25 => ifA v25 (optA (indexAddrA ti22 1 (l16.getD 2 .junk) (l16.getD 3 .junk)) fun v26 => optA (ldV false 1 v26 H17) fun v27 => optA (indexAddrA ti22 1 (l16.getD 0 .junk) (l16.getD 1 .junk)) fun v28 => stepK (stoA false 1 v28 v27 H17) H17 fun v29 H30 => optA (intA .add (l16.getD 1 .junk) (.d (.int .i64 1))) fun v31 => optA (intA .add (l16.getD 3 .junk) (.d (.int .i64 1))) fun v32 => X15 [l16.getD 0 .junk, v31, l16.getD 2 .junk, v32] H30) (optA (intA .add (l16.getD 3 .junk) (.d (.int .i64 1))) fun v33 => X15 [l16.getD 0 .junk, l16.getD 1 .junk, l16.getD 2 .junk, v33] H17))) (optA (sliceA 1 (l16.getD 0 .junk) (some (l16.getD 1 .junk)) none none H17) fun v34 => stepK (clA ti3 v34 H17) H17 fun v35 H36 => optA (sliceA 1 (l16.getD 0 .junk) none (some (l16.getD 1 .junk)) none H36) fun v37 => retF [v37] H36 K)) [l4.getD 0 .junk, l4.getD 1 .junk, v14, .d (.int .i64 1)] H5) (optA (intA .add (l4.getD 1 .junk) (.d (.int .i64 1))) fun v38 => X3 [l4.getD 0 .junk, v38, l4.getD 2 .junk, l4.getD 3 .junk] H5))) (retF [l4.getD 0 .junk] H5 K)) [a0, .d (.int .i64 1), .junk, .junk] H)
noncomputable def r55_0 : List Oper := regOps Try.f55 0
noncomputable def r55_1 : List Oper := regOps Try.f55 1
noncomputable def r55_2 : List Oper := regOps Try.f55 2
noncomputable def r55_3 : List Oper := regOps Try.f55 3
noncomputable def r55_4 : List Oper := regOps Try.f55 4
noncomputable def r55_5 : List Oper := regOps Try.f55 5
noncomputable def r55_6 : List Oper := regOps Try.f55 6
noncomputable def r55_7 : List Oper := regOps Try.f55 7
noncomputable def r55_8 : List Oper := regOps Try.f55 8
noncomputable def r55_9 : List Oper := regOps Try.f55 9
noncomputable def r55_10 : List Oper := regOps Try.f55 10
noncomputable def r55_11 : List Oper := regOps Try.f55 11
noncomputable def r55_12 : List Oper := regOps Try.f55 12
noncomputable def r55_13 : List Oper := regOps Try.f55 13
noncomputable def r55_14 : List Oper := regOps Try.f55 14
noncomputable def r55_15 : List Oper := regOps Try.f55 15
noncomputable def r55_16 : List Oper := regOps Try.f55 16
noncomputable def c55 : Code := (.seq (.region 0 #[opAt r55_0 0] false) (.seq (.seq (.region 1 #[opAt r55_1 0, opAt r55_1 1, opAt r55_1 2] false) (.cond (.tmp 8) (.seq (.region 2 #[opAt r55_2 0, opAt r55_2 1] false) .ret) .skip)) (.seq (.seq (.region 3 #[opAt r55_3 0] false) (.block 0 (.loop (.seq (.seq (.region 4 #[opAt r55_4 0, opAt r55_4 1, opAt r55_4 2, opAt r55_4 3] false) (.cond (.tmp 13) .skip (.exit 0))) (.seq (.block 1 (.seq (.region 6 #[opAt r55_5 0, opAt r55_5 1, opAt r55_5 2, opAt r55_5 3, opAt r55_5 4, opAt r55_5 5, opAt r55_5 6, opAt r55_5 7, opAt r55_5 8, opAt r55_5 9] true) (.cond (.tmp 25) (.seq (.region 7 #[opAt r55_6 0, opAt r55_6 1, opAt r55_6 2, opAt r55_6 3] false) (.seq (.seq (.region 8 #[opAt r55_7 0] false) (.block 2 (.loop (.seq (.seq (.region 9 #[opAt r55_8 0, opAt r55_8 1, opAt r55_8 2, opAt r55_8 3] false) (.cond (.tmp 32) .skip (.exit 2))) (.seq (.block 3 (.seq (.region 11 #[opAt r55_9 0, opAt r55_9 1, opAt r55_9 2, opAt r55_9 3, opAt r55_9 4, opAt r55_9 5, opAt r55_9 6, opAt r55_9 7, opAt r55_9 8, opAt r55_9 9] true) (.cond (.tmp 44) (.seq (.region 12 #[opAt r55_10 0, opAt r55_10 1, opAt r55_10 2, opAt r55_10 3, opAt r55_10 4, opAt r55_10 5, opAt r55_10 6, opAt r55_10 7] false) (.region 13 #[opAt r55_11 0, opAt r55_11 1, opAt r55_11 2] false)) .skip))) (.region 10 #[opAt r55_12 0, opAt r55_12 1, opAt r55_12 2] false)))))) (.seq (.region 14 #[opAt r55_13 0, opAt r55_13 1, opAt r55_13 2, opAt r55_13 3] false) (.seq (.region 15 #[opAt r55_14 0, opAt r55_14 1, opAt r55_14 2, opAt r55_14 3] false) .ret)))) .skip))) (.region 5 #[opAt r55_15 0, opAt r55_15 1, opAt r55_15 2] false)))))) (.seq (.region 16 #[opAt r55_16 0, opAt r55_16 1] false) .ret))))
theorem c55_eq : Try.f55.body = some c55 := by kernel_rfl
theorem S55_eq (γ : Calld) (a0 : AV) (H : AHeap) (K : AV → AHeap → Prop) : execC Try.prog γ pol55 Try.f55 c55 [a0] H K = S55 γ a0 H K := by kernel_rfl
theorem C55 {a0 : AV} {H : AHeap} {K : AV → AHeap → Prop} (h : S55 (CallsA Try.prog) a0 H K) : CallsA Try.prog 55 [a0] H K :=
  calls_of Try.func55 (ne_of_beq_false (by kernel_rfl)) c55_eq (by kernel_rfl) (by rw [S55_eq]; exact h)
/-! math/bits.Mul -/
def pol70 : Pol := { lend := fun g => !([55] : List Nat).contains g, keep := [], frz := fun _ => [], perm := fun r => [], bf := fun r => [], ret := true }
def S70 (γ : Calld) (a0 a1 : AV) (H : AHeap) (K : AV → AHeap → Prop) : Prop :=
  frzLK [a0, a1] H fun l3 H4 => γ 78 l3 H4 fun v1 H2 => optA (extractA v1 0) fun v5 => optA (extractA v1 1) fun v6 => retF [v5, v6] H2 K
noncomputable def r70_0 : List Oper := regOps Try.f70 0
noncomputable def r70_1 : List Oper := regOps Try.f70 1
noncomputable def r70_2 : List Oper := regOps Try.f70 2
noncomputable def r70_3 : List Oper := regOps Try.f70 3
noncomputable def r70_4 : List Oper := regOps Try.f70 4
noncomputable def c70 : Code := (.seq (.region 0 #[opAt r70_0 0, opAt r70_0 1] false) (.seq (.cond (.const (.bool false)) (.seq (.region 1 #[opAt r70_1 0, opAt r70_1 1, opAt r70_1 2, opAt r70_1 3, opAt r70_1 4, opAt r70_1 5, opAt r70_1 6, opAt r70_1 7, opAt r70_1 8, opAt r70_1 9] false) (.seq (.region 2 #[opAt r70_2 0, opAt r70_2 1, opAt r70_2 2, opAt r70_2 3, opAt r70_2 4, opAt r70_2 5] false) .ret)) .skip) (.seq (.region 3 #[opAt r70_3 0, opAt r70_3 1, opAt r70_3 2, opAt r70_3 3, opAt r70_3 4, opAt r70_3 5, opAt r70_3 6, opAt r70_3 7] false) (.seq (.region 4 #[opAt r70_4 0, opAt r70_4 1, opAt r70_4 2, opAt r70_4 3] false) .ret))))
theorem c70_eq : Try.f70.body = some c70 := by kernel_rfl
theorem S70_eq (γ : Calld) (a0 a1 : AV) (H : AHeap) (K : AV → AHeap → Prop) : execC Try.prog γ pol70 Try.f70 c70 [a0, a1] H K = S70 γ a0 a1 H K := by kernel_rfl
theorem C70 {a0 a1 : AV} {H : AHeap} {K : AV → AHeap → Prop} (h : S70 (CallsA Try.prog) a0 a1 H K) : CallsA Try.prog 70 [a0, a1] H K :=
  calls_of Try.func70 (ne_of_beq_false (by kernel_rfl)) c70_eq (by kernel_rfl) (by rw [S70_eq]; exact h)
/-! math/bits.Mul64 -/
def pol78 : Pol := { lend := fun g => !([55] : List Nat).contains g, keep := [], frz := fun _ => [], perm := fun r => [], bf := fun r => [], ret := true }
def S78 (γ : Calld) (a0 a1 : AV) (H : AHeap) (K : AV → AHeap → Prop) : Prop :=
  optA (intA .and a0 (.d (.int .u64 4294967295))) fun v1 => optA (intA .shr a0 (.d (.int .u64 32))) fun v2 => optA (intA .and a1 (.d (.int .u64 4294967295))) fun v3 => optA (intA .shr a1 (.d (.int .u64 32))) fun v4 => optA (intA .mul v1 v3) fun v5 => optA (intA .mul v2 v3) fun v6 => optA (intA .shr v5 (.d (.int .u64 32))) fun v7 => optA (intA .add v6 v7) fun v8 => optA (intA .and v8 (.d (.int .u64 4294967295))) fun v9 => optA (intA .shr v8 (.d (.int .u64 32))) fun v10 => optA (intA .mul v1 v4) fun v11 => optA (intA .add v9 v11) fun v12 => optA (intA .mul v2 v4) fun v13 => optA (intA .add v13 v10) fun v14 => optA (intA .shr v12 (.d (.int .u64 32))) fun v15 => optA (intA .add v14 v15) fun v16 => optA (intA .mul a0 a1) fun v17 => retF [v16, v17] H K
noncomputable def r78_0 : List Oper := regOps Try.f78 0
noncomputable def r78_1 : List Oper := regOps Try.f78 1
noncomputable def r78_2 : List Oper := regOps Try.f78 2
noncomputable def r78_3 : List Oper := regOps Try.f78 3
noncomputable def r78_4 : List Oper := regOps Try.f78 4
noncomputable def r78_5 : List Oper := regOps Try.f78 5
noncomputable def r78_6 : List Oper := regOps Try.f78 6
noncomputable def r78_7 : List Oper := regOps Try.f78 7
noncomputable def r78_8 : List Oper := regOps Try.f78 8
noncomputable def r78_9 : List Oper := regOps Try.f78 9
noncomputable def r78_10 : List Oper := regOps Try.f78 10
noncomputable def r78_11 : List Oper := regOps Try.f78 11
noncomputable def c78 : Code := (.seq (.region 0 #[opAt r78_0 0, opAt r78_0 1] false) (.seq (.region 1 #[opAt r78_1 0, opAt r78_1 1, opAt r78_1 2] false) (.seq (.region 2 #[opAt r78_2 0, opAt r78_2 1, opAt r78_2 2] false) (.seq (.region 3 #[opAt r78_3 0, opAt r78_3 1, opAt r78_3 2] false) (.seq (.region 4 #[opAt r78_4 0, opAt r78_4 1, opAt r78_4 2] false) (.seq (.region 5 #[opAt r78_5 0, opAt r78_5 1, opAt r78_5 2, opAt r78_5 3] false) (.seq (.region 6 #[opAt r78_6 0, opAt r78_6 1, opAt r78_6 2, opAt r78_6 3, opAt r78_6 4, opAt r78_6 5, opAt r78_6 6] false) (.seq (.region 7 #[opAt r78_7 0, opAt r78_7 1, opAt r78_7 2] false) (.seq (.region 8 #[opAt r78_8 0, opAt r78_8 1, opAt r78_8 2] false) (.seq (.region 9 #[opAt r78_9 0, opAt r78_9 1, opAt r78_9 2, opAt r78_9 3, opAt r78_9 4, opAt r78_9 5] false) (.seq (.region 10 #[opAt r78_10 0, opAt r78_10 1, opAt r78_10 2, opAt r78_10 3, opAt r78_10 4, opAt r78_10 5, opAt r78_10 6, opAt r78_10 7, opAt r78_10 8] false) (.seq (.region 11 #[opAt r78_11 0, opAt r78_11 1, opAt r78_11 2, opAt r78_11 3] false) .ret))))))))))))
theorem c78_eq : Try.f78.body = some c78 := by kernel_rfl
theorem S78_eq (γ : Calld) (a0 a1 : AV) (H : AHeap) (K : AV → AHeap → Prop) : execC Try.prog γ pol78 Try.f78 c78 [a0, a1] H K = S78 γ a0 a1 H K := by kernel_rfl
theorem C78 {a0 a1 : AV} {H : AHeap} {K : AV → AHeap → Prop} (h : S78 (CallsA Try.prog) a0 a1 H K) : CallsA Try.prog 78 [a0, a1] H K :=
  calls_of Try.func78 (ne_of_beq_false (by kernel_rfl)) c78_eq (by kernel_rfl) (by rw [S78_eq]; exact h)
end Go.Proofs.Ytadpakkenokilaa
/- What the functions do, printed by a program of mine out of their code; Lean checks each equation. -/
set_option maxRecDepth 100000
set_option linter.unusedVariables false
namespace Go.Proofs.Ytadpakkenokilaa
open Go Go.AM Go.Proofs
/-! tithing/bus.Same -/
def pol27j : Pol := { lend := fun g => !([34, 57, 63] : List Nat).contains g, keep := [], frz := fun _ => [], perm := fun r => if r = 4 then [0, 1, 2, 3, 4, 5, 6, 7, 8, 9, 10, 11, 13, 14, 12, 15, 16, 17, 18, 19, 20, 21, 22, 23, 24, 25, 26, 27, 28, 29] else [], bf := fun r => if r = 4 then [0, 1, 3, 7, 0, 16, 48, 112, 255, 511, 1023, 1023, 4095, 1023, 1023, 32767, 65535, 131071, 262143, 524287, 1048575, 2097151, 4194303, 524287, 8912895, 25690111, 59244543, 134217727, 268435455, 536870911] else [], ret := true, eff := fun r => ([4] : List Nat).contains r }
def S27j (γ : Calld) (a0 a1 : AV) (H : AHeap) (K : AV → AHeap → Prop) : Prop :=
  frzLK [a0] H fun l3 H4 => γ 31 l3 H4 fun v1 H2 => ifA v1 (frzLK [a0] H2 fun l7 H8 => γ 31 l7 H8 fun v5 H6 => ifA v5 (frzLK [a1] H6 fun l11 H12 => γ 31 l11 H12 fun v9 H10 => retF [v9] H10 K) (retF [.d (.bool false)] H6 K)) (frzLK [a1] H2 fun l15 H16 => γ 31 l15 H16 fun v13 H14 => ifA v13 (frzLK [a0] H14 fun l19 H20 => γ 31 l19 H20 fun v17 H18 => ifA v17 (frzLK [a1] H18 fun l23 H24 => γ 31 l23 H24 fun v21 H22 => retF [v21] H22 K) (retF [.d (.bool false)] H18 K)) (drA true (optA (nilCkA a0) fun v25 => optA (fieldA ti52 v25 3) fun v26 => optA (ldV false 1 v26 H14) fun v27 => optA (nilCkA a1) fun v28 => optA (fieldA ti52 v28 3) fun v29 => optA (ldV false 1 v29 H14) fun v30 => optA (intA .eql v27 v30) fun v31 => ifA v31 (frzLK [a0] H14 fun l34 H35 => γ 53 l34 H35 fun v32 H33 => frzLK [a1] H33 fun l38 H39 => γ 53 l38 H39 fun v36 H37 => frzLK [v32, v36] H37 fun l42 H43 => γ 56 l42 H43 fun v40 H41 => ifA v40 (optA (nilCkA a0) fun v44 => optA (fieldA ti52 v44 2) fun v45 => optA (ldV false 1 v45 H41) fun v46 => optA (nilCkA a1) fun v47 => optA (fieldA ti52 v47 2) fun v48 => optA (ldV false 1 v48 H41) fun v49 => γ 57 [v46, v49, .func 58 [] []] H41 fun v50 H51 => retF [v50] H51 K) (retF [.d (.bool false)] H41 K)) (retF [.d (.bool false)] H14 K))))
noncomputable def r27j_0 : List Oper := regOps Try.f27 0
noncomputable def r27j_1 : List Oper := regOps Try.f27 1
noncomputable def r27j_2 : List Oper := regOps Try.f27 2
noncomputable def r27j_3 : List Oper := regOps Try.f27 3
noncomputable def r27j_4 : List Oper := regOps Try.f27 4
noncomputable def c27j : Code := (.seq (.region 0 #[opAt r27j_0 0] false) (.seq (.seq (.region 1 #[opAt r27j_1 0, opAt r27j_1 1, opAt r27j_1 2, opAt r27j_1 3, opAt r27j_1 4, opAt r27j_1 5] false) (.cond (.tmp 11) (.seq (.region 2 #[opAt r27j_2 0, opAt r27j_2 1, opAt r27j_2 2, opAt r27j_2 3, opAt r27j_2 4, opAt r27j_2 5, opAt r27j_2 6] false) .ret) .skip)) (.seq (.region 3 #[opAt r27j_3 0] false) (.seq (.region 4 #[opAt r27j_4 0, opAt r27j_4 1, opAt r27j_4 2, opAt r27j_4 3, opAt r27j_4 4, opAt r27j_4 5, opAt r27j_4 6, opAt r27j_4 7, opAt r27j_4 8, opAt r27j_4 9, opAt r27j_4 10, opAt r27j_4 11, opAt r27j_4 12, opAt r27j_4 13, opAt r27j_4 14, opAt r27j_4 15, opAt r27j_4 16, opAt r27j_4 17, opAt r27j_4 18, opAt r27j_4 19, opAt r27j_4 20, opAt r27j_4 21, opAt r27j_4 22, opAt r27j_4 23, opAt r27j_4 24, opAt r27j_4 25, opAt r27j_4 26, opAt r27j_4 27, opAt r27j_4 28, opAt r27j_4 29] true) .ret))))
theorem c27j_eq : Try.f27.body = some c27j := by kernel_rfl
theorem S27j_eq (γ : Calld) (a0 a1 : AV) (H : AHeap) (K : AV → AHeap → Prop) : execC Try.prog γ pol27j Try.f27 c27j [a0, a1] H K = S27j γ a0 a1 H K := by kernel_rfl
theorem C27j {a0 a1 : AV} {H : AHeap} {K : AV → AHeap → Prop} (h : S27j (CallsA Try.prog) a0 a1 H K) : CallsA Try.prog 27 [a0, a1] H K :=
  calls_of Try.func27 (ne_of_beq_false (by kernel_rfl)) c27j_eq (by kernel_rfl) (by rw [S27j_eq]; exact h)
/-! (*tithing/tithingref02.Bus).Copy -/
def pol28j : Pol := { lend := fun g => !([34, 57, 63] : List Nat).contains g, keep := [0, 3, 4], frz := fun _ => [], perm := fun r => if r = 8 then [0, 1, 2, 3, 4, 5, 6, 7, 8, 9, 10] else [], bf := fun r => if r = 8 then [0, 0, 2, 6, 14, 0, 32, 126, 255, 511, 1023] else [], ret := true, fzr := fun r => ([8] : List Nat).contains r }
def S28j (γ : Calld) (a0 : AV) (H : AHeap) (K : AV → AHeap → Prop) : Prop :=
  optA (nilCkA a0) fun v1 => optA (fieldA ti76 v1 0) fun v2 => optA (ldV false 1 v2 H) fun v3 => frzLK [v3] H fun l6 H7 => γ 20 l6 H7 fun v4 H5 => optA (nilCkA a0) fun v8 => optA (fieldA ti76 v8 2) fun v9 => optA (ldV false 1 v9 H5) fun v10 => optA (nilCkA v4) fun v11 => optA (fieldA ti76 v11 2) fun v12 => stepK (stoA false 1 v12 v10 H5) H5 fun v13 H14 => loopA (fun X15 l16 H17 => optA (nilCkA (l16.getD 0 .junk)) fun v18 => optA (fieldA ti76 v18 1) fun v19 => optA (ldV false 1 v19 H17) fun v20 => optA (lenSl v20) fun v21 => optA (intA .lss (l16.getD 2 .junk) v21) fun v22 => ifA v22 (optA (nilCkA (l16.getD 0 .junk)) fun v23 => optA (fieldA ti76 v23 1) fun v24 => optA (ldV false 1 v24 H17) fun v25 => optA (indexAddrA ti74 6 v25 (l16.getD 2 .junk)) fun v26 => optA (ldV true 6 v26 H17) fun v27 => newK H17 (fun n30 => some (.ptr n30 0 0 0, [(n30, .mem 0 0 6 [[.d (.sl true []), .d (.bool false), .d (.int .i64 0), .d (.int .i64 0), .d (.int .i64 0), .d (.int .i64 0)]])])) fun v28 H29 => stepK (stoA true 6 v28 v27 H29) H29 fun v31 H32 => newK H32 (fun n35 => bsA ti3 0 [] [] H32 n35) fun v33 H34 => optA (fieldA ti89 v28 0) fun v36 => optA (ldV false 1 v36 H34) fun v37 => newK H34 (fun n40 => apA 1 8 v33 v37 H34 n40) fun v38 H39 => optA (fieldA ti89 v28 0) fun v41 => stepK (stoA false 1 v41 v38 H39) H39 fun v42 H43 => fzX true H43 fun H44 => drA true (optA (nilCkA (l16.getD 1 .junk)) fun v45 => optA (fieldA ti76 v45 1) fun v46 => optA (ldV false 1 v46 H44) fun v47 => optA (ldV true 6 v28 H44) fun v48 => apart (rsOf v48) v46 ∧ (noRsA (aggL v48) (newK H44 (fun n51 => bsA ti89 1 [0] [v48] H44 n51) fun v49 H50 => newK H50 (fun n54 => apA 6 64 v47 v49 H50 n54) fun v52 H53 => optA (nilCkA (l16.getD 1 .junk)) fun v55 => optA (fieldA ti76 v55 1) fun v56 => noRsA (aggL v52) (stepK (stoA false 1 v56 v52 H53) H53 fun v57 H58 => optA (intA .add (l16.getD 2 .junk) (.d (.int .i64 1))) fun v59 => X15 [l16.getD 0 .junk, l16.getD 1 .junk, v59] H58))))) (retF [l16.getD 1 .junk] H17 K)) [a0, v4, .d (.int .i64 0)] H14
noncomputable def r28j_0 : List Oper := regOps Try.f28 0
noncomputable def r28j_1 : List Oper := regOps Try.f28 1
noncomputable def r28j_2 : List Oper := regOps Try.f28 2
noncomputable def r28j_3 : List Oper := regOps Try.f28 3
noncomputable def r28j_4 : List Oper := regOps Try.f28 4
noncomputable def r28j_5 : List Oper := regOps Try.f28 5
noncomputable def r28j_6 : List Oper := regOps Try.f28 6
noncomputable def r28j_7 : List Oper := regOps Try.f28 7
noncomputable def r28j_8 : List Oper := regOps Try.f28 8
noncomputable def r28j_9 : List Oper := regOps Try.f28 9
noncomputable def c28j : Code := (.seq (.region 0 #[opAt r28j_0 0] false) (.seq (.region 1 #[opAt r28j_1 0, opAt r28j_1 1, opAt r28j_1 2, opAt r28j_1 3, opAt r28j_1 4, opAt r28j_1 5] false) (.seq (.region 2 #[opAt r28j_2 0, opAt r28j_2 1, opAt r28j_2 2, opAt r28j_2 3, opAt r28j_2 4, opAt r28j_2 5, opAt r28j_2 6, opAt r28j_2 7] false) (.seq (.seq (.region 3 #[opAt r28j_3 0] false) (.block 0 (.loop (.seq (.seq (.region 4 #[opAt r28j_4 0, opAt r28j_4 1, opAt r28j_4 2, opAt r28j_4 3, opAt r28j_4 4, opAt r28j_4 5, opAt r28j_4 6] false) (.cond (.tmp 24) .skip (.exit 0))) (.seq (.block 1 (.seq (.region 6 #[opAt r28j_5 0, opAt r28j_5 1, opAt r28j_5 2, opAt r28j_5 3, opAt r28j_5 4, opAt r28j_5 5, opAt r28j_5 6, opAt r28j_5 7, opAt r28j_5 8] false) (.seq (.region 7 #[opAt r28j_6 0, opAt r28j_6 1, opAt r28j_6 2, opAt r28j_6 3, opAt r28j_6 4, opAt r28j_6 5] false) (.region 8 #[opAt r28j_7 0, opAt r28j_7 1, opAt r28j_7 2, opAt r28j_7 3, opAt r28j_7 4, opAt r28j_7 5, opAt r28j_7 6, opAt r28j_7 7, opAt r28j_7 8, opAt r28j_7 9, opAt r28j_7 10] true)))) (.region 5 #[opAt r28j_8 0, opAt r28j_8 1, opAt r28j_8 2] false)))))) (.seq (.region 9 #[opAt r28j_9 0, opAt r28j_9 1] false) .ret)))))
theorem c28j_eq : Try.f28.body = some c28j := by kernel_rfl
theorem S28j_eq (γ : Calld) (a0 : AV) (H : AHeap) (K : AV → AHeap → Prop) : execC Try.prog γ pol28j Try.f28 c28j [a0] H K = S28j γ a0 H K := by kernel_rfl
theorem C28j {a0 : AV} {H : AHeap} {K : AV → AHeap → Prop} (h : S28j (CallsA Try.prog) a0 H K) : CallsA Try.prog 28 [a0] H K :=
  calls_of Try.func28 (ne_of_beq_false (by kernel_rfl)) c28j_eq (by kernel_rfl) (by rw [S28j_eq]; exact h)
end Go.Proofs.Ytadpakkenokilaa

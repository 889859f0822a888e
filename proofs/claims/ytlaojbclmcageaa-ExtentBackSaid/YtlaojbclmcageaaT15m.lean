/- What the functions do, printed by a program of mine out of their code; Lean checks each equation. -/
import Derived.Test.YtlaojbclmcageaaM15c
import Derived.Test.YtlaojbclmcageaaProg
import Derived.KernelRfl
set_option maxRecDepth 100000
set_option linter.unusedVariables false
namespace Go.Proofs.Ytlaojbclmcageaa
open Go Go.AM Go.Proofs
/-! slices.Clone[[]bool,bool] -/
def pol64m : Pol := { lend := fun _ => true, keep := [], frz := fun _ => [], perm := fun r => [], bf := fun r => [], ret := false }
def S64m (γ : Calld) (a0 : AV) (H : AHeap) (K : AV → AHeap → Prop) : Prop :=
  optA (nilA 0 .eql a0 (.d (.sl true []))) fun v1 => ifA v1 (finA (.d (.sl true [])) H K) (newK H (fun n4 => bsA ti4 0 [] [] H n4) fun v2 H3 => newK H3 (fun n7 => apA 1 1 v2 a0 H3 n7) fun v5 H6 => finA v5 H6 K)
noncomputable def r64m_0 : List Oper := regOps Try.f64 0
noncomputable def r64m_1 : List Oper := regOps Try.f64 1
noncomputable def r64m_2 : List Oper := regOps Try.f64 2
noncomputable def r64m_3 : List Oper := regOps Try.f64 3
noncomputable def c64m : Code := (.seq (.region 0 #[opAt r64m_0 0] false) (.seq (.seq (.region 1 #[opAt r64m_1 0, opAt r64m_1 1] false) (.cond (.tmp 4) (.seq (.region 2 #[opAt r64m_2 0] false) .ret) .skip)) (.seq (.region 3 #[opAt r64m_3 0, opAt r64m_3 1, opAt r64m_3 2, opAt r64m_3 3] false) .ret)))
theorem c64m_eq : Try.f64.body = some c64m := by kernel_rfl
theorem S64m_eq (γ : Calld) (a0 : AV) (H : AHeap) (K : AV → AHeap → Prop) : execC Try.prog γ pol64m Try.f64 c64m [a0] H K = S64m γ a0 H K := by kernel_rfl
theorem C64m {a0 : AV} {H : AHeap} {K : AV → AHeap → Prop} (h : S64m (CallsA Try.prog) a0 H K) : CallsA Try.prog 64 [a0] H K :=
  calls_of Try.func64 (ne_of_beq_false (by kernel_rfl)) c64m_eq (by kernel_rfl) (by rw [S64m_eq]; exact h)
/-! slices.Clone[[]tithing/api.Extent,tithing/api.Extent] -/
def pol68m : Pol := { lend := fun _ => true, keep := [], frz := fun _ => [], perm := fun r => [], bf := fun r => [], ret := false }
def S68m (γ : Calld) (a0 : AV) (H : AHeap) (K : AV → AHeap → Prop) : Prop :=
  optA (nilA 0 .eql a0 (.d (.sl true []))) fun v1 => ifA v1 (finA (.d (.sl true [])) H K) (newK H (fun n4 => bsA ti66 0 [] [] H n4) fun v2 H3 => newK H3 (fun n7 => apA 2 16 v2 a0 H3 n7) fun v5 H6 => finA v5 H6 K)
noncomputable def r68m_0 : List Oper := regOps Try.f68 0
noncomputable def r68m_1 : List Oper := regOps Try.f68 1
noncomputable def r68m_2 : List Oper := regOps Try.f68 2
noncomputable def r68m_3 : List Oper := regOps Try.f68 3
noncomputable def c68m : Code := (.seq (.region 0 #[opAt r68m_0 0] false) (.seq (.seq (.region 1 #[opAt r68m_1 0, opAt r68m_1 1] false) (.cond (.tmp 4) (.seq (.region 2 #[opAt r68m_2 0] false) .ret) .skip)) (.seq (.region 3 #[opAt r68m_3 0, opAt r68m_3 1, opAt r68m_3 2, opAt r68m_3 3] false) .ret)))
theorem c68m_eq : Try.f68.body = some c68m := by kernel_rfl
theorem S68m_eq (γ : Calld) (a0 : AV) (H : AHeap) (K : AV → AHeap → Prop) : execC Try.prog γ pol68m Try.f68 c68m [a0] H K = S68m γ a0 H K := by kernel_rfl
theorem C68m {a0 : AV} {H : AHeap} {K : AV → AHeap → Prop} (h : S68m (CallsA Try.prog) a0 H K) : CallsA Try.prog 68 [a0] H K :=
  calls_of Try.func68 (ne_of_beq_false (by kernel_rfl)) c68m_eq (by kernel_rfl) (by rw [S68m_eq]; exact h)
end Go.Proofs.Ytlaojbclmcageaa

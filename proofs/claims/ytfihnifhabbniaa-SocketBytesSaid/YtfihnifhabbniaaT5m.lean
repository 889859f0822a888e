/- What the functions do, printed by a program of mine out of their code; Lean checks each equation. -/
import Derived.Test.YtfihnifhabbniaaM5h
import Derived.Test.YtfihnifhabbniaaA25
import Derived.Test.YtfihnifhabbniaaProg
import Derived.KernelRfl
set_option maxRecDepth 100000
set_option linter.unusedVariables false
namespace Go.Proofs.Ytfihnifhabbniaa
open Go Go.AM Go.Proofs
/-! slices.Clone[[]byte,byte] -/
def pol36m : Pol := { lend := fun _ => true, keep := [], frz := fun _ => [], perm := fun r => [], bf := fun r => [], ret := false }
def S36m (γ : Calld) (a0 : AV) (H : AHeap) (K : AV → AHeap → Prop) : Prop :=
  optA (nilA 0 .eql a0 (.d (.sl true []))) fun v1 => ifA v1 (finA (.d (.sl true [])) H K) (newK H (fun n4 => bsA ti5 0 [] [] H n4) fun v2 H3 => newK H3 (fun n7 => apA 1 1 v2 a0 H3 n7) fun v5 H6 => finA v5 H6 K)
noncomputable def r36m_0 : List Oper := regOps Try.f36 0
noncomputable def r36m_1 : List Oper := regOps Try.f36 1
noncomputable def r36m_2 : List Oper := regOps Try.f36 2
noncomputable def r36m_3 : List Oper := regOps Try.f36 3
noncomputable def c36m : Code := (.seq (.region 0 #[opAt r36m_0 0] false) (.seq (.seq (.region 1 #[opAt r36m_1 0, opAt r36m_1 1] false) (.cond (.tmp 4) (.seq (.region 2 #[opAt r36m_2 0] false) .ret) .skip)) (.seq (.region 3 #[opAt r36m_3 0, opAt r36m_3 1, opAt r36m_3 2, opAt r36m_3 3] false) .ret)))
theorem c36m_eq : Try.f36.body = some c36m := by kernel_rfl
theorem S36m_eq (γ : Calld) (a0 : AV) (H : AHeap) (K : AV → AHeap → Prop) : execC Try.prog γ pol36m Try.f36 c36m [a0] H K = S36m γ a0 H K := by kernel_rfl
theorem C36m {a0 : AV} {H : AHeap} {K : AV → AHeap → Prop} (h : S36m (CallsA Try.prog) a0 H K) : CallsA Try.prog 36 [a0] H K :=
  calls_of Try.func36 (ne_of_beq_false (by kernel_rfl)) c36m_eq (by kernel_rfl) (by rw [S36m_eq]; exact h)
end Go.Proofs.Ytfihnifhabbniaa

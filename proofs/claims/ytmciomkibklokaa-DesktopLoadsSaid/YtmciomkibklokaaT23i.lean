/- What the functions do, printed by a program of mine out of their code; Lean checks each equation. -/
import Derived.Test.YtmciomkibklokaaT23h
import Derived.Test.YtmciomkibklokaaT23g
import Derived.Test.YtmciomkibklokaaT23l
import Derived.Test.YtmciomkibklokaaT23k
import Derived.Test.YtmciomkibklokaaT23n
import Derived.Test.YtmciomkibklokaaT23
import Derived.Test.YtmciomkibklokaaA26
import Derived.Test.YtmciomkibklokaaProg
import Derived.KernelRfl
set_option maxRecDepth 100000
set_option linter.unusedVariables false
namespace Go.Proofs.Ytmciomkibklokaa
open Go Go.AM Go.Proofs
/-! maps.Keys[map[int]string,int,string] -/
def pol48 : Pol := { lend := fun g => !([28, 57, 52, 61, 43, 44] : List Nat).contains g, keep := [], frz := fun _ => [], perm := fun r => [], bf := fun r => [], ret := true }
def S48 (γ : Calld) (a0 : AV) (H : AHeap) (K : AV → AHeap → Prop) : Prop :=
  newK H (fun n3 => boxA a0 n3) fun v1 H2 => retF [.func 66 [] [v1]] H2 K
noncomputable def r48_0 : List Oper := regOps Try.f48 0
noncomputable def r48_1 : List Oper := regOps Try.f48 1
noncomputable def c48 : Code := (.seq (.region 0 #[opAt r48_0 0, opAt r48_0 1] false) (.seq (.region 1 #[opAt r48_1 0, opAt r48_1 1] false) .ret))
theorem c48_eq : Try.f48.body = some c48 := by kernel_rfl
theorem S48_eq (γ : Calld) (a0 : AV) (H : AHeap) (K : AV → AHeap → Prop) : execC Try.prog γ pol48 Try.f48 c48 [a0] H K = S48 γ a0 H K := by kernel_rfl
theorem C48 {a0 : AV} {H : AHeap} {K : AV → AHeap → Prop} (h : S48 (CallsA Try.prog) a0 H K) : CallsA Try.prog 48 [a0] H K :=
  calls_of Try.func48 (ne_of_beq_false (by kernel_rfl)) c48_eq (by kernel_rfl) (by rw [S48_eq]; exact h)
end Go.Proofs.Ytmciomkibklokaa

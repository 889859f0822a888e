/- What the functions do, printed by a program of mine out of their code; Lean checks each equation. -/
import Derived.Test.YtmciomkibklokaaT23l
import Derived.Test.YtmciomkibklokaaT23k
import Derived.Test.YtmciomkibklokaaT23n
import Derived.Test.YtmciomkibklokaaT23
import Derived.Test.YtmciomkibklokaaA26
import Derived.Test.YtmciomkibklokaaProg
import Derived.KernelRfl
set_option maxRecDepth 100000
set_option linter.unusedVariables false
namespace Go.Proofs.Ytmciomkibklokaa
open Go Go.AM Go.Proofs
/-! slices.Grow[[]byte,byte] -/
def pol63 : Pol := { lend := fun g => !([28, 57, 52, 61, 43, 44] : List Nat).contains g, keep := [], frz := fun _ => [], perm := fun r => [], bf := fun r => [], ret := false }
def S63 (γ : Calld) (a0 a1 : AV) (H : AHeap) (K : AV → AHeap → Prop) : Prop :=
  optA (intA .lss a1 (.d (.int .i64 0))) fun v1 => ifA v1 (False) (optA (capA a0) fun v4 => optA (lenSl a0) fun v5 => optA (intA .sub v4 v5) fun v6 => optA (intA .sub a1 v6) fun v7 => optA (intA .gtr v7 (.d (.int .i64 0))) fun v8 => ifA v8 (optA (capA a0) fun v9 => optA (sliceA 1 a0 none (some v9) none H) fun v10 => newK H (fun n13 => apzA ti5 v10 v7 H n13) fun v11 H12 => optA (lenSl a0) fun v14 => optA (sliceA 1 v11 none (some v14) none H12) fun v15 => finA v15 H12 K) (finA a0 H K))
noncomputable def r63_0 : List Oper := regOps Try.f63 0
noncomputable def r63_1 : List Oper := regOps Try.f63 1
noncomputable def r63_2 : List Oper := regOps Try.f63 2
noncomputable def r63_3 : List Oper := regOps Try.f63 3
noncomputable def r63_4 : List Oper := regOps Try.f63 4
noncomputable def r63_5 : List Oper := regOps Try.f63 5
noncomputable def r63_6 : List Oper := regOps Try.f63 6
noncomputable def c63 : Code := (.seq (.region 0 #[opAt r63_0 0] false) (.seq (.seq (.region 1 #[opAt r63_1 0, opAt r63_1 1] false) (.cond (.tmp 6) (.region 2 #[opAt r63_2 0, opAt r63_2 1] false) .skip)) (.seq (.seq (.region 3 #[opAt r63_3 0, opAt r63_3 1, opAt r63_3 2, opAt r63_3 3, opAt r63_3 4, opAt r63_3 5, opAt r63_3 6, opAt r63_3 7] false) (.seq (.region 4 #[opAt r63_4 0, opAt r63_4 1] false) (.cond (.tmp 16) (.region 5 #[opAt r63_5 0, opAt r63_5 1, opAt r63_5 2, opAt r63_5 3, opAt r63_5 4, opAt r63_5 5, opAt r63_5 6, opAt r63_5 7, opAt r63_5 8, opAt r63_5 9] false) .skip))) (.seq (.region 6 #[opAt r63_6 0, opAt r63_6 1] false) .ret))))
theorem c63_eq : Try.f63.body = some c63 := by kernel_rfl
theorem S63_eq (γ : Calld) (a0 a1 : AV) (H : AHeap) (K : AV → AHeap → Prop) : execC Try.prog γ pol63 Try.f63 c63 [a0, a1] H K = S63 γ a0 a1 H K := by kernel_rfl
theorem C63 {a0 a1 : AV} {H : AHeap} {K : AV → AHeap → Prop} (h : S63 (CallsA Try.prog) a0 a1 H K) : CallsA Try.prog 63 [a0, a1] H K :=
  calls_of Try.func63 (ne_of_beq_false (by kernel_rfl)) c63_eq (by kernel_rfl) (by rw [S63_eq]; exact h)
end Go.Proofs.Ytmciomkibklokaa

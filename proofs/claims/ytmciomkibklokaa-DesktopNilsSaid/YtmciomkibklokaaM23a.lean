/- A desktop's programs: none, isId, the search, Delete. -/
import Derived.Test.YtmciomkibklokaaM23x
set_option autoImplicit false
set_option maxRecDepth 100000
set_option linter.unusedVariables false
set_option linter.unusedSimpArgs false
set_option linter.unnecessarySimpa false
namespace Go.Proofs.Ytmciomkibklokaa
open Go Go.AM Go.Proofs
section
variable {H G : AHeap} {k m : Nat} {pv : AV} {zs : List Prg} {K : AV → AHeap → Prop}
theorem within_c {n a b : Int} (hk : K (.d (.bool (decide (a ≤ n ∧ n ≤ b)))) H) : CallsA Try.prog 51 [.d (.int .i64 n), .d (.int .i64 a), .d (.int .i64 b)] H K := by
  apply C51
  unfold S51
  simp only [go_sem]
  by_cases h1 : n ≥ a
  · rw [if_pos h1]
    refine ⟨_, le_refl', ?_⟩
    rw [show decide (n ≤ b) = decide (a ≤ n ∧ n ≤ b) by have : a ≤ n := h1; simp [this]]
    exact hk
  · rw [if_neg h1]
    refine ⟨_, le_refl', ?_⟩
    rw [show false = decide (a ≤ n ∧ n ≤ b) by have : ¬ a ≤ n := h1; simp [this]]
    exact hk
theorem isId_c {n : Int} (hk : K (.d (.bool (decide (1 ≤ n ∧ n ≤ 4294967295)))) H) : CallsA Try.prog 26 [.d (.int .i64 n)] H K := by
  apply C26
  unfold S26
  simp only [go_sem]
  refine within_c ?_
  exact ⟨_, le_refl', hk⟩
theorem none_c (hB : DB H k m pv zs) (hk : K (.d (.bool false)) H) : CallsA Try.prog 25 [.ptr k 0 0 0] H K := by
  apply C25
  unfold S25
  have l2 : ldV false 1 (.ptr k 0 0 2) H = some (.map m) := ldV_at hB.base rfl rfl
  simp only [nilA, isNil, nilCkA, ti55_f2, go_sem, l2]
  exact ⟨_, le_refl', hk⟩
/-- Is it the program of a creator and a file? -/
abbrev isP (c : ByteArray) (f : Int) (x : Prg) : Bool := decide (x.1 = c ∧ x.2.2 = f)
theorem prog1_c {c : ByteArray} {f : Int} {x : Prg} {u v : Nat} (hu : H u = some (.mem 0 0 1 [[.d (.str c)]])) (hv : H v = some (.mem 0 0 1 [[.d (.int .i64 f)]])) (hk : ∀ H', AHeap.le H H' → K (.d (.bool (isP c f x))) H') :
    CallsA Try.prog 58 [.agg ((pdat x).map AV.d), .ptr u 0 0 0, .ptr v 0 0 0] H K := by
  apply C58
  unfold S58
  refine box_open rfl fun n G hG hle hn => ?_
  have g0 : ldV false 1 (.ptr n 0 0 0) G = some (.d (.str x.1)) := ldV_at hG rfl rfl
  have g2 : ldV false 1 (.ptr n 0 0 2) G = some (.d (.int .i64 x.2.2)) := ldV_at hG rfl rfl
  have gu : ldV false 1 (.ptr u 0 0 0) G = some (.d (.str c)) := ldV_at (hle _ _ hu) rfl rfl
  have gv : ldV false 1 (.ptr v 0 0 0) G = some (.d (.int .i64 f)) := ldV_at (hle _ _ hv) rfl rfl
  simp only [ti62_f0, ti62_f2, Nat.zero_add, g0, g2, gu, gv, optA_some, strA_eql, intA_eql, strEq, ifA_ite, ret1_d]
  by_cases h1 : x.1 = c
  · simp only [h1, decide_true, if_true, ifA_t]
    refine ⟨_, le_refl', ?_⟩
    have := hk G hle
    simp only [isP, h1, true_and] at this
    exact this
  · simp only [h1, decide_false, Bool.false_eq_true, if_false, ifA_f]
    refine ⟨_, le_refl', ?_⟩
    have := hk G hle
    simp only [isP, h1, false_and, decide_false] at this
    exact this
end
end Go.Proofs.Ytmciomkibklokaa

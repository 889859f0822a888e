/- The example of the chapter: what an asker takes, and tells. -/
import Derived.Test.YtofjhihigmimbaaM10b
set_option autoImplicit false
set_option maxRecDepth 100000
set_option linter.unusedVariables false
set_option linter.unusedSimpArgs false
namespace Go.Proofs.Ytofjhihigmimbaa
open Go Go.AM Go.Proofs
theorem shr70 : intA .shr (.d (.int .i64 7)) (.d (.int .i64 0)) = some (.d (.int .i64 7)) := rfl
theorem shr61 : intA .shr (.d (.int .i64 6)) (.d (.int .i64 1)) = some (.d (.int .i64 3)) := rfl
theorem and71 : intA .and (.d (.int .i64 7)) (.d (.int .i64 1)) = some (.d (.int .i64 1)) := rfl
theorem and31 : intA .and (.d (.int .i64 3)) (.d (.int .i64 1)) = some (.d (.int .i64 1)) := rfl
theorem shl10 : intA .shl (.d (.int .i64 1)) (.d (.int .i64 0)) = some (.d (.int .i64 1)) := rfl
theorem shl11 : intA .shl (.d (.int .i64 1)) (.d (.int .i64 1)) = some (.d (.int .i64 2)) := rfl
theorem shl12 : intA .shl (.d (.int .i64 1)) (.d (.int .i64 2)) = some (.d (.int .i64 4)) := rfl
theorem shl14 : intA .shl (.d (.int .i64 1)) (.d (.int .i64 4)) = some (.d (.int .i64 16)) := rfl
theorem shl15 : intA .shl (.d (.int .i64 1)) (.d (.int .i64 5)) = some (.d (.int .i64 32)) := rfl
theorem shl16 : intA .shl (.d (.int .i64 1)) (.d (.int .i64 6)) = some (.d (.int .i64 64)) := rfl
theorem shl17 : intA .shl (.d (.int .i64 1)) (.d (.int .i64 7)) = some (.d (.int .i64 128)) := rfl
theorem an71 : intA .andNot (.d (.int .i64 7)) (.d (.int .i64 1)) = some (.d (.int .i64 6)) := rfl
theorem an62 : intA .andNot (.d (.int .i64 6)) (.d (.int .i64 2)) = some (.d (.int .i64 4)) := rfl
theorem an44 : intA .andNot (.d (.int .i64 4)) (.d (.int .i64 4)) = some (.d (.int .i64 0)) := rfl
theorem an08 : intA .andNot (.d (.int .i64 0)) (.d (.int .i64 8)) = some (.d (.int .i64 0)) := rfl
theorem an016 : intA .andNot (.d (.int .i64 0)) (.d (.int .i64 16)) = some (.d (.int .i64 0)) := rfl
theorem an032 : intA .andNot (.d (.int .i64 0)) (.d (.int .i64 32)) = some (.d (.int .i64 0)) := rfl
theorem an064 : intA .andNot (.d (.int .i64 0)) (.d (.int .i64 64)) = some (.d (.int .i64 0)) := rfl
theorem an0128 : intA .andNot (.d (.int .i64 0)) (.d (.int .i64 128)) = some (.d (.int .i64 0)) := rfl
theorem ix109_0 {p : Nat} : indexAddrA ti109 1 (.ptr p 0 0 7) (.d (.int .i64 0)) = some (.ptr p 0 0 7) := rfl
theorem ix109_1 {p : Nat} : indexAddrA ti109 1 (.ptr p 0 0 7) (.d (.int .i64 1)) = some (.ptr p 0 0 8) := rfl
theorem ix108_0 {p : Nat} : indexAddrA ti108 1 (.ptr p 0 0 15) (.d (.int .i64 0)) = some (.ptr p 0 0 15) := rfl
theorem ix108_1 {p : Nat} : indexAddrA ti108 1 (.ptr p 0 0 15) (.d (.int .i64 1)) = some (.ptr p 0 0 16) := rfl
theorem ix109_2 {p : Nat} : indexAddrA ti109 1 (.ptr p 0 0 7) (.d (.int .i64 2)) = some (.ptr p 0 0 9) := rfl
theorem ix108_2 {p : Nat} : indexAddrA ti108 1 (.ptr p 0 0 15) (.d (.int .i64 2)) = some (.ptr p 0 0 17) := rfl
theorem ix109_3 {p : Nat} : indexAddrA ti109 1 (.ptr p 0 0 7) (.d (.int .i64 3)) = some (.ptr p 0 0 10) := rfl
theorem ix108_3 {p : Nat} : indexAddrA ti108 1 (.ptr p 0 0 15) (.d (.int .i64 3)) = some (.ptr p 0 0 18) := rfl
theorem ix109_4 {p : Nat} : indexAddrA ti109 1 (.ptr p 0 0 7) (.d (.int .i64 4)) = some (.ptr p 0 0 11) := rfl
theorem ix108_4 {p : Nat} : indexAddrA ti108 1 (.ptr p 0 0 15) (.d (.int .i64 4)) = some (.ptr p 0 0 19) := rfl
theorem ix109_5 {p : Nat} : indexAddrA ti109 1 (.ptr p 0 0 7) (.d (.int .i64 5)) = some (.ptr p 0 0 12) := rfl
theorem ix108_5 {p : Nat} : indexAddrA ti108 1 (.ptr p 0 0 15) (.d (.int .i64 5)) = some (.ptr p 0 0 20) := rfl
theorem ix109_6 {p : Nat} : indexAddrA ti109 1 (.ptr p 0 0 7) (.d (.int .i64 6)) = some (.ptr p 0 0 13) := rfl
theorem ix108_6 {p : Nat} : indexAddrA ti108 1 (.ptr p 0 0 15) (.d (.int .i64 6)) = some (.ptr p 0 0 21) := rfl
theorem ix109_7 {p : Nat} : indexAddrA ti109 1 (.ptr p 0 0 7) (.d (.int .i64 7)) = some (.ptr p 0 0 14) := rfl
theorem ix108_7 {p : Nat} : indexAddrA ti108 1 (.ptr p 0 0 15) (.d (.int .i64 7)) = some (.ptr p 0 0 22) := rfl
def t1 : Tr := ⟨1, 0, 0, 0, false, false, false, false, [120]⟩
def t2 : Tr := ⟨1, 0, 0, 1, false, true, false, false, [121]⟩
abbrev T1 : List AV := [.d (.sl false (bs [120])), .d (.sl true []), .d (.sl true []), .d (.sl true []), .d (.sl true []), .d (.sl true []), .d (.sl true []), .d (.sl true []), .d (.bool true), .d (.bool false), .d (.bool false), .d (.bool false), .d (.bool false), .d (.bool false), .d (.bool false), .d (.bool false)]
abbrev T2 : List AV := [.d (.sl false (bs [120])), .d (.sl false (bs [121])), .d (.sl true []), .d (.sl true []), .d (.sl true []), .d (.sl true []), .d (.sl true []), .d (.sl true []), .d (.bool true), .d (.bool true), .d (.bool false), .d (.bool false), .d (.bool false), .d (.bool false), .d (.bool false), .d (.bool false)]
/-- The request, waiting for some pieces. -/
def xb (s b : Int) : As := ⟨false, [113], false, 4, s, b, 1, 0⟩
theorem take1_c {H : AHeap} {p : Nat} (hp : H p = some (xObj (xb 1 7) T0)) {K : AV → AHeap → Prop} (h : K (.tup []) (H.set p (xObj (xb 1 6) T1))) : CallsA Try.prog 71 [.ptr p 0 0 0, t1.av] H K := by
  apply C71
  unfold S71
  refine box_open rfl fun k G hG hle hk => ?_
  have hp' := hle _ _ hp
  have hpk := le_ne hp hk
  simp only [Tr.av, Tr.cells, As.cells, xb, t1] at hG hp' hp h ⊢
  simp only [nilCk_ptr, ti129_f4, ti24_f3, ti24_f7, ti24_f5, ti129_f7, ti129_f8, getM_of hp', getM_ne (Ne.symm hpk), getM_of hG, getM_set, shr70, and71, shl10, an71, decide_true, stoA_agg, stoA_get, stoM, setCells, and_self, true_and, Nat.le_refl, Nat.reduceLeDiff, List.cons_append, List.set_cons_zero, List.getElem?_cons_zero, go_sem]
  refine ⟨_, clone_c (by decide) (by decide) ⟨rfl, le_refl'⟩, ?_⟩
  simp only [nilCk_ptr, ti129_f4, ti24_f3, ti24_f7, ti24_f5, ti129_f7, ti129_f8, getM_of hp', getM_ne (Ne.symm hpk), getM_of hG, getM_set, ix109_0, ix108_0, stoA_agg, stoA_get, stoM, setCells, and_self, true_and, Nat.le_refl, Nat.reduceLeDiff, List.cons_append, List.set_cons_zero, List.getElem?_cons_zero, go_sem]
  exact ⟨hpk, _, le_same hle, h⟩
theorem take2_c {H : AHeap} {p : Nat} (hp : H p = some (xObj (xb 1 6) T1)) {K : AV → AHeap → Prop} (h : K (.tup []) (H.set p (xObj (xb 1 0) T2))) : CallsA Try.prog 71 [.ptr p 0 0 0, t2.av] H K := by
  apply C71
  unfold S71
  refine box_open rfl fun k G hG hle hk => ?_
  have hp' := hle _ _ hp
  have hpk := le_ne hp hk
  simp only [Tr.av, Tr.cells, As.cells, xb, t2] at hG hp' hp h ⊢
  simp only [nilCk_ptr, ti129_f4, ti24_f3, ti24_f7, ti24_f5, ti129_f7, ti129_f8, getM_of hp', getM_ne (Ne.symm hpk), getM_of hG, getM_set, shr61, and31, shl11, an62, decide_true, stoA_agg, stoA_get, stoM, setCells, and_self, true_and, Nat.le_refl, Nat.reduceLeDiff, List.cons_append, List.set_cons_zero, List.getElem?_cons_zero, go_sem]
  refine ⟨_, clone_c (by decide) (by decide) ⟨rfl, le_refl'⟩, ?_⟩
  simp only [nilCk_ptr, ti129_f4, ti24_f3, ti24_f7, ti24_f5, ti129_f7, ti129_f8, getM_of hp', getM_ne (Ne.symm hpk), getM_of hG, getM_set, ix109_1, ix108_1, stoA_agg, stoA_get, stoM, setCells, and_self, true_and, Nat.le_refl, Nat.reduceLeDiff, List.cons_append, List.set_cons_zero, List.getElem?_cons_zero, go_sem]
  refine ⟨hpk, ?_⟩
  have e2 : IntKind.i64.wrap (1 + 1) = 2 := rfl
  rw [e2]
  refine loop_ind (fun n vs G' => ∃ j : Int, 2 ≤ j ∧ j ≤ 8 ∧ n = (8 - j).toNat ∧ vs = [.ptr p 0 0 0, .d (.int .i64 j)] ∧ G' = G.set p (xObj (xb 1 (if j = 2 then 4 else 0)) T2)) (n := 6) ⟨2, by omega, by omega, rfl, rfl, rfl⟩ ?_
  rintro X n vs _ ⟨j, h2, h8, rfl, rfl, rfl⟩ hX
  by_cases hj : j = 8
  · subst hj
    simp only [List.getD_cons_succ, List.getD_cons_zero, go_sem]
    rw [if_neg (by decide)]
    exact ⟨_, le_same hle, h⟩
  · have hX' := hX (8 - (j + 1)).toNat _ _ (by omega) ⟨j + 1, by omega, by omega, rfl, rfl, rfl⟩
    have hw : IntKind.i64.wrap (j + 1) = j + 1 := wrap_i64 (by omega) (by omega)
    rw [if_neg (by omega)] at hX'
    have s3 : intA .shl (.d (.int .i64 1)) (.d (.int .i64 3)) = some (.d (.int .i64 8)) := rfl
    have hj2 : j = 2 ∨ j = 3 ∨ j = 4 ∨ j = 5 ∨ j = 6 ∨ j = 7 := by omega
    rcases hj2 with rfl | rfl | rfl | rfl | rfl | rfl <;>
    · simp only [List.getD_cons_succ, List.getD_cons_zero, go_sem]
      rw [if_pos (by decide)]
      simp only [List.getD_cons_succ, List.getD_cons_zero, Int.reduceEq, if_true, if_false, As.cells, xb, nilCk_ptr, ti129_f4, ti129_f7, ti129_f8, getM_set, shl12, s3, shl14, shl15, shl16, shl17, an44, an08, an016, an032, an064, an0128, ix109_2, ix109_3, ix109_4, ix109_5, ix109_6, ix109_7, ix108_2, ix108_3, ix108_4, ix108_5, ix108_6, ix108_7, hw, stoA_agg, stoA_get, stoM, setCells, and_self, true_and, Nat.le_refl, Nat.reduceLeDiff, List.cons_append, List.set_cons_zero, List.getElem?_cons_zero, go_sem]
      exact hX'
end Go.Proofs.Ytofjhihigmimbaa

/- Which frames there are. -/
import Derived.Test.YtegiocchfjgdbaaT11j
set_option autoImplicit false
set_option maxRecDepth 100000
set_option linter.unusedVariables false
set_option linter.unusedSimpArgs false
namespace Go.Proofs.Ytegiocchfjgdbaa
open Go Go.AM Go.Proofs
theorem k_bool {K : AV → AHeap → Prop} {H : AHeap} {b c : Bool} (h : K (.d (.bool b)) H) (e : c = b) : K (.d (.bool c)) H := e ▸ h
theorem ite_of {c : Prop} [Decidable c] {X Y : Prop} (h1 : c → X) (h2 : ¬ c → Y) : if c then X else Y := by
  by_cases h : c
  · rw [if_pos h]; exact h1 h
  · rw [if_neg h]; exact h2 h
/-- A join where all ways come with the same. -/
theorem jnX_one {R : List AV → AHeap → Prop} {B : (List AV → AHeap → Prop) → Prop} (vs : List AV) (H : AHeap) (h1 : R vs H) (h2 : ∀ X : List AV → AHeap → Prop, X vs H → B X) : jnX R B := fun X hX => h2 X (hX _ _ h1)
theorem jnX_if {R : List AV → AHeap → Prop} {B : (List AV → AHeap → Prop) → Prop} (C : Prop) (vs : List AV) (H : AHeap) (h1 : C → R vs H) (h2 : ∀ X : List AV → AHeap → Prop, (C → X vs H) → B X) : jnX R B := fun X hX => h2 X fun hc => hX _ _ (h1 hc)
theorem x1b {X : List AV → AHeap → Prop} {H : AHeap} {p : AV} {b c : Bool} (h : X [p, .d (.bool b)] H) (e : c = b) : X [p, .d (.bool c)] H := e ▸ h
theorem x2b {X : List AV → AHeap → Prop} {H : AHeap} {p q : AV} {b c : Bool} (h : X [p, q, .d (.bool b)] H) (e : c = b) : X [p, q, .d (.bool c)] H := e ▸ h
theorem x3b {X : List AV → AHeap → Prop} {H : AHeap} {p q r : AV} {b c : Bool} (h : X [p, q, r, .d (.bool b)] H) (e : c = b) : X [p, q, r, .d (.bool c)] H := e ▸ h
/-- A frame. -/
structure Fr where
  kind : Int
  id : Int
  seq : Int
  n : Int
  nl : Bool
  data : List UInt8
abbrev Fr.cells (f : Fr) : List AV := [.d (.int .i64 f.kind), .d (.int .i64 f.id), .d (.int .i64 f.seq), .d (.int .i64 f.n), .d (.sl f.nl (bs f.data))]
abbrev Fr.av (f : Fr) : AV := .agg f.cells
def Fr.Valid (f : Fr) : Prop := (0 ≤ f.id ∧ f.id ≤ 255) ∧ (0 ≤ f.seq ∧ f.seq ≤ 65535) ∧ (0 ≤ f.n ∧ f.n ≤ 2147483647) ∧ (f.data.length : Int) ≤ 500 ∧
  ((f.kind = 1 ∧ f.id = 0 ∧ (f.data.length : Int) = 0) ∨ (f.kind = 2 ∧ f.seq ≤ 2 ∧ (f.data.length : Int) = 0) ∨ ((f.kind = 3 ∨ f.kind = 4 ∨ f.kind = 12) ∧ f.seq = 0 ∧ f.n = 0 ∧ (f.data.length : Int) = 0) ∨ ((f.kind = 5 ∨ f.kind = 9) ∧ f.n = 0) ∨ (f.kind = 6 ∨ f.kind = 7) ∨ ((f.kind = 8 ∨ f.kind = 10) ∧ (f.data.length : Int) = 0) ∨ (f.kind = 11 ∧ f.n = 0 ∧ (f.data.length : Int) = 0))
instance (f : Fr) : Decidable f.Valid := by unfold Fr.Valid; exact inferInstance
theorem isNumber_c {n : Int} {H : AHeap} {K : AV → AHeap → Prop} (h : K (.d (.bool (decide (0 ≤ n ∧ n ≤ 2147483647)))) H) : CallsA Try.prog 28 [.d (.int .i64 n)] H K := by
  apply C28
  simp only [S28, go_sem]
  split <;> (rename_i h1; exact ⟨H, le_refl', by simpa [h1] using h⟩)
theorem valid_c {f : Fr} {H : AHeap} {K : AV → AHeap → Prop} (h : K (.d (.bool (decide f.Valid))) H) : CallsA Try.prog 5 [f.av] H K := by
  apply C5
  unfold S5
  refine box_open rfl fun k G hG hle hk => ?_
  repeat' first
    | (exact ⟨H, hle, k_bool h (by unfold Fr.Valid; first | (exact (decide_eq_false (by omega)).symm) | (exact decide_eq_decide.2 (by omega)) | (exact (decide_eq_true (by omega)).symm))⟩)
    | refine ite_of (fun _ => ?_) (fun _ => ?_)
    | simp only [getM_of hG, bs_length, ti24_f0, ti24_f1, ti24_f2, ti24_f3, ti24_f4, go_sem]
def Fr.D (f : Fr) : Prop := f.kind = 5 ∨ f.kind = 6 ∨ f.kind = 7 ∨ f.kind = 9
def Fr.N (f : Fr) : Prop := f.kind = 1 ∨ f.kind = 2 ∨ f.kind = 6 ∨ f.kind = 7 ∨ f.kind = 8 ∨ f.kind = 10
def Fr.S (f : Fr) : Prop := f.kind ≠ 3 ∧ f.kind ≠ 4 ∧ f.kind ≠ 12
def Fr.A (f : Fr) : Prop := (¬ f.D ∧ 0 < (f.data.length : Int)) ∨ (¬ f.N ∧ f.n ≠ 0) ∨ (¬ f.S ∧ f.seq ≠ 0)
instance (f : Fr) : Decidable f.D := by unfold Fr.D; exact inferInstance
instance (f : Fr) : Decidable f.N := by unfold Fr.N; exact inferInstance
instance (f : Fr) : Decidable f.S := by unfold Fr.S; exact inferInstance
instance (f : Fr) : Decidable f.A := by unfold Fr.A; exact inferInstance
def Fr.Rng (f : Fr) : Prop := (1 ≤ f.kind ∧ f.kind ≤ 12) ∧ (0 ≤ f.id ∧ f.id ≤ 255) ∧ (0 ≤ f.seq ∧ f.seq ≤ 65535) ∧ (0 ≤ f.n ∧ f.n ≤ 2147483647) ∧ (f.data.length : Int) ≤ 500
set_option maxHeartbeats 4000000 in
theorem rvalid_c {f : Fr} {H : AHeap} {K : AV → AHeap → Prop} (h : K (.d (.bool (decide f.Valid))) H) : CallsA Try.prog 6 [f.av] H K := by
  apply C6
  unfold S6
  refine box_open rfl fun k G hG hle hk => ?_
  refine jnX_if f.Rng [.ptr k 0 0 0] G (fun hr => ?_) fun X hX => ?_
  · unfold Fr.Rng at hr
    refine jnX_one [.ptr k 0 0 0, .d (.bool (decide f.D))] G ?_ fun X hX => ?_
    · refine jnX_one [.ptr k 0 0 0, .d (.bool (decide f.D)), .d (.bool (decide f.N))] G ?_ fun X hX => ?_
      · refine jnX_one [.ptr k 0 0 0, .d (.bool (decide f.D)), .d (.bool (decide f.N)), .d (.bool (decide f.S))] G ?_ fun X hX => ?_
        · refine jnX_one [.ptr k 0 0 0, .d (.bool (decide f.A))] G ?_ fun X hX => ?_
          · repeat' first
              | (exact ⟨H, hle, k_bool h (by simp only [Fr.A, Fr.D, Fr.N, Fr.S] at *; unfold Fr.Valid; first | (exact (decide_eq_false (by omega)).symm) | (exact decide_eq_decide.2 (by omega)) | (exact (decide_eq_true (by omega)).symm))⟩)
              | refine ite_of (fun _ => ?_) (fun _ => ?_)
              | simp only [List.getD_cons_succ, List.getD_cons_zero, getM_of hG, bs_length, ti24_f0, ti24_f1, ti24_f2, ti24_f3, ti24_f4, go_sem]
          · repeat' first
              | (exact x1b hX (by simp only [Fr.A, Fr.D, Fr.N, Fr.S] at *; first | (exact (decide_eq_false (by omega)).symm) | (exact decide_eq_decide.2 (by omega)) | (exact (decide_eq_true (by omega)).symm)))
              | refine ite_of (fun _ => ?_) (fun _ => ?_)
              | simp only [List.getD_cons_succ, List.getD_cons_zero, getM_of hG, bs_length, ti24_f0, ti24_f1, ti24_f2, ti24_f3, ti24_f4, go_sem]
        · repeat' first
            | (exact x3b hX (by unfold Fr.S; first | (exact (decide_eq_false (by omega)).symm) | (exact decide_eq_decide.2 (by omega)) | (exact (decide_eq_true (by omega)).symm)))
            | refine ite_of (fun _ => ?_) (fun _ => ?_)
            | simp only [List.getD_cons_succ, List.getD_cons_zero, getM_of hG, bs_length, ti24_f0, ti24_f1, ti24_f2, ti24_f3, ti24_f4, go_sem]
      · repeat' first
          | (exact x2b hX (by unfold Fr.N; first | (exact (decide_eq_false (by omega)).symm) | (exact decide_eq_decide.2 (by omega)) | (exact (decide_eq_true (by omega)).symm)))
          | refine ite_of (fun _ => ?_) (fun _ => ?_)
          | simp only [List.getD_cons_succ, List.getD_cons_zero, getM_of hG, bs_length, ti24_f0, ti24_f1, ti24_f2, ti24_f3, ti24_f4, go_sem]
    · repeat' first
        | (exact x1b hX (by unfold Fr.D; first | (exact (decide_eq_false (by omega)).symm) | (exact decide_eq_decide.2 (by omega)) | (exact (decide_eq_true (by omega)).symm)))
        | refine ite_of (fun _ => ?_) (fun _ => ?_)
        | simp only [List.getD_cons_succ, List.getD_cons_zero, getM_of hG, bs_length, ti24_f0, ti24_f1, ti24_f2, ti24_f3, ti24_f4, go_sem]
  · repeat' first
      | (exact hX (by unfold Fr.Rng; omega))
      | (exact ⟨H, hle, k_bool h (by unfold Fr.Valid; exact (decide_eq_false (by omega)).symm)⟩)
      | refine ite_of (fun _ => ?_) (fun _ => ?_)
      | (refine isNumber_c ?_; simp only [Bool.not_eq_true', decide_eq_false_iff_not, go_sem])
      | simp only [List.getD_cons_succ, List.getD_cons_zero, getM_of hG, bs_length, ti24_f0, ti24_f1, ti24_f2, ti24_f3, ti24_f4, go_sem]
end Go.Proofs.Ytegiocchfjgdbaa

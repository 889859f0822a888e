/- DesktopNils: the law. -/
import Derived.Test.YtmciomkibklokaaM23o
set_option autoImplicit false
set_option maxRecDepth 100000
set_option linter.unusedVariables false
set_option linter.unusedSimpArgs false
set_option linter.unnecessarySimpa false
namespace Go.Proofs.Ytmciomkibklokaa
open Go Go.AM Go.Proofs Go.RowKit
theorem nils_law {s : ByteArray} {n : Int} : CallsA Try.prog 5 [.d (.str s), .d (.int .i64 n)] noHeap fun v _ => v = .d (.bool true) := by
  apply C5
  unfold S5
  refine loop_ind (fun r vs G => ∃ (i : Nat) (p : AV), i ≤ 2 ∧ r = 2 - i ∧ Zb G p ∧ vs = [.d (.str s), .d (.int .i64 n), p, .d (.int .i64 i)]) (n := 2) ⟨0, .nilptr, by omega, rfl, .inl rfl, rfl⟩ ?_
  rintro X r vs G ⟨i, p, hi, rfl, hz, rfl⟩ hX
  simp only [List.getD_cons_succ, List.getD_cons_zero, intA_lss, optA_some, ifA_ite]
  have nt : ∀ {A B : Prop}, B → (if (7 : Int) ≠ 7 then A else B) := fun hb => by rw [if_neg (by decide)]; exact hb
  have nz : ∀ {A B : Prop}, B → (if (0 : Int) ≠ 0 then A else B) := fun hb => by rw [if_neg (by decide)]; exact hb
  refine ite_of (fun hlt => ?_) fun hlt => ?_
  · simp only [hz.frz, frzLK_d, frzLK_nil]
    refine Icon0_c hz ?_
    simp only [extractA_0, extractA_1, extractA_2, optA_some, hz.frz, frzLK_d, frzLK_nil]
    refine IconAt0_c hz ?_
    rw [show ∀ a b c d : AV, extractA (.tup [a, b, c, d]) 3 = some d from fun _ _ _ _ => rfl]
    simp only [extractA_0, extractA_1, extractA_2, optA_some, hz.frz, frzLK_d, frzLK_nil]
    refine Program0_c p hz ?_
    simp only [extractA_0, extractA_1, extractA_2, optA_some, hz.frz, frzLK_d, frzLK_nil]
    refine Comment0_c hz ?_
    simp only [extractA_0, extractA_1, extractA_2, optA_some, hz.frz, frzLK_d, frzLK_nil]
    refine Count0_c hz ?_
    simp only [extractA_0, extractA_1, extractA_2, optA_some, hz.frz, frzLK_d, frzLK_nil, intA_neq, ifA_ite]
    refine nt (nt (nt (nt (nz (nz (nz ?_))))))
    refine PutIcon0_c hz ?_
    simp only [optA_some, intA_neq, ifA_ite]
    refine nt ?_
    refine PutProgram0_c hz ?_
    simp only [optA_some, intA_neq, ifA_ite]
    refine nt ?_
    refine RemoveProgram0_c hz ?_
    simp only [optA_some, intA_neq, ifA_ite]
    refine nt ?_
    refine PutComment0_c hz ?_
    simp only [optA_some, intA_neq, ifA_ite]
    refine nt ?_
    refine RemoveComment0_c hz ?_
    simp only [optA_some, intA_neq, ifA_ite]
    refine nt ?_
    refine Forget0_c hz fun G2 hle => ?_
    have hz := hz.le hle
    simp only [optA_some, intA_neq, ifA_ite, hz.frz, frzLK_d, frzLK_nil]
    refine nt ?_
    refine Bytes0_c hz ?_
    simp only [lenSl_d, List.length_nil, intA_gtr, optA_some, ifA_ite]
    rw [if_neg (by decide)]
    refine Copy0_c hz ?_
    simp only [nilA, isNil, Bool.not_true, optA_some, ifA_f]
    simp only [bdA, frzAL_nil, List.zip_nil_left, List.zip_nil_right, bd55, fillA, Option.map_some, stepK_some, AHeap.sets]
    refine box_open rfl fun k G3 hG3 hle3 hk3 => ?_
    simp only [intA_add, optA_some]
    rw [wrap_i64 (by omega) (by omega)]
    exact hX (2 - (i + 1)) _ _ (by omega) ⟨i + 1, _, by omega, rfl, .inr ⟨k, _, _, rfl, hG3⟩, rfl⟩
  · simp only [frzLK_nilptr, frzLK_nil]
    refine Same0_c ?_
    simp only [ifA_t]
    exact first_end
theorem nils_row (xs : List Dat) (h : DatOk Try.prog 9 9 xs) (ys : List Dat) (h2 : DatOk Try.prog 9 3 ys) : CallsA Try.prog 5 [argAV (aggT Try.prog 9) xs, argAV (aggT Try.prog 3) ys] noHeap fun v _ => v = .d (.bool true) := by
  rw [datOk_str Try.underlying9] at h
  obtain ⟨s, rfl, _⟩ := h
  rw [datOk_int Try.underlying3] at h2
  obtain ⟨n, rfl, _⟩ := h2
  rw [show aggT Try.prog 9 = false by kernel_rfl, show aggT Try.prog 3 = false by kernel_rfl]
  exact nils_law
end Go.Proofs.Ytmciomkibklokaa

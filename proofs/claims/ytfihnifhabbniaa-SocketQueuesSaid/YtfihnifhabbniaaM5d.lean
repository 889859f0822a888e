/- The law of nodes that are nil, or zero. -/
import Derived.Test.YtfihnifhabbniaaM5c
set_option autoImplicit false
set_option maxRecDepth 100000
set_option linter.unusedVariables false
set_option linter.unusedSimpArgs false
namespace Go.Proofs.Ytfihnifhabbniaa
open Go Go.AM Go.Proofs
theorem addr_eq {a b c d : Int} : aggA Try.prog .eql 28 (.agg [.d (.int .i64 a), .d (.int .i64 b)]) (.agg [.d (.int .i64 c), .d (.int .i64 d)]) = some (.d (.bool (a == c && (b == d && true)))) := by kernel_rfl
theorem addr_neq {a b c d : Int} : aggA Try.prog .neq 28 (.agg [.d (.int .i64 a), .d (.int .i64 b)]) (.agg [.d (.int .i64 c), .d (.int .i64 d)]) = some (.d (.bool (!(a == c && (b == d && true))))) := by kernel_rfl
theorem nilPP_neq : nilA 3 .neq .nilptr .nilptr = some (.d (.bool false)) := rfl
theorem nils_law {s a b : Int} {c0 c1 c2 c3 c4 c5 c6 c7 c8 c9 : Dat} : CallsA Try.prog 9 [.d (.int .i64 s), .agg [.d (.int .i64 a), .d (.int .i64 b)], .agg [.d c0, .d c1, .d c2, .d c3, .d c4, .d c5, .d c6, .d c7, .d c8, .d c9]] noHeap fun v _ => v = .d (.bool true) := by
  apply C9
  unfold S9
  refine box_open rfl fun k1 G1 hG1 hle1 hk1 => ?_
  refine box_open rfl fun k2 G2 hG2 hle2 hk2 => ?_
  have hG1' := hle2 _ _ hG1
  simp only [AV.cells] at hG1' hG2
  refine loop_ind (fun r vs H' => ∃ (i : Int) (v : AV), 0 ≤ i ∧ i ≤ 2 ∧ r = (2 - i).toNat ∧ AHeap.le G2 H' ∧ NN H' v ∧ vs = [.d (.int .i64 s), .ptr k1 0 0 0, .ptr k2 0 0 0, v, .d (.int .i64 i)]) (n := 2)
    ⟨0, .nilptr, by omega, by omega, rfl, le_refl', .inl rfl, rfl⟩ ?_
  rintro X r vs H' ⟨i, v, hi1, hi2, rfl, hleH, hN, rfl⟩ hX
  have m1 := hleH _ _ hG1'
  have m2 := hleH _ _ hG2
  simp only [List.getD_cons_succ, List.getD_cons_zero, go_sem]
  split
  · rename_i hlt
    simp only [hN.lk, go_sem]
    refine openN hN ?_
    simp only [getM_of m1, hN.lk, go_sem]
    refine sendN hN ?_
    simp only [go_sem]
    refine alloc_open fun k3 G3 hG3 hle3 hk3 => ?_
    have e3 := le_ne m2 hk3
    have e3' := le_ne m1 hk3
    simp only [zp, getM_of hG3, getM_of (hle3 _ _ m2), getM_of (hle3 _ _ m1), e3, e3', hN.lk, stoA_agg, stoA_get, stoM, setCells, and_self, true_and, Nat.le_refl, Nat.reduceLeDiff, List.cons_append, List.set_cons_zero, List.getElem?_cons_zero, go_sem]
    generalize hX3 : G3.set k3 _ = X3
    have hl3 : AHeap.le H' X3 := by rw [← hX3]; exact set_le hle3 hk3
    clear hX3
    refine takeN (hN.le hl3) ?_
    simp only [go_sem]
    refine alloc_open fun k4 G4 hG4 hle4 hk4 => ?_
    simp only [zp, getM_of hG4, hN.lk, stoA_agg, stoA_get, stoM, setCells, and_self, true_and, Nat.le_refl, Nat.reduceLeDiff, List.cons_append, List.set_cons_zero, List.getElem?_cons_zero, go_sem]
    generalize hX4 : G4.set k4 _ = X4
    have hl4 : AHeap.le X3 X4 := by rw [← hX4]; exact set_le hle4 hk4
    clear hX4
    have hl34 := le_trans' hl3 hl4
    refine nextN (hN.le hl34) ?_
    simp only [go_sem]
    refine alloc_open fun k5 G5 hG5 hle5 hk5 => ?_
    simp only [zp, getM_of hG5, hN.lk, stoA_agg, stoA_get, stoM, setCells, and_self, true_and, Nat.le_refl, Nat.reduceLeDiff, List.cons_append, List.set_cons_zero, List.getElem?_cons_zero, go_sem]
    generalize hX5 : G5.set k5 _ = X5
    have hl5 : AHeap.le X4 X5 := by rw [← hX5]; exact set_le hle5 hk5
    clear hX5
    have hl35 := le_trans' hl34 hl5
    have hN5 := hN.le hl35
    simp only [ne_eq, not_true_eq_false, Bool.false_eq_true, if_false, hN.lk, getM_of (hl35 _ _ m1), go_sem]
    refine closeN hN5 ?_
    simp only [ne_eq, not_true_eq_false, Bool.false_eq_true, if_false, hN.lk, getM_of (hl35 _ _ m1), go_sem]
    refine moveN hN5 ?_
    simp only [ne_eq, not_true_eq_false, Bool.false_eq_true, if_false, hN.lk, go_sem]
    refine waitingN hN5 ?_
    simp only [ne_eq, not_true_eq_false, Bool.false_eq_true, if_false, hN.lk, go_sem]
    refine socketsN hN5 ?_
    simp only [ne_eq, not_true_eq_false, Bool.false_eq_true, if_false, Int.reduceLT, hN.lk, List.length_nil, go_sem]
    rw [if_neg (show ¬ (0 : Int) < ((0 : Nat) : Int) by omega)]
    refine atN hN5 ?_
    simp only [bd28, cell3, addr_neq, beq_self_eq_true, Bool.and_self, Bool.not_true, Bool.false_eq_true, if_false, hN.lk, bdA, fillA, setCells, List.zip_cons_cons, List.zip_nil_right, List.zip_nil_left, Option.map_some, and_self, Nat.le_refl, Nat.reduceLeDiff, List.cons_append, go_sem]
    refine copyN hN5 ?_
    simp only [nilPP_neq, Bool.false_eq_true, if_false, bd72, cell28, cell70, bdA, fillA, setCells, List.zip_cons_cons, List.zip_nil_right, List.zip_nil_left, Option.map_some, and_self, Nat.le_refl, Nat.reduceLeDiff, List.cons_append, go_sem]
    refine box_open rfl fun k6 G6 hG6 hle6 hk6 => ?_
    simp only [AV.cells] at hG6
    rw [wrap_i64 (by omega) (by omega)]
    exact hX _ _ _ (by omega) ⟨i + 1, .ptr k6 0 0 0, by omega, by omega, rfl, le_trans' hleH (le_trans' hl35 hle6), .inr ⟨k6, rfl, hG6⟩, rfl⟩
  · try simp only [go_sem]
    refine sameN ?_
    try simp only [if_true, go_sem]
    exact first_end
theorem addr_open {xs : List Dat} (h : DatOk Try.prog 9 28 xs) : ∃ a b, argAV (aggT Try.prog 28) xs = .agg [.d (.int .i64 a), .d (.int .i64 b)] ∧ (-9223372036854775808 ≤ a ∧ a ≤ 9223372036854775807) ∧ (-9223372036854775808 ≤ b ∧ b ≤ 9223372036854775807) := by
  rw [datOk_struct Try.underlying28] at h
  simp only [datFs_cons, datFs_nil, datOk_int Try.underlying3] at h
  obtain ⟨_, _, rfl, ⟨a, rfl, wa⟩, _, _, rfl, ⟨b, rfl, wb⟩, rfl⟩ := h
  refine ⟨a, b, ?_, bounds_i64 wa, bounds_i64 wb⟩
  rw [show aggT Try.prog 28 = true by kernel_rfl]
  rfl
theorem pk_open {xs : List Dat} (h : DatOk Try.prog 9 36 xs) : ∃ c0 c1 c2 c3 c4 c5 c6 c7 c8 c9, argAV (aggT Try.prog 36) xs = .agg [.d c0, .d c1, .d c2, .d c3, .d c4, .d c5, .d c6, .d c7, .d c8, .d c9] := by
  rw [datOk_struct Try.underlying36] at h
  simp only [datFs_cons, datFs_nil] at h
  obtain ⟨x0, y0, rfl, h0, x1, y1, rfl, h1, x2, y2, rfl, h2, x3, y3, rfl, h3, x4, y4, rfl, h4, x5, y5, rfl, h5, x6, y6, rfl, h6, x7, y7, rfl, h7, rfl⟩ := h
  simp only [datOk_int Try.underlying3, datOk_struct Try.underlying28, datOk_slice Try.underlying22, datOk_bool Try.underlying4, datFs_cons, datFs_nil] at h0 h1 h2 h3 h4 h5 h6 h7
  obtain ⟨a0, rfl, w0⟩ := h0
  obtain ⟨_, _, rfl, ⟨a1, rfl, w1⟩, _, _, rfl, ⟨a2, rfl, w2⟩, rfl⟩ := h1
  obtain ⟨_, _, rfl, ⟨a3, rfl, w3⟩, _, _, rfl, ⟨a4, rfl, w4⟩, rfl⟩ := h2
  obtain ⟨a5, rfl, w5⟩ := h3
  obtain ⟨a6, rfl, w6⟩ := h4
  obtain ⟨a7, rfl, w7⟩ := h5
  obtain ⟨nl, l, rfl, hnl, hl, hlen⟩ := h6
  obtain ⟨b, rfl⟩ := h7
  rw [show aggT Try.prog 36 = true by kernel_rfl]
  exact ⟨_, _, _, _, _, _, _, _, _, _, rfl⟩
theorem nils_row (xs : List Dat) (h : DatOk Try.prog 9 3 xs) (ys : List Dat) (h2 : DatOk Try.prog 9 28 ys) (zs : List Dat) (h3 : DatOk Try.prog 9 36 zs) : CallsA Try.prog 9 [argAV (aggT Try.prog 3) xs, argAV (aggT Try.prog 28) ys, argAV (aggT Try.prog 36) zs] noHeap fun v _ => v = .d (.bool true) := by
  rw [datOk_int Try.underlying3] at h
  obtain ⟨n, rfl, hw⟩ := h
  obtain ⟨a, b, hab, _⟩ := addr_open h2
  obtain ⟨c0, c1, c2, c3, c4, c5, c6, c7, c8, c9, hc⟩ := pk_open h3
  rw [hab, hc, show aggT Try.prog 3 = false by kernel_rfl]
  exact nils_law
end Go.Proofs.Ytfihnifhabbniaa

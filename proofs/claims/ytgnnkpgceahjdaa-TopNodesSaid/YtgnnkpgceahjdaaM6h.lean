/- A fast link: a whole step (nobody asks, and nobody has hints). -/
import Derived.Test.YtgnnkpgceahjdaaM6g
set_option autoImplicit false
set_option maxRecDepth 100000
set_option linter.unusedVariables false
set_option linter.unusedSimpArgs false
set_option linter.unnecessarySimpa false
namespace Go.Proofs.Ytgnnkpgceahjdaa
open Go Go.AM Go.Proofs
section
variable {H G : AHeap} {k : Nat} {sv : AV} {ids : List Nat} {sts : List Pt} {f : Int} {K : AV → AHeap → Prop}
theorem n00 : ¬ (((0 : Int)) < ((0 : Nat) : Int)) := by decide
theorem idxA_c {c : List AV} {g : Nat} (hk : K (.d (.int .i64 (-1))) H) : CallsA Try.prog 223 [.d (.sl true []), .func g [] c] H K := by
  apply C223
  unfold S223
  simp only [lenSl_d, List.length_nil, optA_some]
  refine loop_ind (fun n vs G => vs = [.d (.sl true []), .func g [] c, .d (.int .i64 ((0 : Nat) : Int)), .d (.int .i64 0)] ∧ G = H) (n := 0) ⟨rfl, rfl⟩ ?_
  rintro X n vs G ⟨rfl, rfl⟩ hX
  simp only [List.getD_cons_succ, List.getD_cons_zero, intA_lss, n00, decide_false, optA_some, ifA_f]
  simp only [go_sem]
  exact ⟨_, le_refl', hk⟩
theorem idxH_c {c : List AV} {g : Nat} (hk : K (.d (.int .i64 (-1))) H) : CallsA Try.prog 203 [.d (.sl true []), .func g [] c] H K := by
  apply C203
  unfold S203
  simp only [lenSl_d, List.length_nil, optA_some]
  refine loop_ind (fun n vs G => vs = [.d (.sl true []), .func g [] c, .d (.int .i64 ((0 : Nat) : Int)), .d (.int .i64 0)] ∧ G = H) (n := 0) ⟨rfl, rfl⟩ ?_
  rintro X n vs G ⟨rfl, rfl⟩ hX
  simp only [List.getD_cons_succ, List.getD_cons_zero, intA_lss, n00, decide_false, optA_some, ifA_f]
  simp only [go_sem]
  exact ⟨_, le_refl', hk⟩
theorem delA_c {c : List AV} {g : Nat} (hk : K (.d (.sl true [])) H) : CallsA Try.prog 200 [.d (.sl true []), .func g [] c] H K := by
  apply C200
  unfold S200
  simp only [frzLK_d, frzLK_func, frzLK_nil]
  refine idxA_c ?_
  simp only [intA_eql, decide_true, optA_some, ifA_t]
  simp only [go_sem]
  exact ⟨_, le_refl', hk⟩
theorem delH_c {c : List AV} {g : Nat} (hk : K (.d (.sl true [])) H) : CallsA Try.prog 159 [.d (.sl true []), .func g [] c] H K := by
  apply C159
  unfold S159
  simp only [frzLK_d, frzLK_func, frzLK_nil]
  refine idxH_c ?_
  simp only [intA_eql, decide_true, optA_some, ifA_t]
  simp only [go_sem]
  exact ⟨_, le_refl', hk⟩
theorem same67 {q : Nat} {s : Pt} (h : H q = some (pObj s)) : stoA false 1 (.ptr q 0 0 6) (.d (.sl true [])) H = some (.junk, [(q, pObj s)]) ∧ stoA false 1 (.ptr q 0 0 7) (.d (.sl true [])) H = some (.junk, [(q, pObj s)]) ∧ H.set q (pObj s) = H :=
  ⟨st8 h (show 6 < 8 by decide) rfl rfl, st8 h (show 7 < 8 by decide) rfl rfl, set_id h⟩
theorem ask_c (h : LinkAt H k sv ids sts f) (hk : ∀ H', AHeap.le H H' → K (.tup []) H') : CallsA Try.prog 158 [.ptr k 0 0 0] H K := by
  apply C158
  unfold S158
  have hn := h.sts.n40
  obtain ⟨_, _, _, l3, _⟩ := h.ld
  simp only [nilCk_ptr, ti159_f3, Nat.zero_add, l3, h.sts.lenS, optA_some]
  refine loop_ind (fun n vs G => ∃ (j : Nat) (b c d e : AV), j ≤ sts.length ∧ n = sts.length - j ∧ vs = [.ptr k 0 0 0, .d (.sl true []), b, c, sv, .d (.int .i64 sts.length), .d (.int .i64 (j : Int)), d, e, .junk, .junk, .junk, .junk, .junk, .junk] ∧ G = H) (n := sts.length) ⟨0, _, _, _, _, Nat.zero_le _, rfl, rfl, rfl⟩ ?_
  rintro X n vs G ⟨j, b, c, d, e, hj, rfl, rfl, rfl⟩ hX
  by_cases hjl : j = sts.length
  · subst hjl
    simp only [List.getD_cons_succ, List.getD_cons_zero, intA_lss, Int.lt_irrefl, decide_false, optA_some, ifA_f, lenSl_d, List.length_nil]
    refine loop_ind (fun n vs G' => vs = [.ptr k 0 0 0, .d (.sl true []), b, c, sv, .d (.int .i64 sts.length), .d (.int .i64 (sts.length : Int)), d, e, .d (.sl true []), .d (.int .i64 ((0 : Nat) : Int)), .d (.int .i64 0), .junk, .junk, .junk] ∧ G' = G) (n := 0) ⟨rfl, rfl⟩ ?_
    rintro X2 n vs G2 ⟨rfl, rfl⟩ hX2
    simp only [List.getD_cons_succ, List.getD_cons_zero, intA_lss, n00, decide_false, optA_some, ifA_f, nilCk_ptr, ti159_f3, Nat.zero_add, l3, h.sts.lenS]
    refine loop_ind (fun n vs G' => ∃ j : Nat, j ≤ sts.length ∧ n = sts.length - j ∧ vs = [.ptr k 0 0 0, .d (.sl true []), b, c, sv, .d (.int .i64 sts.length), .d (.int .i64 (sts.length : Int)), d, e, .d (.sl true []), .d (.int .i64 ((0 : Nat) : Int)), .d (.int .i64 0), sv, .d (.int .i64 sts.length), .d (.int .i64 (j : Int))] ∧ AHeap.le G2 G') (n := sts.length) ⟨0, Nat.zero_le _, rfl, rfl, le_refl'⟩ ?_
    rintro X3 n vs G3 ⟨j, hj, rfl, rfl, hle⟩ hX3
    by_cases hjl : j = sts.length
    · subst hjl
      simp only [List.getD_cons_succ, List.getD_cons_zero, intA_lss, Int.lt_irrefl, decide_false, optA_some, ifA_f]
      simp only [go_sem]
      exact ⟨_, le_refl', hk G3 hle⟩
    · have hj' : j < sts.length := by omega
      have hlt : (j : Int) < (sts.length : Int) := by omega
      have hL := h.le hle
      obtain ⟨p, e1, e2⟩ := hL.sts.ix hj'
      have e3 := hL.sts.obj j hj'
      have hw : IntKind.i64.wrap ((j : Int) + 1) = ((j + 1 : Nat) : Int) := by rw [wrap_i64 (by omega) (by omega)]; omega
      simp only [List.getD_cons_succ, List.getD_cons_zero, intA_lss, hlt, decide_true, optA_some, ifA_t, e1, e2]
      generalize ids.getD j 0 = q at *
      generalize sts.getD j default = s at *
      refine alloc_open fun u G4 hG4 hle4 hu => ?_
      have st : stoA false 1 (.ptr u 0 0 0) (.ptr q 0 0 0) G4 = some (.junk, [(u, .mem 0 0 1 [[.ptr q 0 0 0]])]) := stoA_at hG4 (Nat.le_refl 0) rfl (by simp) rfl rfl
      have lu : ldV false 1 (.ptr u 0 0 0) (G4.set u (.mem 0 0 1 [[.ptr q 0 0 0]])) = some (.ptr q 0 0 0) := ldV_at set_self rfl rfl
      have qu : q ≠ u := le_ne e3 hu
      have e5 : (G4.set u (.mem 0 0 1 [[.ptr q 0 0 0]])) q = some (pObj s) := by rw [set_ne qu]; exact hle4 _ _ e3
      obtain ⟨_, _, _, _, _, q6, _⟩ := ld169 e5
      obtain ⟨s6, _, sid⟩ := same67 e5
      have hle5 : AHeap.le G3 (G4.set u (.mem 0 0 1 [[.ptr q 0 0 0]])) := fun x ox hx => by rw [set_ne (le_ne hx hu)]; exact hle4 _ _ hx
      simp only [st, stepK_some, sets_cons, sets_nil', drA_true, lu, optA_some, nilCk_ptr, ti169_f5, Nat.zero_add, q6, rsOf_d, rsOf_func, ap_nil, aggL_d, aggL_func, noRsA_nil, true_and, frzLK_d, frzLK_func, frzLK_nil]
      refine ⟨_, delA_c ⟨rfl, le_refl'⟩, ?_⟩
      simp only [aggL_d, noRsA_nil, s6, stepK_some, sets_cons, sets_nil', sid, intA_add, hw, optA_some]
      exact hX3 (sts.length - (j + 1)) _ _ (by omega) ⟨j + 1, by omega, rfl, rfl, le_trans' hle hle5⟩
  · have hj' : j < sts.length := by omega
    have hlt : (j : Int) < (sts.length : Int) := by omega
    obtain ⟨p, e1, e2⟩ := h.sts.ix hj'
    have e3 := h.sts.obj j hj'
    obtain ⟨_, _, _, _, _, q6, _⟩ := ld169 e3
    have hw : IntKind.i64.wrap ((j : Int) + 1) = ((j + 1 : Nat) : Int) := by rw [wrap_i64 (by omega) (by omega)]; omega
    simp only [List.getD_cons_succ, List.getD_cons_zero, intA_lss, hlt, decide_true, optA_some, ifA_t, e1, e2, nilCk_ptr, ti169_f5, Nat.zero_add, q6, lenSl_d, List.length_nil]
    refine loop_ind (fun n vs G' => vs = [.ptr k 0 0 0, .d (.sl true []), .d (.int .i64 (j : Int)), .ptr (ids.getD j 0) 0 0 0, sv, .d (.int .i64 sts.length), .d (.int .i64 (j : Int)), .d (.int .i64 ((0 : Nat) : Int)), .d (.int .i64 0), .junk, .junk, .junk, .junk, .junk, .junk] ∧ G' = G) (n := 0) ⟨rfl, rfl⟩ ?_
    rintro X2 n vs G2 ⟨rfl, rfl⟩ hX2
    simp only [List.getD_cons_succ, List.getD_cons_zero, intA_lss, n00, decide_false, optA_some, ifA_f, intA_add, hw]
    exact hX (sts.length - (j + 1)) _ _ (by omega) ⟨j + 1, _, _, _, _, by omega, rfl, rfl, rfl⟩
theorem pStep_c (h : LinkAt H k sv ids sts f) (hk : ∀ H' sts' f', LinkAt H' k sv ids sts' f' → PStep sts sts' → (∀ i, (H i).isSome → ¬ foot k sv ids i → H' i = H i) → K (.d (.int .i64 0)) H') : CallsA Try.prog 81 [.ptr k 0 0 0] H K := by
  apply C81
  unfold S81
  simp only [frzLK_ptr, frzLK_nil]
  refine pnone_c h ?_
  try simp only [ifA_f, frzLK_ptr, frzLK_nil]
  refine probe_c h fun H1 sts1 f1 h1 hs hfr => ?_
  try simp only [frzLK_ptr, frzLK_nil]
  refine ask_c h1 fun H2 hle => ?_
  have h2 := h1.le hle
  have hn := h2.sts.n40
  obtain ⟨_, _, _, l3, _⟩ := h2.ld
  have hfr2 : ∀ i, (H i).isSome → ¬ foot k sv ids i → H2 i = H i := fun i hi hni => by
    obtain ⟨o, ho⟩ := Option.isSome_iff_exists.1 hi
    rw [← hfr i hi hni] at ho ⊢
    rw [hle i o ho, ho]
  simp only [nilCk_ptr, ti159_f3, Nat.zero_add, l3, h2.sts.lenS, optA_some]
  refine loop_ind (fun n vs G => ∃ (j : Nat) (a b c : AV), j ≤ sts1.length ∧ n = sts1.length - j ∧ vs = [a, sv, .d (.int .i64 sts1.length), .d (.int .i64 (j : Int)), b, c] ∧ G = H2) (n := sts1.length) ⟨0, _, _, _, Nat.zero_le _, rfl, rfl, rfl⟩ ?_
  rintro X n vs G ⟨j, a, b, c, hj, rfl, rfl, rfl⟩ hX
  by_cases hjl : j = sts1.length
  · subst hjl
    simp only [List.getD_cons_succ, List.getD_cons_zero, intA_lss, Int.lt_irrefl, decide_false, optA_some, ifA_f]
    simp only [go_sem]
    exact ⟨_, le_refl', hk G sts1 f1 h2 hs hfr2⟩
  · have hj' : j < sts1.length := by omega
    have hlt : (j : Int) < (sts1.length : Int) := by omega
    obtain ⟨p, e1, e2⟩ := h2.sts.ix hj'
    have e3 := h2.sts.obj j hj'
    obtain ⟨_, _, _, _, _, _, q7⟩ := ld169 e3
    obtain ⟨_, s7, sid⟩ := same67 e3
    have hw : IntKind.i64.wrap ((j : Int) + 1) = ((j + 1 : Nat) : Int) := by rw [wrap_i64 (by omega) (by omega)]; omega
    simp only [List.getD_cons_succ, List.getD_cons_zero, intA_lss, hlt, decide_true, optA_some, ifA_t, e1, e2, nilCk_ptr, ti169_f6, Nat.zero_add, q7, lenSl_d, List.length_nil]
    refine loop_ind (fun n vs G' => vs = [.ptr (ids.getD j 0) 0 0 0, sv, .d (.int .i64 sts1.length), .d (.int .i64 (j : Int)), .d (.int .i64 ((0 : Nat) : Int)), .d (.int .i64 0)] ∧ G' = G) (n := 0) ⟨rfl, rfl⟩ ?_
    rintro X2 n vs G2 ⟨rfl, rfl⟩ hX2
    simp only [List.getD_cons_succ, List.getD_cons_zero, intA_lss, n00, decide_false, optA_some, ifA_f, nilCk_ptr, ti169_f6, Nat.zero_add, q7, frzLK_d, frzLK_func, frzLK_nil]
    refine delH_c ?_
    simp only [s7, stepK_some, sets_cons, sets_nil', sid, intA_add, hw, optA_some]
    exact hX (sts1.length - (j + 1)) _ _ (by omega) ⟨j + 1, _, _, _, by omega, rfl, rfl, rfl⟩
end
end Go.Proofs.Ytgnnkpgceahjdaa

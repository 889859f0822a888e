/- A bus: on and off, guesses, clashes; an empty bus of the document. -/
import Derived.Test.YtadpakkenokilaaM2g
import Derived.Test.YtadpakkenokilaaM2h
import Derived.Test.YtadpakkenokilaaT2a
import Derived.Test.YtadpakkenokilaaA28
set_option autoImplicit false
set_option maxRecDepth 100000
set_option linter.unusedVariables false
set_option linter.unusedSimpArgs false
set_option linter.unnecessarySimpa false
namespace Go.Proofs.Ytadpakkenokilaa
open Go Go.AM Go.Proofs
theorem ite_of {c : Prop} [Decidable c] {a b : Prop} (h1 : c → a) (h2 : ¬ c → b) : if c then a else b := by
  by_cases h : c
  · rw [if_pos h]; exact h1 h
  · rw [if_neg h]; exact h2 h
section
variable {H G : AHeap} {k w : Nat} {ln : Bool} {lost : List Int} {sv : AV} {ids : List Nat} {sts : List St} {f : Int} {K : AV → AHeap → Prop}
theorem ld68 {q : Nat} {s : St} (h : H q = some (sObj s)) : ldV false 1 (.ptr q 0 0 1) H = some (.d (.bool s.on)) ∧ ldV false 1 (.ptr q 0 0 2) H = some (.d (.int .i64 s.state)) ∧ ldV false 1 (.ptr q 0 0 5) H = some (.d (.int .i64 s.node)) :=
  ⟨ldV_at h rfl rfl, ldV_at h rfl rfl, ldV_at h rfl rfl⟩
theorem Turn_c (h : BusAt H k ln lost sv ids sts f) {i : Int} {o : Bool} (h1 : ¬ (0 ≤ i ∧ i < sts.length) → K (.d (.int .i64 2)) H) (h2 : ∀ j : Nat, j < sts.length → i = j → ∀ H', BusAt H' k ln lost sv ids (sts.set j ((sts.getD j default).turn o)) f → (∀ x, ¬ foot k sv ids x → H' x = H x) → K (.d (.int .i64 0)) H') : CallsA Try.prog 24 [.ptr k 0 0 0, .d (.int .i64 i), .d (.bool o)] H K := by
  apply C24
  unfold S24
  simp only [frzLK_ptr, frzLK_d, frzLK_nil]
  refine asked_c h ?_
  by_cases hi : 0 ≤ i ∧ i < sts.length
  · obtain ⟨j, rfl⟩ : ∃ j : Nat, i = j := ⟨i.toNat, by omega⟩
    have hj : j < sts.length := by omega
    obtain ⟨p, e1, e2⟩ := h.sts.ix hj
    have e3 := h.sts.obj j hj
    have hput := h.put hj ((h.sts.okj hj).turn o)
    have hmem := h.sts.mem hj
    have k2 := h2 j hj rfl
    clear h2
    have hid : sts.set j (sts.getD j default) = sts := by
      rw [List.getD_eq_getElem?_getD, List.getElem?_eq_getElem hj]
      exact List.set_getElem_self hj
    rw [if_pos hi]
    generalize ids.getD j 0 = q at *
    generalize hs : sts.getD j default = s at *
    have lv : ldV false 1 (.ptr k 0 0 2) H = some sv := ldV_at h.node rfl rfl
    obtain ⟨lo, _, _⟩ := ld68 e3
    simp only [intA_neq, Int.reduceEq, Int.reduceNe, Int.reduceLT, Int.reduceLE, not_true_eq_false, not_false_eq_true, decide_true, decide_false, Int.reduceAdd, Int.reduceSub, Int.reduceMul, optA_some, ifA_f, nilCk_ptr, ti52_f2, Nat.zero_add, lv, e1, e2, ti68_f1, ti68_f2, lo, boolA_neq, ne_eq]
    by_cases hb : s.on = o
    · have ht : s.turn o = s := by unfold St.turn; rw [if_pos hb]
      rw [ht, hid] at k2
      subst hb
      simp only [beq_self_eq_true, Bool.not_true, ifA_f, go_sem]
      exact ⟨_, le_refl', k2 H h fun _ _ => rfl⟩
    · have ht : s.turn o = { s with on := o, state := 0 } := by unfold St.turn; rw [if_neg hb]
      rw [ht] at k2 hput
      have hb' : (s.on == o) = false := by simpa using hb
      have st1 : stoA false 1 (.ptr q 0 0 1) (.d (.bool o)) H = some (.junk, [(q, sObj { s with on := o })]) := stoA_at e3 (Nat.le_refl 0) rfl (show 1 < 6 by decide) rfl rfl
      have st2 : stoA false 1 (.ptr q 0 0 2) (.d (.int .i64 0)) (H.set q (sObj { s with on := o })) = some (.junk, [(q, sObj { s with on := o, state := 0 })]) := stoA_at (l := [St.cells { s with on := o }]) (cs := St.cells { s with on := o }) (esz := 6) (fro := 0) set_self (Nat.le_refl 0) rfl (show 2 < 6 by decide) rfl rfl
      simp only [hb', Bool.not_false, ifA_t, st1, stepK_some, sets_cons, sets_nil', st2, set_set]
      simp only [go_sem]
      exact ⟨_, le_refl', k2 _ hput fun x hx => set_ne fun he => hx (.inr (.inr (he ▸ hmem)))⟩
  · rw [if_neg hi]
    simp only [intA_neq, Int.reduceEq, Int.reduceNe, Int.reduceLT, Int.reduceLE, not_true_eq_false, not_false_eq_true, decide_true, decide_false, Int.reduceAdd, Int.reduceSub, Int.reduceMul, go_sem]
    exact ⟨_, le_refl', h1 hi⟩
theorem GuessAny_c (h : BusAt H k ln lost sv ids sts f) {i : Int} (h1 : ∀ n : Int, K (.d (.int .i64 n)) H) (h2 : ∀ j : Nat, j < sts.length → (sts.getD j default).on = true → ∀ H', BusAt H' k ln lost sv ids (sts.set j (sts.getD j default).begin) f → (∀ x, ¬ foot k sv ids x → H' x = H x) → K (.d (.int .i64 0)) H') : CallsA Try.prog 13 [.ptr k 0 0 0, .d (.int .i64 i)] H K := by
  by_cases hi : 0 ≤ i ∧ i < sts.length
  · obtain ⟨j, rfl⟩ : ∃ j : Nat, i = j := ⟨i.toNat, by omega⟩
    have hj : j < sts.length := by omega
    cases hon : (sts.getD j default).on with
    | true => exact Guess_c h hj hon (h2 j hj hon)
    | false =>
      apply C13
      unfold S13
      simp only [frzLK_ptr, frzLK_d, frzLK_nil]
      refine asked_c h ?_
      obtain ⟨p, e1, e2⟩ := h.sts.ix hj
      have e3 := h.sts.obj j hj
      rw [if_pos hi]
      have lv : ldV false 1 (.ptr k 0 0 2) H = some sv := ldV_at h.node rfl rfl
      obtain ⟨lo, _, _⟩ := ld68 e3
      simp only [intA_neq, Int.reduceEq, Int.reduceNe, Int.reduceLT, Int.reduceLE, not_true_eq_false, not_false_eq_true, decide_true, decide_false, Int.reduceAdd, Int.reduceSub, Int.reduceMul, optA_some, ifA_f, nilCk_ptr, ti52_f2, Nat.zero_add, lv, e1, e2, ti68_f1, lo, hon, unA_not, Bool.not_false, ifA_t, ne_eq]
      simp only [go_sem]
      exact ⟨_, le_refl', h1 _⟩
  · apply C13
    unfold S13
    simp only [frzLK_ptr, frzLK_d, frzLK_nil]
    refine asked_c h ?_
    rw [if_neg hi]
    simp only [intA_neq, Int.reduceEq, Int.reduceNe, Int.reduceLT, Int.reduceLE, not_true_eq_false, not_false_eq_true, decide_true, decide_false, Int.reduceAdd, Int.reduceSub, Int.reduceMul, go_sem]
    exact ⟨_, le_refl', h1 _⟩
theorem Clashes_c (h : BusAt H k ln lost sv ids sts f) (hA : Alone sts) (hk : K (.d (.sl true [])) H) : CallsA Try.prog 21 [.ptr k 0 0 0] H K := by
  apply C21
  unfold S21
  simp only [frzLK_ptr, frzLK_nil]
  refine none_c h ?_
  have lv : ldV false 1 (.ptr k 0 0 2) H = some sv := ldV_at h.node rfl rfl
  have hn := h.sts.n40
  simp only [ifA_f, nilCk_ptr, ti52_f2, Nat.zero_add, lv, h.sts.lenS, optA_some]
  refine loop_ind (fun n vs G => ∃ (j : Nat) (a b c : AV), j ≤ sts.length ∧ n = sts.length - j ∧ vs = [.ptr k 0 0 0, .d (.sl true []), a, b, c, sv, .d (.int .i64 sts.length), .d (.int .i64 (j : Int))] ∧ G = H) (n := sts.length) ⟨0, _, _, _, Nat.zero_le _, rfl, rfl, rfl⟩ ?_
  rintro X n vs G ⟨j, a, b, c, hj, rfl, rfl, rfl⟩ hX
  by_cases hjl : j = sts.length
  · subst hjl
    simp only [List.getD_cons_succ, List.getD_cons_zero, intA_lss, Int.lt_irrefl, Int.reduceEq, Int.reduceNe, Int.reduceLT, Int.reduceLE, not_true_eq_false, not_false_eq_true, decide_true, decide_false, Int.reduceAdd, Int.reduceSub, Int.reduceMul, go_sem]
    exact ⟨_, le_refl', hk⟩
  · have hj' : j < sts.length := by omega
    have hlt : (j : Int) < (sts.length : Int) := by omega
    obtain ⟨p, e1, e2⟩ := h.sts.ix hj'
    have e3 := h.sts.obj j hj'
    have hw : IntKind.i64.wrap ((j : Int) + 1) = ((j + 1 : Nat) : Int) := by rw [wrap_i64 (by omega) (by omega)]; omega
    obtain ⟨_, m2, m5⟩ := ld68 e3
    simp only [List.getD_cons_succ, List.getD_cons_zero, intA_lss, optA_some, hlt, decide_true, ifA_t, e1, e2, intA_add, hw]
    refine loop_ind (fun n vs G' => ∃ (i : Nat), j < i ∧ i ≤ sts.length ∧ n = sts.length - i ∧ vs = [.ptr k 0 0 0, .d (.sl true []), .d (.int .i64 (j : Int)), .ptr (ids.getD j 0) 0 0 0, .d (.int .i64 (i : Int)), sv, .d (.int .i64 sts.length), .d (.int .i64 (j : Int))] ∧ G' = G) (n := sts.length - (j + 1)) ⟨j + 1, by omega, by omega, rfl, rfl, rfl⟩ ?_
    rintro X' n vs G' ⟨i, hji, hi, rfl, rfl, rfl⟩ hX'
    by_cases hil : i = sts.length
    · have hni : ¬ ((i : Int) < (sts.length : Int)) := by omega
      simp only [List.getD_cons_succ, List.getD_cons_zero, nilCk_ptr, ti52_f2, Nat.zero_add, lv, h.sts.lenS, intA_lss, optA_some, hni, decide_false, ifA_f, intA_add, hw]
      exact hX (sts.length - (j + 1)) _ _ (by omega) ⟨j + 1, _, _, _, by omega, rfl, rfl, rfl⟩
    · have hi' : i < sts.length := by omega
      have hlt2 : (i : Int) < (sts.length : Int) := by omega
      obtain ⟨p2, g1, g2⟩ := h.sts.ix hi'
      have g3 := h.sts.obj i hi'
      obtain ⟨_, n2, n5⟩ := ld68 g3
      have hw2 : IntKind.i64.wrap ((i : Int) + 1) = ((i + 1 : Nat) : Int) := by rw [wrap_i64 (by omega) (by omega)]; omega
      have next := hX' (sts.length - (i + 1)) _ G' (by omega) ⟨i + 1, by omega, by omega, rfl, rfl, rfl⟩
      simp only [List.getD_cons_succ, List.getD_cons_zero, nilCk_ptr, ti52_f2, Nat.zero_add, lv, h.sts.lenS, intA_lss, optA_some, hlt2, decide_true, ifA_t, g1, g2, drA_true, ti68_f2, ti68_f5, m2, n2, m5, n5, intA_eql, intA_add, hw2, ifA_ite]
      refine ite_of (fun h1 => ?_) fun h1 => next
      refine ite_of (fun h2 => ?_) fun h2 => next
      exact ite_of (fun h3 => absurd h3 (hA.ne j i hj' hi' (by omega) h1 h2)) fun h3 => next
/-! ### an empty bus of the document -/
abbrev rObj0 : AObj := .mem 0 0 3 [[.d (.sl false []), .d (.sl true []), .d (.int .i64 0)]]
theorem bs3_0' {H : AHeap} {n : Nat} : bsA ti3 0 [] [] H n = some (.lit [], []) := rfl
theorem ap_0 {H : AHeap} {n : Nat} : apA 1 8 (.lit []) (.d (.sl true [])) H n = some (.lit [], []) := rfl
theorem bd76_0 {H : AHeap} : bdA Try.prog ti76 [0] [.lit []] H = some (.agg [.d (.sl false []), .d (.sl true []), .d (.int .i64 0)], []) := by
  simp only [bdA, bd76, fillA, setCells, List.zip_cons_cons, List.zip_nil_right, Option.map_some, Nat.reduceLeDiff, List.cons_append, go_sem]
  rfl
theorem newRef_c (hk : ∀ w H', H' w = some rObj0 → AHeap.le H H' → H w = none → K (.ptr w 0 0 0) H') : CallsA Try.prog 20 [.d (.sl true [])] H K := by
  apply C20
  unfold S20
  simp only [bs3_0', ap_0, bd76_0, newK_iff, stepK_some, sets_nil']
  intro _ _ _ _
  refine (?_ : newK H (fun n11 => boxA (.agg [.d (.sl false []), .d (.sl true []), .d (.int .i64 0)]) n11) _)
  refine box_open rfl fun w G hG hle hw => ?_
  simp only [go_sem]
  exact ⟨_, le_refl', hk w G hG hle hw⟩
theorem is_c (hr : H w = some rObj0) {i : Int} (hk : K (.d (.bool false)) H) : CallsA Try.prog 64 [.ptr w 0 0 0, .d (.int .i64 i)] H K := by
  apply C64
  unfold S64
  have l1 : ldV false 1 (.ptr w 0 0 1) H = some (.d (.sl true [])) := ldV_at hr rfl rfl
  simp only [intA_geq, optA_some, ifA_ite, nilCk_ptr, ti76_f1, Nat.zero_add, l1, lenSl_d, List.length_nil, intA_lss]
  refine ite_of (fun h => ?_) fun h => ?_
  · have : ¬ (i < ((0 : Nat) : Int)) := by omega
    simp only [this, decide_false, go_sem]
    exact ⟨_, le_refl', hk⟩
  · simp only [go_sem]
    exact ⟨_, le_refl', hk⟩
theorem rTurn_c (hr : H w = some rObj0) {i : Int} {o : Bool} (hk : K (.d (.int .i64 2)) H) : CallsA Try.prog 41 [.ptr w 0 0 0, .d (.int .i64 i), .d (.bool o)] H K := by
  apply C41
  unfold S41
  simp only [frzLK_ptr, frzLK_d, frzLK_nil]
  refine is_c hr ?_
  simp only [go_sem]
  exact ⟨_, le_refl', hk⟩
theorem rGuess_c (hr : H w = some rObj0) {i : Int} (hk : K (.d (.int .i64 2)) H) : CallsA Try.prog 42 [.ptr w 0 0 0, .d (.int .i64 i)] H K := by
  apply C42
  unfold S42
  simp only [frzLK_ptr, frzLK_d, frzLK_nil]
  refine is_c hr ?_
  simp only [go_sem]
  exact ⟨_, le_refl', hk⟩
end
end Go.Proofs.Ytadpakkenokilaa

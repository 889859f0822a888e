/- The example of the chapter. -/
import Derived.Test.YtofjhihigmimbaaM10c
set_option autoImplicit false
set_option maxRecDepth 100000
set_option linter.unusedVariables false
set_option linter.unusedSimpArgs false
namespace Go.Proofs.Ytofjhihigmimbaa
open Go Go.AM Go.Proofs
theorem One.look {H : AHeap} {k m p : Nat} {nx : Int} {x : As} {T : List AV} (h : One H k m p nx x T) : lookA .nilptr (.map m) (.d (.int .i64 0)) false H = some (.ptr p 0 0 0) := by
  simp only [lookA, h.map, findE, keyEq_int, beq_self_eq_true, Bool.false_eq_true, if_false]
theorem One.le {H H' : AHeap} {k m p : Nat} {nx : Int} {x : As} {T : List AV} (h : One H k m p nx x T) (hle : AHeap.le H H') : One H' k m p nx x T := ⟨hle _ _ h.asker, hle _ _ h.map, hle _ _ h.obj⟩
theorem One.put {H : AHeap} {k m p : Nat} {nx : Int} {x y : As} {T U : List AV} (h : One H k m p nx x T) : One (H.set p (xObj y U)) k m p nx y U :=
  ⟨by rw [set_ne h.ne.2.1]; exact h.asker, by rw [set_ne h.ne.2.2]; exact h.map, set_self⟩
theorem state_c {H : AHeap} {k m p : Nat} {nx : Int} {x : As} {T : List AV} (h : One H k m p nx x T) {K : AV → AHeap → Prop} (hk : K (.d (.int .i64 x.state)) H) : CallsA Try.prog 35 [.ptr k 0 0 0, .d (.int .i64 0)] H K := by
  apply C35
  unfold S35
  simp only [frzLK_ptr, frzLK_nil]
  refine none_c h.asker ?_
  simp only [nilCk_ptr, ti73_f2, ti129_f3, getM_of h.asker, getM_of h.obj, keyInt, h.look, nilP_eql, As.cells, go_sem]
  exact ⟨H, le_refl', hk⟩
theorem take_1 {H : AHeap} {k m p : Nat} (h : One H k m p 1 (xb 1 7) T0) {K : AV → AHeap → Prop} (hk : ∀ H', One H' k m p 1 (xb 1 6) T1 → (∀ i o, i ≠ p → H i = some o → H' i = some o) → K (.tup [.d (.sl true []), .d (.int .i64 0)]) H') : CallsA Try.prog 31 [.ptr k 0 0 0, t1.av] H K := by
  apply C31
  unfold S31
  refine box_open rfl fun u G hG hle hu => ?_
  have hG1 := h.le hle
  have hpu := le_ne h.obj hu
  simp only [frzLK_ptr, frzLK_nil]
  refine none_c hG1.asker ?_
  simp only [Tr.av, Tr.cells, t1] at hG ⊢
  simp only [getM_of hG, go_sem]
  refine valid_c (t := t1) ?_
  rw [show decide t1.Valid = true by decide]
  simp only [nilCk_ptr, ti73_f2, ti24_f0, ti24_f1, ti129_f3, ti129_f4, getM_of hG, getM_of hG1.asker, getM_of hG1.obj, keyInt, hG1.look, nilP_eql, As.cells, xb, Bool.not_true, not_true_eq_false, Int.reduceEq, decide_true, decide_false, go_sem]
  refine take1_c (p := p) hG1.obj ?_
  have hG2 : One (G.set p (xObj (xb 1 6) T1)) k m p 1 (xb 1 6) T1 := hG1.put
  simp only [nilCk_ptr, ti129_f4, ti24_f6, getM_of hG2.obj, getM_ne (Ne.symm hpu), getM_of hG, As.cells, xb, not_false_eq_true, Int.reduceEq, decide_true, decide_false, go_sem]
  exact ⟨_, le_refl', hk _ hG2 fun i o hi ho => by rw [set_ne hi]; exact hle _ _ ho⟩
theorem take_2 {H : AHeap} {k m p : Nat} (h : One H k m p 1 (xb 1 6) T1) {K : AV → AHeap → Prop} (hk : ∀ H', One H' k m p 1 (xb 2 0) T2 → (∀ i o, i ≠ p → H i = some o → H' i = some o) → K (.tup [.d (.sl true []), .d (.int .i64 0)]) H') : CallsA Try.prog 31 [.ptr k 0 0 0, t2.av] H K := by
  apply C31
  unfold S31
  refine box_open rfl fun u G hG hle hu => ?_
  have hG1 := h.le hle
  have hpu := le_ne h.obj hu
  simp only [frzLK_ptr, frzLK_nil]
  refine none_c hG1.asker ?_
  simp only [Tr.av, Tr.cells, t2] at hG ⊢
  simp only [getM_of hG, go_sem]
  refine valid_c (t := t2) ?_
  rw [show decide t2.Valid = true by decide]
  simp only [nilCk_ptr, ti73_f2, ti24_f0, ti24_f1, ti129_f3, ti129_f4, getM_of hG, getM_of hG1.asker, getM_of hG1.obj, keyInt, hG1.look, nilP_eql, As.cells, xb, Bool.not_true, not_true_eq_false, Int.reduceEq, decide_true, decide_false, go_sem]
  refine take2_c (p := p) hG1.obj ?_
  have hG2 : One (G.set p (xObj (xb 1 0) T2)) k m p 1 (xb 1 0) T2 := hG1.put
  simp only [nilCk_ptr, ti129_f1, ti129_f3, ti129_f4, ti24_f6, getM_set, getM_of hG2.obj, getM_ne (Ne.symm hpu), getM_of hG, As.cells, xb, not_false_eq_true, not_true_eq_false, Int.reduceEq, decide_true, decide_false, stoA_agg, stoA_get, stoM, setCells, and_self, true_and, Nat.le_refl, Nat.reduceLeDiff, List.cons_append, List.set_cons_zero, List.getElem?_cons_zero, go_sem]
  exact ⟨_, le_refl', hk _ (hG1.put (y := xb 2 0) (U := T2)) fun i o hi ho => by rw [set_ne hi]; exact hle _ _ ho⟩
theorem ixv108_0 {a0 a1 a2 a3 a4 a5 a6 a7 : AV} : indexA ti108 ti4 (.agg [a0, a1, a2, a3, a4, a5, a6, a7]) (.d (.int .i64 0)) = some a0 := rfl
theorem ixv108_1 {a0 a1 a2 a3 a4 a5 a6 a7 : AV} : indexA ti108 ti4 (.agg [a0, a1, a2, a3, a4, a5, a6, a7]) (.d (.int .i64 1)) = some a1 := rfl
theorem ixv108_2 {a0 a1 a2 a3 a4 a5 a6 a7 : AV} : indexA ti108 ti4 (.agg [a0, a1, a2, a3, a4, a5, a6, a7]) (.d (.int .i64 2)) = some a2 := rfl
theorem ixv108_3 {a0 a1 a2 a3 a4 a5 a6 a7 : AV} : indexA ti108 ti4 (.agg [a0, a1, a2, a3, a4, a5, a6, a7]) (.d (.int .i64 3)) = some a3 := rfl
theorem ixv108_4 {a0 a1 a2 a3 a4 a5 a6 a7 : AV} : indexA ti108 ti4 (.agg [a0, a1, a2, a3, a4, a5, a6, a7]) (.d (.int .i64 4)) = some a4 := rfl
theorem ixv108_5 {a0 a1 a2 a3 a4 a5 a6 a7 : AV} : indexA ti108 ti4 (.agg [a0, a1, a2, a3, a4, a5, a6, a7]) (.d (.int .i64 5)) = some a5 := rfl
theorem ixv108_6 {a0 a1 a2 a3 a4 a5 a6 a7 : AV} : indexA ti108 ti4 (.agg [a0, a1, a2, a3, a4, a5, a6, a7]) (.d (.int .i64 6)) = some a6 := rfl
theorem ixv108_7 {a0 a1 a2 a3 a4 a5 a6 a7 : AV} : indexA ti108 ti4 (.agg [a0, a1, a2, a3, a4, a5, a6, a7]) (.d (.int .i64 7)) = some a7 := rfl
theorem bs22_1 {x : Dat} {H : AHeap} {n : Nat} : bsA ti22 1 [0] [.d x] H n = some (.lit [[x]], []) := rfl
/-- The pieces, so far. -/
def pcs (j : Int) : List (List Dat) := if j = 0 then [] else if j = 1 then [[.sl false (bs [120])]] else [[.sl false (bs [120])], [.sl false (bs [121])]]
theorem pieces_c {H : AHeap} {k m p : Nat} (h : One H k m p 1 (xb 2 0) T2) {K : AV → AHeap → Prop} (hk : K (.tup [.d (.sl false (pcs 2)), .d (.int .i64 0)]) H) : CallsA Try.prog 33 [.ptr k 0 0 0, .d (.int .i64 0)] H K := by
  apply C33
  unfold S33
  simp only [frzLK_ptr, frzLK_nil]
  refine none_c h.asker ?_
  simp only [frzLK_ptr, frzLK_d, frzLK_nil, go_sem]
  refine state_c h ?_
  simp only [nilCk_ptr, ti73_f2, ti129_f8, getM_of h.asker, getM_of h.obj, keyInt, h.look, As.cells, xb, Int.reduceEq, not_true_eq_false, decide_false, go_sem]
  refine loop_ind (fun n vs G => ∃ (j : Int) (v : AV), 0 ≤ j ∧ j ≤ 8 ∧ n = (8 - j).toNat ∧ Gr H 1 G v (pcs j) ∧ vs = [v, .ptr p 0 0 0, .agg [.d (.bool true), .d (.bool true), .d (.bool false), .d (.bool false), .d (.bool false), .d (.bool false), .d (.bool false), .d (.bool false)], .d (.int .i64 j)]) (n := 8) ⟨0, _, by omega, by omega, rfl, Gr.nil le_refl', rfl⟩ ?_
  rintro X n vs G ⟨j, v, h0, h8, rfl, hv, rfl⟩ hX
  have hG := h.le hv.le
  have hw : IntKind.i64.wrap (j + 1) = j + 1 := wrap_i64 (by omega) (by omega)
  by_cases hj : j = 8
  · subst hj
    simp only [List.getD_cons_succ, List.getD_cons_zero, go_sem]
    rw [if_neg (by decide)]
    have hns : nilS v = false := by
      cases hn : nilS v with
      | false => rfl
      | true => exact absurd (hv.own.nilS hn) (by decide)
    refine hv.own.ret_d le_refl' ?_
    rw [hns]
    exact hk
  · have hj2 : j = 0 ∨ j = 1 ∨ j = 2 ∨ j = 3 ∨ j = 4 ∨ j = 5 ∨ j = 6 ∨ j = 7 := by omega
    have hX' := fun (v' : AV) (G' : AHeap) (hv' : Gr H 1 G' v' (pcs (j + 1))) => hX (8 - (j + 1)).toNat _ _ (by omega) ⟨j + 1, v', by omega, by omega, rfl, hv', rfl⟩
    rcases hj2 with rfl | rfl | rfl | rfl | rfl | rfl | rfl | rfl
    · simp only [List.getD_cons_succ, List.getD_cons_zero, go_sem]
      rw [if_pos (by decide)]
      simp only [List.getD_cons_succ, List.getD_cons_zero, ixv108_0, nilCk_ptr, ti129_f7, ix109_0, getM_of hG.obj, As.cells, go_sem]
      refine clone_c (by decide) (by decide) ?_
      simp only [bs22_1, newK_iff, go_sem]
      intro _ _
      refine hv.app (ys := [[.sl false (bs [120])]]) rfl (by decide) (by decide) (by decide) (by decide) fun v' G' hv' _ _ _ => ?_
      simp only [hw, go_sem]
      exact hX' v' G' hv'
    · simp only [List.getD_cons_succ, List.getD_cons_zero, go_sem]
      rw [if_pos (by decide)]
      simp only [List.getD_cons_succ, List.getD_cons_zero, ixv108_1, nilCk_ptr, ti129_f7, ix109_1, getM_of hG.obj, As.cells, go_sem]
      refine clone_c (by decide) (by decide) ?_
      simp only [bs22_1, newK_iff, go_sem]
      intro _ _
      refine hv.app (ys := [[.sl false (bs [121])]]) rfl (by decide) (by decide) (by decide) (by decide) fun v' G' hv' _ _ _ => ?_
      simp only [hw, go_sem]
      exact hX' v' G' hv'
    all_goals
      simp only [List.getD_cons_succ, List.getD_cons_zero, go_sem]
      rw [if_pos (by decide)]
      simp only [List.getD_cons_succ, List.getD_cons_zero, ixv108_2, ixv108_3, ixv108_4, ixv108_5, ixv108_6, ixv108_7, hw, go_sem]
      exact hX' v G hv
theorem bd24_1 {d : Dat} {H : AHeap} : bdA Try.prog ti24 [0, 7] [.d (.int .i64 1), .d d] H = some (.agg [.d (.int .i64 1), .d (.int .i64 0), .d (.int .i64 0), .d (.int .i64 0), .d (.bool false), .d (.bool false), .d (.bool false), .d d], []) := by
  simp only [bdA, bd24, cell3, cell4, cell22, fillA, setCells, List.zip_cons_cons, List.zip_nil_right, Option.map_some, Nat.reduceLeDiff, List.cons_append, go_sem]
theorem bd24_2 {d : Dat} {H : AHeap} : bdA Try.prog ti24 [0, 3, 5, 7] [.d (.int .i64 1), .d (.int .i64 1), .d (.bool true), .d d] H = some (.agg [.d (.int .i64 1), .d (.int .i64 0), .d (.int .i64 0), .d (.int .i64 1), .d (.bool false), .d (.bool true), .d (.bool false), .d d], []) := by
  simp only [bdA, bd24, cell3, cell4, cell22, fillA, setCells, List.zip_cons_cons, List.zip_nil_right, Option.map_some, Nat.reduceLeDiff, List.cons_append, go_sem]
theorem pcs_ix : indexAddrA ti51 1 (.d (.sl false (pcs 2))) (.d (.int .i64 1)) = some (.vptr [.sl false (bs [121])] 0) := rfl
theorem awake_c {H : AHeap} {K : AV → AHeap → Prop} (hk : K (.d (.bool true)) H) : CallsA Try.prog 13 [] H K := by
  apply C13
  unfold S13
  simp only [frzLK_d, frzLK_nil]
  refine newAsker_c (by decide) fun k m H1 h1 h2 hl1 hkn hmn => ?_
  simp only [not_true_eq_false, if_false, go_sem]
  refine ask_c h1 h2 fun p H2 hO hpn hl2 => ?_
  simp only [extractA_0, extractA_1, extractA_2, optA_some]
  refine alloc_open fun u G hG hle hu => ?_
  simp only [getM_of hG, getM_set, x1, As.req, Tr.av, Tr.cells, ti24_f2, stoA_agg, stoA_get, stoM, setCells, and_self, true_and, Nat.le_refl, Nat.reduceLeDiff, List.cons_append, List.set_cons_zero, List.getElem?_cons_zero, go_sem]
  simp only [not_true_eq_false, if_false, bd24_1, go_sem]
  have hO2 : One (G.set u (.mem 0 0 8 [(x1.req 0).cells])) k m p 1 (xb 1 7) T0 := by
    have hku := le_ne hO.asker hu
    have hmu := le_ne hO.map hu
    have hpu := le_ne hO.obj hu
    exact ⟨by rw [set_ne hku]; exact hle _ _ hO.asker, by rw [set_ne hmu]; exact hle _ _ hO.map, by rw [set_ne hpu]; exact hle _ _ hO.obj⟩
  refine take_1 hO2 fun H3 hO3 hl3 => ?_
  simp only [bd24_2, go_sem]
  refine take_2 hO3 fun H4 hO4 hl4 => ?_
  refine pieces_c hO4 ?_
  have e1 : (pcs 2).length = 2 := rfl
  have e2 : ((ByteArray.mk #[121]).toList == (ByteArray.mk #[121]).toList) = true := by simp
  simp only [e1, pcs_ix, decide_true, go_sem]
  rw [if_pos (by rfl), e2]
  refine ⟨H, fun i o ho => ?_, hk⟩
  have hik := le_ne ho hkn
  have him := le_ne ho hmn
  have hip := le_ne (hl1 _ _ ho) hpn
  have h2 := hle _ _ (hl2 i o hik him (hl1 _ _ ho))
  have hiu := le_ne (hl2 i o hik him (hl1 _ _ ho)) hu
  exact hl4 i o hip (hl3 i o hip (by rw [set_ne hiu]; exact h2))
theorem valid_law {t : Tr} : CallsA Try.prog 3 [t.av] noHeap fun v _ => v = .d (.bool true) := by
  apply C3
  unfold S3
  refine box_open rfl fun k G hG hle hk => ?_
  have hG : G k = some (.mem 0 0 8 [t.cells]) := hG
  simp only [getM_of hG, ti24_f7, bs_length, go_sem]
  split
  · exact ⟨_, hle, rfl⟩
  · refine ⟨_, valid_c (t := t) ⟨rfl, le_refl'⟩, ?_⟩
    refine ⟨_, rvalid_c (t := t) ⟨rfl, le_refl'⟩, ?_⟩
    simp only [beq_self_eq_true, go_sem]
    refine ⟨_, awake_c ⟨rfl, le_refl'⟩, ?_⟩
    simp only [go_sem]
    exact ⟨_, hle, rfl⟩
end Go.Proofs.Ytofjhihigmimbaa

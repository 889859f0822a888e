/- An empty bus of the document: Add and Step. -/
import Derived.Test.YtadpakkenokilaaM2i
set_option autoImplicit false
set_option maxRecDepth 100000
set_option linter.unusedVariables false
set_option linter.unusedSimpArgs false
set_option linter.unnecessarySimpa false
namespace Go.Proofs.Ytadpakkenokilaa
open Go Go.AM Go.Proofs
section
variable {H G : AHeap} {k w : Nat} {K : AV → AHeap → Prop}
theorem cpI {nl : Bool} {d : List Int} (hd : d.length < 2 ^ 40) (hk : ∀ v H', Gr H 1 H' v (ints d) → nilS v = false → (∀ i, (H i).isSome → H' i = H i) → K v H') : newK H (fun n => apA 1 8 (.lit []) (.d (.sl nl (ints d))) H n) K := by
  refine (Gr.lit le_refl').app (ys := ints d) rfl (by decide) (by decide) ints_1 (by rw [ints_len]; simp [mostBytes]; omega) fun v' H3 hv' hk2 _ hn3 => ?_
  rw [List.nil_append] at hv'
  exact hk v' H3 hv' (by rw [hn3]; rfl) fun i hi => hk2 i hi (by simp [idOf])
theorem gr_apart {v : AV} {l : List (List Dat)} (h : Gr H 1 G v l) {o : AObj} (hw : H w = some o) {a b c : Nat} : apart (rsOf v) (.ptr w a b c) := by
  rcases h.2.2 with ⟨_, rfl | rfl⟩ | ⟨i, ver, L, rfl, _, _, _, h2⟩
  · trivial
  · trivial
  · intro he
    rw [he, hw] at h2; cases h2
theorem bd89_new {v : AV} {l : List (List Dat)} {us : Ups} (f : frzA v H = some (.d (.sl false l), us)) : bdA Try.prog ti89 [0, 1] [v, .d (.bool true)] H = some (.agg [.d (.sl false l), .d (.bool true), .d (.int .i64 0), .d (.int .i64 0), .d (.int .i64 0), .d (.int .i64 0)], us) := by
  have c22 : Try.prog.cellsOf 22 = 1 := by kernel_rfl
  have c4 : Try.prog.cellsOf 4 = 1 := by kernel_rfl
  simp only [bdA, frzAL, frzA_d, AHeap.sets, f, frzA_d, List.append_nil, List.nil_append, sets_nil']
  simp only [bd89, c22, c4, cell3, fillA, setCells, List.zip_cons_cons, List.zip_nil_right, Option.map_some, Nat.reduceLeDiff, List.cons_append, go_sem]
theorem bs89_1 {a b c d e f : Dat} {n : Nat} : bsA ti89 1 [0] [.agg [.d a, .d b, .d c, .d d, .d e, .d f]] H n = some (.lit [[a, b, c, d, e, f]], []) := rfl
theorem rAdd_c (hr : H w = some rObj0) {nl : Bool} {row : List Int} (hl : row.length < 2 ^ 40) (hk : ∀ (a b : Int) H', (∀ i, (H i).isSome → i ≠ w → H' i = H i) → K (.tup [.d (.int .i64 a), .d (.int .i64 b)]) H') : CallsA Try.prog 40 [.ptr w 0 0 0, .d (.sl nl (ints row))] H K := by
  apply C40
  unfold S40
  have l1 : ldV false 1 (.ptr w 0 0 1) H = some (.d (.sl true [])) := ldV_at hr rfl rfl
  have n40 : ¬ (((0 : Nat) : Int) ≥ 40) := by decide
  simp only [nilCk_ptr, ti76_f1, Nat.zero_add, l1, lenSl_d, List.length_nil, optA_some, intA_geq, n40, decide_false, ifA_f, drA_true, bs3_0', newK_iff, stepK_some, sets_nil']
  intro _ _
  refine ⟨trivial, (?_ : newK H (fun n14 => apA 1 8 (.lit []) (.d (.sl nl (ints row))) H n14) _)⟩
  refine cpI hl fun v G hv hnv hfr => ⟨gr_apart hv hr, ?_⟩
  obtain ⟨us, f1, f2, f3, _⟩ := hv.own.frz
  rw [hnv] at f2
  simp only [rsOf_d, ap_nil, true_and, hv.aggL, aggL_d, noRsA_nil, bd89_new f2, stepK_some, rsOf_agg, aggL_agg, noRsA_cons, noRs_d, bs89_1, newK_iff, sets_nil']
  intro _ _
  refine (?_ : newK (G.sets us) (fun n22 => apA 6 64 (.d (.sl true [])) (.lit [[.sl false (ints row), .bool true, .int .i64 0, .int .i64 0, .int .i64 0, .int .i64 0]]) (G.sets us) n22) _)
  refine (Ms.nil (H := G.sets us)).app (ys := [[.sl false (ints row), .bool true, .int .i64 0, .int .i64 0, .int .i64 0, .int .i64 0]]) elemsA_lit (by decide) (by decide) (by simp) (by simp [mostBytes]) fun x G2 hx hfx hnx _ => ?_
  have hrG : (G.sets us) w = some rObj0 := f3 _ _ hr
  have hr2 : G2 w = some rObj0 := by rw [hfx w (by rw [hrG]; rfl) (by simp [idOf])]; exact hrG
  have hagg : aggL x = [] := by rcases hx.2 with ⟨rfl, _⟩ | ⟨i, ver, L, rfl, _⟩ <;> rfl
  have st : stoA false 1 (.ptr w 0 0 1) x G2 = some (.junk, [(w, .mem 0 0 3 [[.d (.sl false []), x, .d (.int .i64 0)]])]) := stoA_at hr2 (Nat.le_refl 0) rfl (show 1 < 3 by decide) hx.st.1 hx.st.2
  have ld : ldV false 1 (.ptr w 0 0 1) (G2.set w (.mem 0 0 3 [[.d (.sl false []), x, .d (.int .i64 0)]])) = some x := ldV_at set_self rfl rfl
  have hlx : lenSl x = some (.d (.int .i64 (1 : Nat))) := hx.len
  simp only [nilCk_ptr, ti76_f1, Nat.zero_add, optA_some, hagg, noRsA_nil, st, stepK_some, sets_cons, sets_nil', ld, hlx, intA_sub]
  simp only [go_sem]
  refine ⟨_, le_refl', hk _ _ _ fun i hi hiw => ?_⟩
  rw [set_ne hiw]
  obtain ⟨o, ho⟩ : ∃ o, H i = some o := Option.isSome_iff_exists.1 hi
  have h3 := f3 _ _ ho
  rw [hfx i (by rw [h3]; rfl) (by simp [idOf]), h3, ho]
theorem rStep_c (hr : H w = some rObj0) (hk : ∀ H', (∀ i, (H i).isSome → i ≠ w → H' i = H i) → K (.tup []) H') : CallsA Try.prog 43 [.ptr w 0 0 0] H K := by
  apply C43
  unfold S43
  have l1 : ldV false 1 (.ptr w 0 0 1) H = some (.d (.sl true [])) := ldV_at hr rfl rfl
  have l2 : ldV false 1 (.ptr w 0 0 2) H = some (.d (.int .i64 0)) := ldV_at hr rfl rfl
  have n0 : ¬ ((0 : Int) < ((0 : Nat) : Int)) := by decide
  have st : stoA false 1 (.ptr w 0 0 2) (.d (.int .i64 0)) H = some (.junk, [(w, rObj0)]) := stoA_at hr (Nat.le_refl 0) rfl (show 2 < 3 by decide) rfl rfl
  have l1' : ldV false 1 (.ptr w 0 0 1) (H.set w rObj0) = some (.d (.sl true [])) := ldV_at set_self rfl rfl
  have hw0 : IntKind.i64.wrap (0 + ((0 : Nat) : Int)) = 0 := by decide
  refine loop_ind (fun n vs G => vs = [.ptr w 0 0 0, .d (.sl true []), .d (.int .i64 0), .junk, .junk, .junk, .junk, .junk] ∧ G = H) (n := 0) ⟨rfl, rfl⟩ ?_
  rintro X n vs G ⟨rfl, rfl⟩ hX
  simp only [List.getD_cons_succ, List.getD_cons_zero, nilCk_ptr, ti76_f1, ti76_f2, Nat.zero_add, l1, l2, lenSl_d, List.length_nil, optA_some, intA_lss, n0, decide_false, ifA_f, intA_add, hw0, st, stepK_some, sets_cons, sets_nil', l1']
  refine make_c (n := 0) (by decide) fun v i H' hi hn hle hm => ?_
  refine loop_ind (fun n vs G => vs = [.ptr w 0 0 0, .d (.sl true []), .d (.int .i64 0), .d (.int .i64 0), v, .d (.int .i64 0), .junk, .junk] ∧ G = H') (n := 0) ⟨rfl, rfl⟩ ?_
  rintro X n vs G2 ⟨rfl, rfl⟩ hX
  simp only [List.getD_cons_succ, List.getD_cons_zero, lenSl_d, List.length_nil, optA_some, intA_lss, n0, decide_false, ifA_f]
  refine loop_ind (fun n vs G => vs = [.ptr w 0 0 0, .d (.sl true []), .d (.int .i64 0), .d (.int .i64 0), v, .d (.int .i64 0), .junk, .d (.int .i64 0)] ∧ G = G2) (n := 0) ⟨rfl, rfl⟩ ?_
  rintro X n vs G3 ⟨rfl, rfl⟩ hX
  simp only [List.getD_cons_succ, List.getD_cons_zero, lenSl_d, List.length_nil, optA_some, intA_lss, n0, decide_false, ifA_f]
  simp only [go_sem]
  refine ⟨_, le_refl', hk _ fun j hj hjw => ?_⟩
  obtain ⟨o, ho⟩ : ∃ o, G j = some o := Option.isSome_iff_exists.1 hj
  rw [hle j o (by rw [set_ne hjw]; exact ho), ho]
end
end Go.Proofs.Ytadpakkenokilaa

/- A fast link: its small functions. -/
import Derived.Test.YtgnnkpgceahjdaaM6b
set_option autoImplicit false
set_option maxRecDepth 100000
set_option linter.unusedVariables false
set_option linter.unusedSimpArgs false
set_option linter.unnecessarySimpa false
namespace Go.Proofs.Ytgnnkpgceahjdaa
open Go Go.AM Go.Proofs
section
variable {H G : AHeap} {k : Nat} {sv : AV} {ids : List Nat} {sts : List Pt} {f : Int} {K : AV → AHeap → Prop}
theorem LinkAt.ld (h : LinkAt H k sv ids sts f) : ldV false 1 (.ptr k 0 0 0) H = some (.d (.int .i64 3)) ∧ ldV false 1 (.ptr k 0 0 1) H = some (.d (.int .i64 4)) ∧ ldV false 1 (.ptr k 0 0 2) H = some (.d (.sl true [])) ∧ ldV false 1 (.ptr k 0 0 3) H = some sv ∧ ldV false 1 (.ptr k 0 0 4) H = some (.d (.int .i64 f)) :=
  ⟨ldV_at h.node rfl rfl, ldV_at h.node rfl rfl, ldV_at h.node rfl rfl, ldV_at h.node rfl rfl, ldV_at h.node rfl rfl⟩
theorem ld169 {q : Nat} {s : Pt} (h : H q = some (pObj s)) : ldV false 1 (.ptr q 0 0 0) H = some (.d (.sl s.rn (ints s.row))) ∧ ldV false 1 (.ptr q 0 0 1) H = some (.d (.int .i64 s.state)) ∧ ldV false 1 (.ptr q 0 0 2) H = some (.d (.int .i64 s.k)) ∧ ldV false 1 (.ptr q 0 0 3) H = some (.d (.int .i64 s.sent)) ∧ ldV true 2 (.ptr q 0 0 4) H = some (.agg [.d (.int .i64 s.net), .d (.int .i64 s.node)]) ∧ ldV false 1 (.ptr q 0 0 6) H = some (.d (.sl true [])) ∧ ldV false 1 (.ptr q 0 0 7) H = some (.d (.sl true [])) :=
  ⟨ldV_at h rfl rfl, ldV_at h rfl rfl, ldV_at h rfl rfl, ldV_at h rfl rfl, by simp only [ldV, h, if_true]; rfl, ldV_at h rfl rfl, ldV_at h rfl rfl⟩
theorem pnone_c (h : LinkAt H k sv ids sts f) (hk : K (.d (.bool false)) H) : CallsA Try.prog 77 [.ptr k 0 0 0] H K := by
  apply C77
  unfold S77
  obtain ⟨l0, _⟩ := h.ld
  simp only [nilP_eql, optA_some, ifA_f, nilCk_ptr, ti159_f0, Nat.zero_add, l0, intA_eql, Int.reduceEq, Int.reduceNe, Int.reduceLT, Int.reduceLE, not_true_eq_false, not_false_eq_true, decide_true, decide_false, Int.reduceAdd, Int.reduceSub, Int.reduceMul]
  simp only [go_sem]
  exact ⟨_, le_refl', hk⟩
theorem pasked_c (h : LinkAt H k sv ids sts f) {i : Int} (hk : K (.d (.int .i64 (if 0 ≤ i ∧ i < sts.length then 0 else 2))) H) : CallsA Try.prog 155 [.ptr k 0 0 0, .d (.int .i64 i)] H K := by
  apply C155
  unfold S155
  simp only [frzLK_ptr, frzLK_nil]
  refine pnone_c h ?_
  obtain ⟨_, _, _, l3, _⟩ := h.ld
  simp only [ifA_f, intA_lss, intA_geq, optA_some, nilCk_ptr, ti159_f3, Nat.zero_add, l3, h.sts.lenS, ifA_ite]
  refine ite_of (fun h1 => ?_) fun h1 => ?_
  · rw [if_neg (by omega)] at hk
    simp only [go_sem]; exact ⟨_, le_refl', hk⟩
  refine ite_of (fun h2 => ?_) fun h2 => ?_
  · rw [if_neg (by omega)] at hk
    simp only [go_sem]; exact ⟨_, le_refl', hk⟩
  · rw [if_pos (by omega)] at hk
    simp only [go_sem]; exact ⟨_, le_refl', hk⟩
theorem pframe_c (h : LinkAt H k sv ids sts f) (hk : ∀ f' H', LinkAt H' k sv ids sts f' → (∀ i, i ≠ k → H' i = H i) → K (.d (.bool true)) H') : CallsA Try.prog 195 [.ptr k 0 0 0] H K := by
  apply C195
  unfold S195
  obtain ⟨_, _, l2, _, l4⟩ := h.ld
  have st : ∀ x : Int, stoA false 1 (.ptr k 0 0 4) (.d (.int .i64 x)) H = some (.junk, [(k, .mem 0 0 5 [[.d (.int .i64 3), .d (.int .i64 4), .d (.sl true []), sv, .d (.int .i64 x)]])]) := fun x => stoA_at h.node (Nat.le_refl 0) rfl (show 4 < 5 by decide) rfl rfl
  simp only [drA_true, nilCk_ptr, ti159_f2, ti159_f4, Nat.zero_add, l2, l4, optA_some, aggL_d, noRsA_nil, frzLK_d, frzLK_nil]
  have hs : CallsA Try.prog 162 [.d (.sl true (ints [])), .d (.int .i64 f)] H fun v H2 => v = .tup [.d (.int .i64 0), .d (.bool false)] ∧ AHeap.le H H2 :=
    search_c (l := []) (by exact List.Pairwise.nil) (by simp) ⟨by simp, le_refl'⟩
  refine ⟨_, hs, ?_⟩
  simp only [extractA_0, extractA_1, optA_some, l4, intA_add, st, stepK_some, sets_cons, sets_nil', unA_not, Bool.not_false]
  simp only [go_sem]
  refine ⟨_, le_refl', hk _ _ ⟨set_self, h.sts.keep (fun i hi => set_ne (h.kne.1 i hi)) fun i hi => set_ne fun he => h.kne.2 (he ▸ hi)⟩ fun i hi => set_ne hi⟩
theorem max2 {a b : Int} : foldA max2A [.d (.int .i64 a), .d (.int .i64 b)] = some (.d (.int .i64 (max a b))) := by
  simp only [foldA, List.foldl, max2A]
  congr 3
  omega
theorem bd165_2 {a b : Dat} : bdA Try.prog ti165 [0, 1] [.d a, .d b] H = some (.agg [.d a, .d b], []) := by
  simp only [bdA, bd165, cell3, fillA, setCells, List.zip_cons_cons, List.zip_nil_right, Option.map_some, Nat.reduceLeDiff, List.cons_append, go_sem]
theorem addr_c (hn : H k = some (.mem 0 0 5 [[.d (.int .i64 3), .d (.int .i64 4), .d (.sl true []), sv, .d (.int .i64 f)]])) {p : Nat} {s : Pt} (hp : H p = some (pObj s)) (hwf : ∀ x ∈ s.row, -9223372036854775808 ≤ x ∧ x ≤ 9223372036854775807) {kk : Int} (h0 : 0 ≤ kk ∧ kk ≤ 600) (hk : K (.agg [.d (.int .i64 (paNet (paX s.row kk))), .d (.int .i64 (paNode (paX s.row kk)))]) H) : CallsA Try.prog 197 [.ptr k 0 0 0, .ptr p 0 0 0, .d (.int .i64 kk)] H K := by
  apply C197
  unfold S197
  refine alloc_open fun u G hG hle hu => ?_
  have hn' := hle _ _ hn
  have hp' := hle _ _ hp
  have l0 : ldV false 1 (.ptr k 0 0 0) G = some (.d (.int .i64 3)) := ldV_at hn' rfl rfl
  have l1 : ldV false 1 (.ptr k 0 0 1) G = some (.d (.int .i64 4)) := ldV_at hn' rfl rfl
  obtain ⟨q0, _⟩ := ld169 hp'
  have ku : k ≠ u := le_ne hn hu
  have sto : ∀ a b : Int, stoA true 2 (.ptr u 0 0 0) (.agg [.d (.int .i64 a), .d (.int .i64 b)]) G = some (.junk, [(u, .mem 0 0 2 [[.d (.int .i64 a), .d (.int .i64 b)]])]) := fun a b => by
    simp only [getM_of hG, stoA_agg, stoA_get, stoM, setCells, and_self, true_and, Nat.le_refl, Nat.reduceLeDiff, List.cons_append, List.set_cons_zero, List.getElem?_cons_zero, go_sem]
  have ldu : ∀ a b : Int, ldV true 2 (.ptr u 0 0 0) (G.set u (.mem 0 0 2 [[.d (.int .i64 a), .d (.int .i64 b)]])) = some (.agg [.d (.int .i64 a), .d (.int .i64 b)]) := fun a b => by
    simp only [ldV, set_self, if_true]; rfl
  have fin : ∀ x : Int, x = paX s.row kk → retF [.agg [.d (.int .i64 (paNet x)), .d (.int .i64 (paNode x))]] (G.set u (.mem 0 0 2 [[.d (.int .i64 (paNet x)), .d (.int .i64 (paNode x))]])) K := fun x hx => by
    simp only [go_sem]
    exact ⟨H, fun i o hi => by rw [set_ne (le_ne hi hu)]; exact hle _ _ hi, hx ▸ hk⟩
  have w1 : IntKind.i64.wrap (4 - 3) = 1 := by decide
  have w2 : IntKind.i64.wrap (1 + 1) = 2 := by decide
  have ar : ∀ x : Int, 0 ≤ x → x ≤ 9223372036854775807 → IntKind.i64.wrap (3 + (IntKind.i64.wrap (x.tdiv 253)).tmod 2) = paNet x ∧ IntKind.i64.wrap (1 + x.tmod 253) = paNode x := fun x hx hx2 => by
    have e1 : x.tdiv 253 = x / 253 := Int.tdiv_eq_ediv_of_nonneg hx
    have e2 : x.tmod 253 = x % 253 := Int.tmod_eq_emod_of_nonneg hx
    have b1 : 0 ≤ x / 253 := by omega
    have e3 : (x / 253).tmod 2 = x / 253 % 2 := Int.tmod_eq_emod_of_nonneg b1
    rw [e1, e2, wrap_i64 (n := x / 253) (by omega) (by omega), e3, wrap_i64 (by omega) (by omega), wrap_i64 (by omega) (by omega)]
    exact ⟨rfl, rfl⟩
  simp only [nilCk_ptr, ti169_f0, Nat.zero_add, q0, lenSl_d, ints_len, optA_some, intA_gtr, ifA_ite]
  refine ite_of (fun hpos => ?_) fun hz => ?_
  · have hne : s.row ≠ [] := fun he => by rw [he] at hpos; simp at hpos
    have hpos' : 0 < s.row.length := by omega
    have hm : kk.tmod s.row.length = ((kk.toNat % s.row.length : Nat) : Int) := by
      rw [Int.tmod_eq_emod_of_nonneg h0.1, Int.natCast_emod, Int.toNat_of_nonneg h0.1]
    have hlt := Nat.mod_lt kk.toNat hpos'
    have hxe : paX s.row kk = max (max (s.row.getD (kk.toNat % s.row.length) 0) (IntKind.i64.wrap (0 - s.row.getD (kk.toNat % s.row.length) 0))) 0 := by unfold paX; rw [if_neg hne]
    generalize hq : kk.toNat % s.row.length = q at *
    have hix : indexAddrA ti55 1 (.d (.sl s.rn (ints s.row))) (.d (.int .i64 (q : Int))) = some (.vptr [.int .i64 (s.row.getD q 0)] 0) := by
      simp only [indexAddrA, ti55, Int.natCast_nonneg, if_true, Int.toNat_natCast, ints_get hlt, List.length_cons, List.length_nil, Nat.zero_add]
    have hld : ldV false 1 (.vptr [.int .i64 (s.row.getD q 0)] 0) G = some (.d (.int .i64 (s.row.getD q 0))) := rfl
    have hb := hwf (s.row.getD q 0) (by rw [getD_eq hlt]; exact List.getElem_mem hlt)
    generalize s.row.getD q 0 = y at *
    have hwy : -9223372036854775808 ≤ IntKind.i64.wrap (0 - y) ∧ IntKind.i64.wrap (0 - y) ≤ 9223372036854775807 := by
      rw [IntKind.wrap_i64]; omega
    have hneg : unA .neg (.d (.int .i64 y)) = some (.d (.int .i64 (IntKind.i64.wrap (0 - y)))) := unA_neg
    generalize IntKind.i64.wrap (0 - y) = z at *
    have hx0 : 0 ≤ max (max y z) 0 := by omega
    have hx1 : max (max y z) 0 ≤ 9223372036854775807 := by omega
    obtain ⟨a1, a2⟩ := ar _ hx0 hx1
    have fin' := fin _ hxe.symm
    rw [intA_rem (show (s.row.length : Int) ≠ 0 by omega), hm]
    simp only [drA_true, optA_some, hix, hld, hneg]
    simp only [max2, optA_some]
    generalize max (max y z) 0 = x at *
    simp only [drA_true, optA_some, nilCk_ptr, ti159_f0, ti159_f1, Nat.zero_add, l0, l1, intA_quo (b := 253) (by decide), intA_sub, intA_add, w1, w2, intA_rem (b := 2) (by decide), intA_rem (b := 253) (by decide), a1, a2, aggL_d, noRsA_nil, bd165_2, stepK_some, sets_nil', aggL_agg, noRsA_cons, noRs_d, true_and, sto, sets_cons, ldu]
    exact fin'
  · have hr : s.row = [] := List.length_eq_zero_iff.1 (by omega)
    have hxe : paX s.row kk = max kk 0 := by unfold paX; rw [if_pos hr]
    obtain ⟨a1, a2⟩ := ar (max kk 0) (by omega) (by omega)
    have fin' := fin _ hxe.symm
    simp only [max2, optA_some]
    generalize max kk 0 = x at *
    simp only [drA_true, optA_some, nilCk_ptr, ti159_f0, ti159_f1, Nat.zero_add, l0, l1, intA_quo (b := 253) (by decide), intA_sub, intA_add, w1, w2, intA_rem (b := 2) (by decide), intA_rem (b := 253) (by decide), a1, a2, aggL_d, noRsA_nil, bd165_2, stepK_some, sets_nil', aggL_agg, noRsA_cons, noRs_d, true_and, sto, sets_cons, ldu]
    exact fin'
end
end Go.Proofs.Ytgnnkpgceahjdaa

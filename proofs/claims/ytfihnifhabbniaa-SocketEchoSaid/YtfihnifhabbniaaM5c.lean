/- Nodes that are nil, or zero. -/
import Derived.Test.YtfihnifhabbniaaM5b
set_option autoImplicit false
set_option maxRecDepth 100000
set_option linter.unusedVariables false
set_option linter.unusedSimpArgs false
namespace Go.Proofs.Ytfihnifhabbniaa
open Go Go.AM Go.Proofs
/-- A node that is nil, or a zero value. -/
def NN (H : AHeap) (v : AV) : Prop := v = .nilptr ∨ ∃ k, v = .ptr k 0 0 0 ∧ H k = some (.mem 0 0 3 [[.d (.int .i64 0), .d (.int .i64 0), .nilmap]])
theorem NN.le {H H' : AHeap} {v : AV} (h : NN H v) (hle : AHeap.le H H') : NN H' v := by
  rcases h with h | ⟨k, h1, h2⟩
  · exact .inl h
  · exact .inr ⟨k, h1, hle _ _ h2⟩
theorem NN.frz {H H' : AHeap} {v : AV} (h : NN H v) : frzA v H' = some (v, []) := by
  rcases h with rfl | ⟨k, rfl, _⟩ <;> rfl
theorem NN.lk {H H' : AHeap} {v : AV} {l : List AV} {K : List AV → AHeap → Prop} (h : NN H v) : frzLK (v :: l) H' K = frzLK l H' fun l' H'' => K (v :: l') H'' := frzLK_of (us := []) h.frz
theorem nilN_c {v : AV} {H : AHeap} (hN : NN H v) {K : AV → AHeap → Prop} (h : K (.d (.bool true)) H) : CallsA Try.prog 32 [v] H K := by
  apply C32
  unfold S32
  rcases hN with rfl | ⟨k, rfl, hk⟩
  · have e : nilA 3 .eql .nilptr .nilptr = some (.d (.bool true)) := rfl
    simp only [e, go_sem]
    exact ⟨H, le_refl', h⟩
  · have e : nilA 1 .eql .nilmap .nilmap = some (.d (.bool true)) := rfl
    simp only [nilP_eql, nilCk_ptr, ti72_f1, getM_of hk, e, go_sem]
    exact ⟨H, le_refl', h⟩
theorem openN {v s : AV} {H : AHeap} (hN : NN H v) {K : AV → AHeap → Prop} (h : K (.tup [.d (.int .i64 0), .d (.int .i64 7)]) H) : CallsA Try.prog 12 [v, s] H K := by
  apply C12
  unfold S12
  simp only [hN.lk, go_sem]
  refine nilN_c hN ?_
  simp only [go_sem]
  exact ⟨H, le_refl', h⟩
theorem closeN {v s : AV} {H : AHeap} (hN : NN H v) {K : AV → AHeap → Prop} (h : K (.d (.int .i64 7)) H) : CallsA Try.prog 13 [v, s] H K := by
  apply C13
  unfold S13
  simp only [hN.lk, go_sem]
  refine nilN_c hN ?_
  simp only [go_sem]
  exact ⟨H, le_refl', h⟩
theorem waitingN {v s : AV} {H : AHeap} (hN : NN H v) {K : AV → AHeap → Prop} (h : K (.d (.int .i64 0)) H) : CallsA Try.prog 15 [v, s] H K := by
  apply C15
  unfold S15
  simp only [hN.lk, go_sem]
  refine nilN_c hN ?_
  simp only [go_sem]
  exact ⟨H, le_refl', h⟩
theorem socketsN {v : AV} {H : AHeap} (hN : NN H v) {K : AV → AHeap → Prop} (h : K (.d (.sl true [])) H) : CallsA Try.prog 29 [v] H K := by
  apply C29
  unfold S29
  simp only [hN.lk, go_sem]
  refine nilN_c hN ?_
  simp only [go_sem]
  exact ⟨H, le_refl', h⟩
theorem copyN {v : AV} {H : AHeap} (hN : NN H v) {K : AV → AHeap → Prop} (h : K .nilptr H) : CallsA Try.prog 25 [v] H K := by
  apply C25
  unfold S25
  simp only [hN.lk, go_sem]
  refine nilN_c hN ?_
  simp only [go_sem]
  exact ⟨H, le_refl', h⟩
theorem sameN {H : AHeap} {K : AV → AHeap → Prop} (h : K (.d (.bool true)) H) : CallsA Try.prog 26 [.nilptr, .nilptr] H K := by
  apply C26
  unfold S26
  have hN : NN H .nilptr := .inl rfl
  simp only [go_sem]
  refine nilN_c hN ?_
  simp only [go_sem]
  refine nilN_c hN ?_
  simp only [go_sem]
  refine nilN_c hN ?_
  simp only [go_sem]
  exact ⟨H, le_refl', h⟩
theorem moveN {v : AV} {a b : Int} {H : AHeap} (hN : NN H v) {K : AV → AHeap → Prop} (h : K (.d (.int .i64 7)) H) : CallsA Try.prog 28 [v, .agg [.d (.int .i64 a), .d (.int .i64 b)]] H K := by
  apply C28
  unfold S28
  refine box_open rfl fun k G hG hle hk => ?_
  simp only [hN.lk, go_sem]
  refine nilN_c (hN.le hle) ?_
  simp only [go_sem]
  exact ⟨H, hle, h⟩
theorem atN {v : AV} {H : AHeap} (hN : NN H v) {K : AV → AHeap → Prop} (h : K (.agg [.d (.int .i64 0), .d (.int .i64 0)]) H) : CallsA Try.prog 30 [v] H K := by
  apply C30
  unfold S30
  refine alloc_open fun k G hG hle hk => ?_
  simp only [hN.lk, go_sem]
  refine nilN_c (hN.le hle) ?_
  simp only [getM_of hG, bd28, cell3, stoA_agg, stoA_get, stoM, setCells, and_self, true_and, Nat.le_refl, Nat.reduceLeDiff, List.cons_append, List.set_cons_zero, List.getElem?_cons_zero, bdA, fillA, setCells, List.zip_cons_cons, List.zip_nil_right, List.zip_nil_left, Option.map_some, and_self, Nat.le_refl, Nat.reduceLeDiff, List.cons_append, go_sem]
  exact ⟨H, set_le hle hk, h⟩
def zp : List AV := [.d (.int .i64 0), .d (.int .i64 0), .d (.int .i64 0), .d (.int .i64 0), .d (.int .i64 0), .d (.int .i64 0), .d (.int .i64 0), .d (.int .i64 0), .d (.sl true []), .d (.bool false)]
theorem nextN {v s : AV} {H : AHeap} (hN : NN H v) {K : AV → AHeap → Prop} (h : K (.tup [.agg zp, .d (.int .i64 7)]) H) : CallsA Try.prog 16 [v, s] H K := by
  apply C16
  unfold S16
  refine alloc_open fun k G hG hle hk => ?_
  simp only [hN.lk, go_sem]
  refine nilN_c (hN.le hle) ?_
  simp only [getM_of hG, bd36, cell3, cell4, cell28, cell22, stoA_agg, stoA_get, stoM, setCells, and_self, true_and, Nat.le_refl, Nat.reduceLeDiff, List.cons_append, List.set_cons_zero, List.getElem?_cons_zero, bdA, fillA, setCells, List.zip_cons_cons, List.zip_nil_right, List.zip_nil_left, Option.map_some, and_self, Nat.le_refl, Nat.reduceLeDiff, List.cons_append, go_sem]
  exact ⟨H, set_le hle hk, h⟩
theorem sendN {v s x y z : AV} {a b : Int} {H : AHeap} (hN : NN H v) {K : AV → AHeap → Prop} (h : K (.tup [.agg zp, .d (.int .i64 7)]) H) : CallsA Try.prog 17 [v, s, .agg [.d (.int .i64 a), .d (.int .i64 b)], x, y, z] H K := by
  apply C17
  unfold S17
  refine box_open rfl fun k1 G1 hG1 hle1 hk1 => ?_
  refine alloc_open fun k G hG hle2 hk => ?_
  have hle := le_trans' hle1 hle2
  simp only [hN.lk, go_sem]
  refine nilN_c (hN.le hle) ?_
  simp only [getM_of hG, bd36, cell3, cell4, cell28, cell22, stoA_agg, stoA_get, stoM, setCells, and_self, true_and, Nat.le_refl, Nat.reduceLeDiff, List.cons_append, List.set_cons_zero, List.getElem?_cons_zero, bdA, fillA, setCells, List.zip_cons_cons, List.zip_nil_right, List.zip_nil_left, Option.map_some, and_self, Nat.le_refl, Nat.reduceLeDiff, List.cons_append, go_sem]
  exact ⟨H, set_le hle (le_none hle1 hk), h⟩
theorem takeN {v : AV} {c0 c1 c2 c3 c4 c5 c6 c7 c8 c9 : Dat} {H : AHeap} (hN : NN H v) {K : AV → AHeap → Prop} (h : K (.tup [.agg zp, .d (.bool false), .d (.int .i64 7)]) H) : CallsA Try.prog 14 [v, .agg [.d c0, .d c1, .d c2, .d c3, .d c4, .d c5, .d c6, .d c7, .d c8, .d c9]] H K := by
  apply C14
  unfold S14
  refine box_open rfl fun k1 G1 hG1 hle1 hk1 => ?_
  refine alloc_open fun k G hG hle2 hk => ?_
  have hle := le_trans' hle1 hle2
  simp only [hN.lk, go_sem]
  refine nilN_c (hN.le hle) ?_
  simp only [getM_of hG, stoA_agg, stoA_get, stoM, setCells, and_self, true_and, Nat.le_refl, Nat.reduceLeDiff, List.cons_append, List.set_cons_zero, List.getElem?_cons_zero, go_sem]
  exact ⟨H, set_le hle (le_none hle1 hk), h⟩
end Go.Proofs.Ytfihnifhabbniaa

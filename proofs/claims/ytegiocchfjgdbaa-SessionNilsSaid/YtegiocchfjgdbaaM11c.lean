/- The example of sessions: a client opens. -/
import Derived.Test.YtegiocchfjgdbaaM11b
set_option autoImplicit false
set_option maxRecDepth 100000
set_option linter.unusedVariables false
set_option linter.unusedSimpArgs false
namespace Go.Proofs.Ytegiocchfjgdbaa
open Go Go.AM Go.Proofs
theorem nilP_eql {i v e o : Nat} : nilA 3 .eql (.ptr i v e o) .nilptr = some (.d (.bool false)) := rfl
theorem nilP_neq {i v e o : Nat} : nilA 3 .neq (.ptr i v e o) .nilptr = some (.d (.bool true)) := rfl
theorem nilCk_ptr {i v e o : Nat} : nilCkA (.ptr i v e o) = some (.ptr i v e o) := rfl
theorem le_same {H G : AHeap} {p : Nat} {o : AObj} (h : AHeap.le H G) : AHeap.le (H.set p o) (G.set p o) := fun i x hi => by
  by_cases he : i = p
  · subst he; rw [set_self] at hi ⊢; exact hi
  · rw [set_ne he] at hi ⊢; exact h _ _ hi
theorem le_up' {H G : AHeap} {u : Nat} {o : AObj} (h : AHeap.le H G) (hu : H u = none) : AHeap.le H (G.set u o) := le_set_own h hu
theorem cnone_c {H : AHeap} {c : Nat} {L : List AV} (hc : H c = some (.mem 0 0 15 [.d (.int .i64 1) :: L])) {K : AV → AHeap → Prop} (h : K (.d (.bool false)) H) : CallsA Try.prog 41 [.ptr c 0 0 0] H K := by
  apply C41
  unfold S41
  simp only [nilP_eql, nilCk_ptr, ti56_f0, getM_of hc, go_sem]
  exact ⟨H, le_refl', h⟩
theorem bd24_open {a b : Dat} {H : AHeap} : bdA Try.prog ti24 [0, 2, 3] [.d (.int .i64 1), .d a, .d b] H = some (.agg [.d (.int .i64 1), .d (.int .i64 0), .d a, .d b, .d (.sl true [])], []) := by
  simp only [bdA, bd24, cell3, fillA, setCells, List.zip_cons_cons, List.zip_nil_right, Option.map_some, Nat.reduceLeDiff, List.cons_append, go_sem]
/-- The frame that opens. -/
def fo : Fr := ⟨1, 0, 1, 1, true, []⟩
theorem opening_c {H : AHeap} {c : Nat} {L : List AV} (hc : H c = some (.mem 0 0 15 [.d (.int .i64 1) :: .d (.int .i64 1) :: L])) {K : AV → AHeap → Prop} (h : K fo.av H) : CallsA Try.prog 42 [.ptr c 0 0 0] H K := by
  apply C42
  unfold S42
  refine alloc_open fun u G hG hle hu => ?_
  have hc' := hle _ _ hc
  simp only [nilCk_ptr, ti56_f0, ti56_f1, getM_of hc', bd24_open, go_sem]
  simp only [getM_of hG, getM_set, stoA_agg, stoA_get, stoM, setCells, and_self, true_and, Nat.le_refl, Nat.reduceLeDiff, List.cons_append, List.set_cons_zero, List.getElem?_cons_zero, go_sem]
  exact ⟨H, le_up' hle hu, h⟩
abbrev cObjW (state id seq wait : Int) : AObj := .mem 0 0 15 [[.d (.int .i64 1), .d (.int .i64 1), .d (.int .i64 state), .d (.int .i64 id), .d (.int .i64 seq), .nilptr, .d (.sl true []), .d (.int .i64 wait), .d (.int .i64 0), .d (.sl true []), .d (.bool false), .d (.sl true []), .d (.int .i64 0), .d (.int .i64 0), .d (.int .i64 0)]]
theorem open_c {H : AHeap} {c : Nat} (hc : H c = some (cObj 0 0 0)) {K : AV → AHeap → Prop} (h : K (.tup [fo.av, .d (.int .i64 0)]) (H.set c (cObjW 1 0 0 3))) : CallsA Try.prog 17 [.ptr c 0 0 0] H K := by
  apply C17
  unfold S17
  refine alloc_open fun u G hG hle hu => ?_
  have hc' := hle _ _ hc
  have hcu := le_ne hc hu
  simp only [frzLK_ptr, frzLK_nil]
  refine cnone_c hc' ?_
  simp only [nilCk_ptr, ti56_f2, ti56_f7, getM_of hc', go_sem]
  rw [if_neg (by decide)]
  simp only [nilCk_ptr, ti56_f2, ti56_f7, getM_of hc', getM_set, stoA_agg, stoA_get, stoM, setCells, and_self, true_and, Nat.le_refl, Nat.reduceLeDiff, List.cons_append, List.set_cons_zero, List.getElem?_cons_zero, go_sem]
  refine opening_c set_self ?_
  simp only [getM_ne (Ne.symm hcu), getM_of hG, getM_set, stoA_agg, stoA_get, stoM, setCells, and_self, true_and, Nat.le_refl, Nat.reduceLeDiff, List.cons_append, List.set_cons_zero, List.getElem?_cons_zero, go_sem]
  refine ⟨_, ?_, h⟩
  exact le_set_own (le_same hle) (by rw [set_ne (Ne.symm hcu)]; exact hu)
theorem nilM_f {m : Nat} : nilA 1 .eql (.map m) .nilmap = some (.d (.bool false)) := rfl
theorem snone_c {H : AHeap} {s m g : Nat} {n : Int} (hs : H s = some (sObj m g n)) {K : AV → AHeap → Prop} (h : K (.d (.bool false)) H) : CallsA Try.prog 31 [.ptr s 0 0 0] H K := by
  apply C31
  unfold S31
  simp only [nilP_eql, nilCk_ptr, ti53_f3, getM_of hs, nilM_f, go_sem]
  exact ⟨H, le_refl', h⟩
theorem has1_c {H : AHeap} {K : AV → AHeap → Prop} (h : K (.d (.bool true)) H) : CallsA Try.prog 32 [.d (.sl false [[.int .i64 1]]), .d (.int .i64 1)] H K := by
  apply C32
  unfold S32
  simp only [go_sem]
  apply C48
  unfold S48
  simp only [lenSl_d, List.length_cons, List.length_nil, optA_some]
  refine loop_ind (fun n vs G => vs = [.d (.sl false [[.int .i64 1]]), .d (.int .i64 1), .d (.int .i64 1), .d (.int .i64 0)] ∧ G = H) (n := 0) ⟨rfl, rfl⟩ ?_
  rintro X n vs _ ⟨rfl, rfl⟩ _
  simp only [List.getD_cons_succ, List.getD_cons_zero, ixA, go_sem]
  rw [if_pos (by decide)]
  refine ⟨_, le_refl', ?_⟩
  simp only [go_sem]
  rw [show decide ((0 : Int) ≤ 0) = true by decide]
  exact ⟨_, le_refl', h⟩
end Go.Proofs.Ytegiocchfjgdbaa

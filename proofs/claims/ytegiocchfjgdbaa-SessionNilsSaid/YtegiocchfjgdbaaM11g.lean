/- What nil servers and clients, and zero ones, answer. -/
import Derived.Test.YtegiocchfjgdbaaT11n
import Derived.Test.YtegiocchfjgdbaaM11f
set_option autoImplicit false
set_option maxRecDepth 100000
set_option linter.unusedVariables false
set_option linter.unusedSimpArgs false
namespace Go.Proofs.Ytegiocchfjgdbaa
open Go Go.AM Go.Proofs
/-- No server: nil, or a zero value. -/
def Nos (H : AHeap) (v : AV) : Prop := v = .nilptr ∨ ∃ k a b c d e, v = .ptr k 0 0 0 ∧ H k = some (.mem 0 0 6 [[a, b, c, .nilmap, d, e]])
/-- No client. -/
def Noc (H : AHeap) (v : AV) : Prop := v = .nilptr ∨ ∃ k l, v = .ptr k 0 0 0 ∧ H k = some (.mem 0 0 15 [.d (.int .i64 0) :: l])
theorem Nos.le {H G : AHeap} {v : AV} (h : Nos H v) (hle : AHeap.le H G) : Nos G v := h.imp id fun ⟨k, a, b, c, d, e, h1, h2⟩ => ⟨k, a, b, c, d, e, h1, hle _ _ h2⟩
theorem Noc.le {H G : AHeap} {v : AV} (h : Noc H v) (hle : AHeap.le H G) : Noc G v := h.imp id fun ⟨k, l, h1, h2⟩ => ⟨k, l, h1, hle _ _ h2⟩
theorem frzK_nos {H : AHeap} {v : AV} {l : List AV} {K : List AV → AHeap → Prop} (hv : Nos H v) : frzLK (v :: l) H K = frzLK l H fun l' H' => K (v :: l') H' := by
  rcases hv with rfl | ⟨k, a, b, c, d, e, rfl, _⟩
  · exact frzLK_nilptr
  · exact frzLK_ptr
theorem frzK_noc {H : AHeap} {v : AV} {l : List AV} {K : List AV → AHeap → Prop} (hv : Noc H v) : frzLK (v :: l) H K = frzLK l H fun l' H' => K (v :: l') H' := by
  rcases hv with rfl | ⟨k, l, rfl, _⟩
  · exact frzLK_nilptr
  · exact frzLK_ptr
theorem nilM : nilA 1 .eql .nilmap .nilmap = some (.d (.bool true)) := rfl
theorem nilN_eql : nilA 3 .eql .nilptr .nilptr = some (.d (.bool true)) := rfl
def z0 : Fr := ⟨0, 0, 0, 0, true, []⟩
theorem bd24_z {H : AHeap} : bdA Try.prog ti24 [] [] H = some (z0.av, []) := by
  simp only [bdA, bd24, fillA, List.zip_nil_right, Option.map_some, go_sem]
  rfl
section
variable {H : AHeap} {v : AV} {K : AV → AHeap → Prop}
theorem nos_c (hv : Nos H v) (hk : K (.d (.bool true)) H) : CallsA Try.prog 31 [v] H K := by
  apply C31
  unfold S31
  rcases hv with rfl | ⟨k, a, b, c, d, e, rfl, h1⟩
  · simp only [nilN_eql, go_sem]
    exact ⟨H, le_refl', hk⟩
  · simp only [nilP_eql, nilCk_ptr, ti53_f3, getM_of h1, nilM, go_sem]
    exact ⟨H, le_refl', hk⟩
theorem noc_c (hv : Noc H v) (hk : K (.d (.bool true)) H) : CallsA Try.prog 41 [v] H K := by
  apply C41
  unfold S41
  rcases hv with rfl | ⟨k, l, rfl, h1⟩
  · simp only [nilN_eql, go_sem]
    exact ⟨H, le_refl', hk⟩
  · simp only [nilP_eql, nilCk_ptr, ti56_f0, getM_of h1, Int.reduceEq, Int.reduceNe, Int.reduceLT, Int.reduceLE, not_true_eq_false, not_false_eq_true, decide_true, decide_false, Int.reduceAdd, Int.reduceSub, Int.reduceMul, go_sem]
    exact ⟨H, le_refl', hk⟩
theorem le_box {H G : AHeap} {u : Nat} {o : AObj} (hle : AHeap.le H G) (hu : H u = none) : AHeap.le H (G.set u o) := le_set_own hle hu
theorem todo_z (hv : Nos H v) {x : Dat} (hk : K (.tup [.nilptr, .d (.int .i64 7)]) H) : CallsA Try.prog 37 [v, .d x] H K := by
  apply C37
  unfold S37
  simp only [frzK_nos hv, go_sem]
  refine nos_c hv ?_
  try simp only [go_sem]
  exact ⟨_, le_refl', hk⟩
theorem stake_z (hv : Nos H v) {f : Fr} (hk : K (.tup [.d (.sl true []), .d (.int .i64 7)]) H) : CallsA Try.prog 8 [v, f.av] H K := by
  apply C8
  unfold S8
  refine box_open rfl fun u G hG hle hu => ?_
  simp only [frzK_nos (hv.le hle), go_sem]
  refine nos_c (hv.le hle) ?_
  try simp only [go_sem]
  exact ⟨_, hle, hk⟩
theorem command_z (hv : Nos H v) {x : Dat} (hk : K (.tup [.d (.int .i64 0), .d (.sl true []), .d (.sl true []), .d (.int .i64 7)]) H) : CallsA Try.prog 9 [v, .d x] H K := by
  apply C9
  unfold S9
  simp only [frzK_nos hv, go_sem]
  refine todo_z hv ?_
  simp only [Int.reduceEq, Int.reduceNe, Int.reduceLT, Int.reduceLE, not_true_eq_false, not_false_eq_true, decide_true, decide_false, Int.reduceAdd, Int.reduceSub, Int.reduceMul, go_sem]
  exact ⟨_, le_refl', hk⟩
theorem reply_z (hv : Nos H v) {x y z : Dat} (hk : K (.tup [z0.av, .d (.int .i64 7)]) H) : CallsA Try.prog 10 [v, .d x, .d y, .d z] H K := by
  apply C10
  unfold S10
  refine alloc_open fun u G hG hle hu => ?_
  simp only [frzK_nos (hv.le hle), go_sem]
  refine todo_z (hv.le hle) ?_
  simp only [bd24_z, getM_of hG, getM_set, stoA_agg, stoA_get, stoM, setCells, and_self, true_and, Nat.le_refl, Nat.reduceLeDiff, List.cons_append, List.set_cons_zero, List.getElem?_cons_zero, Int.reduceEq, Int.reduceNe, Int.reduceLT, Int.reduceLE, not_true_eq_false, not_false_eq_true, decide_true, decide_false, Int.reduceAdd, Int.reduceSub, Int.reduceMul, go_sem]
  exact ⟨_, le_box hle hu, hk⟩
theorem sclose_z (hv : Nos H v) {x : Dat} (hk : K (.tup [z0.av, .d (.int .i64 7)]) H) : CallsA Try.prog 11 [v, .d x] H K := by
  apply C11
  unfold S11
  refine alloc_open fun u G hG hle hu => ?_
  simp only [frzK_nos (hv.le hle), go_sem]
  refine nos_c (hv.le hle) ?_
  simp only [bd24_z, getM_of hG, getM_set, stoA_agg, stoA_get, stoM, setCells, and_self, true_and, Nat.le_refl, Nat.reduceLeDiff, List.cons_append, List.set_cons_zero, List.getElem?_cons_zero, Int.reduceEq, Int.reduceNe, Int.reduceLT, Int.reduceLE, not_true_eq_false, not_false_eq_true, decide_true, decide_false, Int.reduceAdd, Int.reduceSub, Int.reduceMul, go_sem]
  exact ⟨_, le_box hle hu, hk⟩
theorem stick_z (hv : Nos H v) (hk : K (.tup [.d (.sl true []), .d (.int .i64 7)]) H) : CallsA Try.prog 12 [v] H K := by
  apply C12
  unfold S12
  simp only [frzK_nos hv, go_sem]
  refine nos_c hv ?_
  try simp only [go_sem]
  exact ⟨_, le_refl', hk⟩
theorem attend_z (hv : Nos H v) {x y : Dat} (hk : K (.d (.int .i64 7)) H) : CallsA Try.prog 13 [v, .d x, .d y] H K := by
  apply C13
  unfold S13
  simp only [frzK_nos hv, go_sem]
  refine nos_c hv ?_
  try simp only [go_sem]
  exact ⟨_, le_refl', hk⟩
theorem sopen_z (hv : Nos H v) (hk : K (.d (.sl true [])) H) : CallsA Try.prog 15 [v] H K := by
  apply C15
  unfold S15
  simp only [frzK_nos hv, go_sem]
  refine nos_c hv ?_
  try simp only [go_sem]
  exact ⟨_, le_refl', hk⟩
theorem scopy_z (hv : Nos H v) (hk : K (.nilptr) H) : CallsA Try.prog 16 [v] H K := by
  apply C16
  unfold S16
  simp only [frzK_nos hv, go_sem]
  refine nos_c hv ?_
  try simp only [go_sem]
  exact ⟨_, le_refl', hk⟩
theorem copen_z (hv : Noc H v) (hk : K (.tup [z0.av, .d (.int .i64 7)]) H) : CallsA Try.prog 17 [v] H K := by
  apply C17
  unfold S17
  refine alloc_open fun u G hG hle hu => ?_
  simp only [frzK_noc (hv.le hle), go_sem]
  refine noc_c (hv.le hle) ?_
  simp only [bd24_z, getM_of hG, getM_set, stoA_agg, stoA_get, stoM, setCells, and_self, true_and, Nat.le_refl, Nat.reduceLeDiff, List.cons_append, List.set_cons_zero, List.getElem?_cons_zero, Int.reduceEq, Int.reduceNe, Int.reduceLT, Int.reduceLE, not_true_eq_false, not_false_eq_true, decide_true, decide_false, Int.reduceAdd, Int.reduceSub, Int.reduceMul, go_sem]
  exact ⟨_, le_box hle hu, hk⟩
theorem send_z (hv : Noc H v) {x y z : Dat} (hk : K (.tup [z0.av, .d (.int .i64 7)]) H) : CallsA Try.prog 43 [v, .d x, .d y, .d z] H K := by
  apply C43
  unfold S43
  refine alloc_open fun u G hG hle hu => ?_
  simp only [frzK_noc (hv.le hle), go_sem]
  refine noc_c (hv.le hle) ?_
  simp only [bd24_z, getM_of hG, getM_set, stoA_agg, stoA_get, stoM, setCells, and_self, true_and, Nat.le_refl, Nat.reduceLeDiff, List.cons_append, List.set_cons_zero, List.getElem?_cons_zero, Int.reduceEq, Int.reduceNe, Int.reduceLT, Int.reduceLE, not_true_eq_false, not_false_eq_true, decide_true, decide_false, Int.reduceAdd, Int.reduceSub, Int.reduceMul, go_sem]
  exact ⟨_, le_box hle hu, hk⟩
theorem ccommand_z (hv : Noc H v) {x : Dat} (hk : K (.tup [z0.av, .d (.int .i64 7)]) H) : CallsA Try.prog 18 [v, .d x] H K := by
  apply C18
  unfold S18
  refine alloc_open fun u G hG hle hu => ?_
  simp only [frzK_noc (hv.le hle), go_sem]
  refine send_z (hv.le hle) ?_
  simp only [bd24_z, getM_of hG, getM_set, stoA_agg, stoA_get, stoM, setCells, and_self, true_and, Nat.le_refl, Nat.reduceLeDiff, List.cons_append, List.set_cons_zero, List.getElem?_cons_zero, Int.reduceEq, Int.reduceNe, Int.reduceLT, Int.reduceLE, not_true_eq_false, not_false_eq_true, decide_true, decide_false, Int.reduceAdd, Int.reduceSub, Int.reduceMul, go_sem]
  exact ⟨_, le_box hle hu, hk⟩
theorem cwrite_z (hv : Noc H v) {x y : Dat} (hk : K (.tup [z0.av, .d (.int .i64 7)]) H) : CallsA Try.prog 19 [v, .d x, .d y] H K := by
  apply C19
  unfold S19
  refine alloc_open fun u G hG hle hu => ?_
  simp only [frzK_noc (hv.le hle), go_sem]
  refine send_z (hv.le hle) ?_
  simp only [bd24_z, getM_of hG, getM_set, stoA_agg, stoA_get, stoM, setCells, and_self, true_and, Nat.le_refl, Nat.reduceLeDiff, List.cons_append, List.set_cons_zero, List.getElem?_cons_zero, Int.reduceEq, Int.reduceNe, Int.reduceLT, Int.reduceLE, not_true_eq_false, not_false_eq_true, decide_true, decide_false, Int.reduceAdd, Int.reduceSub, Int.reduceMul, go_sem]
  exact ⟨_, le_box hle hu, hk⟩
theorem ctake_z (hv : Noc H v) {f : Fr} (hk : K (.tup [.d (.sl true []), .d (.int .i64 7)]) H) : CallsA Try.prog 20 [v, f.av] H K := by
  apply C20
  unfold S20
  refine box_open rfl fun u G hG hle hu => ?_
  simp only [frzK_noc (hv.le hle), go_sem]
  refine noc_c (hv.le hle) ?_
  try simp only [go_sem]
  exact ⟨_, hle, hk⟩
theorem cclose_z (hv : Noc H v) (hk : K (.tup [z0.av, .d (.int .i64 7)]) H) : CallsA Try.prog 21 [v] H K := by
  apply C21
  unfold S21
  refine alloc_open fun u G hG hle hu => ?_
  simp only [frzK_noc (hv.le hle), go_sem]
  refine noc_c (hv.le hle) ?_
  simp only [bd24_z, getM_of hG, getM_set, stoA_agg, stoA_get, stoM, setCells, and_self, true_and, Nat.le_refl, Nat.reduceLeDiff, List.cons_append, List.set_cons_zero, List.getElem?_cons_zero, Int.reduceEq, Int.reduceNe, Int.reduceLT, Int.reduceLE, not_true_eq_false, not_false_eq_true, decide_true, decide_false, Int.reduceAdd, Int.reduceSub, Int.reduceMul, go_sem]
  exact ⟨_, le_box hle hu, hk⟩
theorem ctick_z (hv : Noc H v) (hk : K (.tup [.d (.sl true []), .d (.int .i64 7)]) H) : CallsA Try.prog 22 [v] H K := by
  apply C22
  unfold S22
  simp only [frzK_noc hv, go_sem]
  refine noc_c hv ?_
  try simp only [go_sem]
  exact ⟨_, le_refl', hk⟩
theorem result_z (hv : Noc H v) (hk : K (.tup [.d (.int .i64 0), .d (.sl true []), .d (.bool false)]) H) : CallsA Try.prog 23 [v] H K := by
  apply C23
  unfold S23
  simp only [frzK_noc hv, go_sem]
  refine noc_c hv ?_
  try simp only [go_sem]
  exact ⟨_, le_refl', hk⟩
theorem attention_z (hv : Noc H v) (hk : K (.d (.sl true [])) H) : CallsA Try.prog 24 [v] H K := by
  apply C24
  unfold S24
  simp only [frzK_noc hv, go_sem]
  refine noc_c hv ?_
  try simp only [go_sem]
  exact ⟨_, le_refl', hk⟩
theorem state_z (hv : Noc H v) (hk : K (.d (.int .i64 0)) H) : CallsA Try.prog 25 [v] H K := by
  apply C25
  unfold S25
  simp only [frzK_noc hv, go_sem]
  refine noc_c hv ?_
  try simp only [go_sem]
  exact ⟨_, le_refl', hk⟩
theorem id_z (hv : Noc H v) (hk : K (.d (.int .i64 0)) H) : CallsA Try.prog 26 [v] H K := by
  apply C26
  unfold S26
  simp only [frzK_noc hv, go_sem]
  refine noc_c hv ?_
  try simp only [go_sem]
  exact ⟨_, le_refl', hk⟩
theorem ccopy_z (hv : Noc H v) (hk : K (.nilptr) H) : CallsA Try.prog 27 [v] H K := by
  apply C27
  unfold S27
  simp only [frzK_noc hv, go_sem]
  refine noc_c hv ?_
  try simp only [go_sem]
  exact ⟨_, le_refl', hk⟩
theorem stodo_z (hv : Nos H v) (hk : K (.d (.sl true [])) H) : CallsA Try.prog 14 [v] H K := by
  apply C14
  unfold S14
  simp only [frzK_nos hv, go_sem]
  refine sopen_z hv ?_
  simp only [lenSl_d, List.length_nil, optA_some]
  refine loop_ind (fun n vs G => vs = [v, .d (.sl true []), .d (.sl true []), .d (.int .i64 0), .d (.int .i64 0)] ∧ G = H) (n := 0) ⟨rfl, rfl⟩ ?_
  rintro X n vs _ ⟨rfl, rfl⟩ _
  simp only [List.getD_cons_succ, List.getD_cons_zero, Int.reduceEq, Int.reduceNe, Int.reduceLT, Int.reduceLE, not_true_eq_false, not_false_eq_true, decide_true, decide_false, Int.reduceAdd, Int.reduceSub, Int.reduceMul, go_sem]
  exact ⟨_, le_refl', hk⟩
end
theorem nilP_neqN : nilA 3 .neq .nilptr .nilptr = some (.d (.bool false)) := rfl
theorem bd53_z {H : AHeap} : bdA Try.prog ti53 [] [] H = some (.agg [.d (.sl true []), .d (.int .i64 0), .d (.int .i64 0), .nilmap, .nilmap, .d (.int .i64 0)], []) := by
  simp only [bdA, bd53, fillA, List.zip_nil_right, Option.map_some, go_sem]
theorem bd56_z {H : AHeap} : bdA Try.prog ti56 [] [] H = some (.agg [.d (.int .i64 0), .d (.int .i64 0), .d (.int .i64 0), .d (.int .i64 0), .d (.int .i64 0), .nilptr, .d (.sl true []), .d (.int .i64 0), .d (.int .i64 0), .d (.sl true []), .d (.bool false), .d (.sl true []), .d (.int .i64 0), .d (.int .i64 0), .d (.int .i64 0)], []) := by
  simp only [bdA, bd56, fillA, List.zip_nil_right, Option.map_some, go_sem]
theorem nils_law {n : Int} {f : Fr} : CallsA Try.prog 4 [.d (.int .i64 n), f.av] noHeap fun v _ => v = .d (.bool true) := by
  apply C4
  unfold S4
  refine box_open rfl fun u G hG hle hu => ?_
  have hG : G u = some (.mem 0 0 5 [f.cells]) := hG
  refine loop_ind (fun k vs G' => ∃ (i : Int) (s c : AV), (i = 0 ∨ i = 1 ∨ i = 2) ∧ k = (2 - i).toNat ∧ Nos G' s ∧ Noc G' c ∧ G' u = some (.mem 0 0 5 [f.cells]) ∧ vs = [.d (.int .i64 n), .ptr u 0 0 0, s, c, .d (.int .i64 i)]) (n := 2) ⟨0, _, _, .inl rfl, rfl, .inl rfl, .inl rfl, hG, rfl⟩ ?_
  rintro X k vs G1 ⟨i, s, c, hi, rfl, hs, hc, hu1, rfl⟩ hX
  by_cases h2 : i = 2
  · subst h2
    simp only [List.getD_cons_succ, List.getD_cons_zero, Int.reduceEq, Int.reduceNe, Int.reduceLT, Int.reduceLE, not_true_eq_false, not_false_eq_true, decide_true, decide_false, Int.reduceAdd, Int.reduceSub, Int.reduceMul, go_sem]
    refine first_c ?_
    simp only [go_sem]
    exact ⟨noHeap, fun i o hi => by simp [noHeap] at hi, rfl⟩
  · have hlt : i < 2 := by omega
    have hw : IntKind.i64.wrap (i + 1) = i + 1 := wrap_i64 (by omega) (by omega)
    have hX' := fun (s c : AV) (G' : AHeap) (h1 : Nos G' s) (h2 : Noc G' c) (h3 : G' u = some (.mem 0 0 5 [f.cells])) => hX (2 - (i + 1)).toNat _ G' (by omega) ⟨i + 1, s, c, by omega, rfl, h1, h2, h3, rfl⟩
    simp only [List.getD_cons_succ, List.getD_cons_zero, hlt, if_true, getM_of hu1, frzK_nos hs, go_sem]
    refine stake_z hs ?_
    simp only [frzK_nos hs, go_sem]
    refine command_z hs ?_
    simp only [frzK_nos hs, extractA_0, extractA_1, extractA_2, show ∀ (a b c d : AV), extractA (.tup [a, b, c, d]) 3 = some d from fun _ _ _ _ => rfl, go_sem]
    refine reply_z hs ?_
    simp only [extractA_0, extractA_1, optA_some]
    refine alloc_open fun w1 W1 hW1 lw1 nw1 => ?_
    have u1 := lw1 _ _ hu1
    have uw1 := le_ne hu1 nw1
    have hs1 := hs.le (le_box (o := .mem 0 0 5 [z0.cells]) lw1 nw1)
    have hc1 := hc.le (le_box (o := .mem 0 0 5 [z0.cells]) lw1 nw1)
    have u1' : (W1.set w1 (.mem 0 0 5 [z0.cells])) u = some (.mem 0 0 5 [f.cells]) := by rw [set_ne uw1]; exact u1
    simp only [getM_of hW1, getM_set, stoA_agg, stoA_get, stoM, setCells, and_self, true_and, Nat.le_refl, Nat.reduceLeDiff, List.cons_append, List.set_cons_zero, List.getElem?_cons_zero, frzK_nos hs1, go_sem]
    refine sclose_z hs1 ?_
    simp only [extractA_0, extractA_1, optA_some]
    refine alloc_open fun w2 W2 hW2 lw2 nw2 => ?_
    have u2 := lw2 _ _ u1'
    have uw2 := le_ne u1' nw2
    have hs2 := hs1.le (le_box (o := .mem 0 0 5 [z0.cells]) lw2 nw2)
    have hc2 := hc1.le (le_box (o := .mem 0 0 5 [z0.cells]) lw2 nw2)
    have u2' : (W2.set w2 (.mem 0 0 5 [z0.cells])) u = some (.mem 0 0 5 [f.cells]) := by rw [set_ne uw2]; exact u2
    simp only [getM_of hW2, getM_set, stoA_agg, stoA_get, stoM, setCells, and_self, true_and, Nat.le_refl, Nat.reduceLeDiff, List.cons_append, List.set_cons_zero, List.getElem?_cons_zero, frzK_nos hs2, go_sem]
    generalize W2.set w2 (.mem 0 0 5 [z0.cells]) = G2 at *
    refine stick_z hs2 ?_
    simp only [frzK_nos hs2, not_true_eq_false, Int.reduceEq, Int.reduceNe, Int.reduceLT, Int.reduceLE, not_true_eq_false, not_false_eq_true, decide_true, decide_false, Int.reduceAdd, Int.reduceSub, Int.reduceMul, go_sem]
    refine attend_z hs2 ?_
    simp only [frzK_nos hs2, not_true_eq_false, Int.reduceEq, Int.reduceNe, Int.reduceLT, Int.reduceLE, not_true_eq_false, not_false_eq_true, decide_true, decide_false, Int.reduceAdd, Int.reduceSub, Int.reduceMul, go_sem]
    refine stodo_z hs2 ?_
    simp only [frzK_nos hs2, Int.lt_irrefl, Int.reduceEq, Int.reduceNe, Int.reduceLT, Int.reduceLE, not_true_eq_false, not_false_eq_true, decide_true, decide_false, Int.reduceAdd, Int.reduceSub, Int.reduceMul, go_sem]
    rw [if_neg (by decide)]
    refine sopen_z hs2 ?_
    simp only [frzK_nos hs2, Int.lt_irrefl, Int.reduceEq, Int.reduceNe, Int.reduceLT, Int.reduceLE, not_true_eq_false, not_false_eq_true, decide_true, decide_false, Int.reduceAdd, Int.reduceSub, Int.reduceMul, go_sem]
    rw [if_neg (by decide)]
    refine scopy_z hs2 ?_
    simp only [frzK_noc hc2, nilP_neqN, Int.reduceEq, Int.reduceNe, Int.reduceLT, Int.reduceLE, not_true_eq_false, not_false_eq_true, decide_true, decide_false, Int.reduceAdd, Int.reduceSub, Int.reduceMul, go_sem]
    refine copen_z hc2 ?_
    simp only [frzK_noc hc2, Int.reduceEq, Int.reduceNe, Int.reduceLT, Int.reduceLE, not_true_eq_false, not_false_eq_true, decide_true, decide_false, Int.reduceAdd, Int.reduceSub, Int.reduceMul, go_sem]
    refine ccommand_z hc2 ?_
    simp only [frzK_noc hc2, Int.reduceEq, Int.reduceNe, Int.reduceLT, Int.reduceLE, not_true_eq_false, not_false_eq_true, decide_true, decide_false, Int.reduceAdd, Int.reduceSub, Int.reduceMul, go_sem]
    refine cwrite_z hc2 ?_
    simp only [frzK_noc hc2, getM_of u2', Int.reduceEq, Int.reduceNe, Int.reduceLT, Int.reduceLE, not_true_eq_false, not_false_eq_true, decide_true, decide_false, Int.reduceAdd, Int.reduceSub, Int.reduceMul, go_sem]
    refine ctake_z (f := f) hc2 ?_
    simp only [frzK_noc hc2, Int.reduceEq, Int.reduceNe, Int.reduceLT, Int.reduceLE, not_true_eq_false, not_false_eq_true, decide_true, decide_false, Int.reduceAdd, Int.reduceSub, Int.reduceMul, go_sem]
    refine cclose_z hc2 ?_
    simp only [frzK_noc hc2, Int.reduceEq, Int.reduceNe, Int.reduceLT, Int.reduceLE, not_true_eq_false, not_false_eq_true, decide_true, decide_false, Int.reduceAdd, Int.reduceSub, Int.reduceMul, go_sem]
    refine ctick_z hc2 ?_
    simp only [frzK_noc hc2, Int.reduceEq, Int.reduceNe, Int.reduceLT, Int.reduceLE, not_true_eq_false, not_false_eq_true, decide_true, decide_false, Int.reduceAdd, Int.reduceSub, Int.reduceMul, go_sem]
    refine result_z hc2 ?_
    simp only [frzK_noc hc2, Int.reduceEq, Int.reduceNe, Int.reduceLT, Int.reduceLE, not_true_eq_false, not_false_eq_true, decide_true, decide_false, Int.reduceAdd, Int.reduceSub, Int.reduceMul, go_sem]
    refine attention_z hc2 ?_
    simp only [frzK_noc hc2, Int.lt_irrefl, Int.reduceEq, Int.reduceNe, Int.reduceLT, Int.reduceLE, not_true_eq_false, not_false_eq_true, decide_true, decide_false, Int.reduceAdd, Int.reduceSub, Int.reduceMul, go_sem]
    rw [if_neg (by decide)]
    refine state_z hc2 ?_
    simp only [frzK_noc hc2, Int.reduceEq, Int.reduceNe, Int.reduceLT, Int.reduceLE, not_true_eq_false, not_false_eq_true, decide_true, decide_false, Int.reduceAdd, Int.reduceSub, Int.reduceMul, go_sem]
    refine id_z hc2 ?_
    simp only [frzK_noc hc2, Int.reduceEq, Int.reduceNe, Int.reduceLT, Int.reduceLE, not_true_eq_false, not_false_eq_true, decide_true, decide_false, Int.reduceAdd, Int.reduceSub, Int.reduceMul, go_sem]
    refine ccopy_z hc2 ?_
    simp only [nilP_neqN, bd53_z, go_sem]
    refine box_open rfl fun w3 W3 hW3 lw3 nw3 => ?_
    simp only [bd56_z, go_sem]
    refine box_open rfl fun w4 W4 hW4 lw4 nw4 => ?_
    simp only [hw, go_sem]
    exact hX' _ _ _ (.inr ⟨w3, _, _, _, _, _, rfl, lw4 _ _ hW3⟩) (.inr ⟨w4, _, rfl, hW4⟩) (lw4 _ _ (lw3 _ _ u2'))
theorem nils_row (xs : List Dat) (h1 : DatOk Try.prog 9 3 xs) (ys : List Dat) (h2 : DatOk Try.prog 9 24 ys) : CallsA Try.prog 4 [argAV (aggT Try.prog 3) xs, argAV (aggT Try.prog 24) ys] noHeap fun v _ => v = .d (.bool true) := by
  obtain ⟨f, hf, _⟩ := fr_open h2
  rw [datOk_int Try.underlying3] at h1
  obtain ⟨n, rfl, _⟩ := h1
  rw [hf, show argAV (aggT Try.prog 3) [.int .i64 n] = .d (.int .i64 n) by rw [show aggT Try.prog 3 = false by kernel_rfl]; rfl]
  exact nils_law
end Go.Proofs.Ytegiocchfjgdbaa

/- The law of nil buses. -/
import Derived.Test.YtadpakkenokilaaM2d
set_option autoImplicit false
set_option maxRecDepth 100000
set_option linter.unusedVariables false
set_option linter.unusedSimpArgs false
namespace Go.Proofs.Ytadpakkenokilaa
open Go Go.AM Go.Proofs
def run0 : Nat → List St × Int
  | 0 => (List.replicate 3 (newSt true []).begin, 0)
  | n + 1 => step (lostB []) (run0 n).1 (run0 n).2
theorem run0_q : ∀ i : Fin 11, quietB (run0 i.val).1 = decide (i.val = 10) ∧ 0 ≤ (run0 i.val).2 ∧ (run0 i.val).2 ≤ 100 := by decide +kernel
theorem run0_n : nodeB (run0 10).1 0 = 1 ∧ nodeB (run0 10).1 1 = 2 ∧ nodeB (run0 10).1 2 = 3 := by decide +kernel
theorem rising_nil : Rising [] := List.Pairwise.nil
theorem new_ok : (newSt true []).Ok := newSt_ok (by simp) (by simp)
theorem awake_c {H : AHeap} {K : AV → AHeap → Prop} (hk : ∀ H', K (.d (.bool true)) H') : CallsA Try.prog 10 [] H K := by
  apply C10
  unfold S10
  try simp only [frzLK_d, frzLK_nil]
  refine newNil_c fun k H1 hB hle hk1 => ?_
  simp only [go_sem]
  refine loop_ind (fun r vs G => ∃ (i : Nat) (sv : AV) (ids : List Nat), i ≤ 3 ∧ r = 3 - i ∧ BusAt G k true [] sv ids (List.replicate i (newSt true []).begin) 0 ∧ vs = [.ptr k 0 0 0, .d (.int .i64 i), .junk]) (n := 3) ⟨0, _, _, by omega, by omega, hB, rfl⟩ ?_
  rintro X r vs G ⟨i, sv, ids, hi, rfl, hG, rfl⟩ hX
  simp only [List.getD_cons_succ, List.getD_cons_zero, go_sem]
  split
  · rename_i hlt
    have hi' : i < 3 := by omega
    refine Add_c (row := []) hG (by simp) (by simp) (fun _ => rfl) (fun h => by rw [List.length_replicate] at h; omega) fun _ G1 sv1 ids1 hG1 _ _ => ?_
    simp only [List.length_replicate, not_true_eq_false, if_false, go_sem] at hG1 ⊢
    have hlen : (List.replicate i (newSt true []).begin ++ [newSt true []]).length = i + 1 := by simp
    have hget : (List.replicate i (newSt true []).begin ++ [newSt true []]).getD i default = newSt true [] := by
      rw [List.getD_eq_getElem?_getD, List.getElem?_append_right (by simp)]
      simp
    refine Guess_c (i := i) hG1 (by omega) (by rw [hget]; rfl) fun G2 hG2 _ => ?_
    rw [hget] at hG2
    have hset : (List.replicate i (newSt true []).begin ++ [newSt true []]).set i (newSt true []).begin = List.replicate (i + 1) (newSt true []).begin := by
      rw [List.set_append_right _ _ (by simp), List.length_replicate, Nat.sub_self, List.set_cons_zero, List.replicate_succ']
    rw [hset] at hG2
    simp only [not_true_eq_false, if_false, go_sem]
    rw [wrap_i64 (by omega) (by omega)]
    exact hX (3 - (i + 1)) _ _ (by omega) ⟨i + 1, sv1, ids1, by omega, rfl, hG2, by simp⟩
  · rename_i hge
    have : i = 3 := by omega
    subst this
    clear hX hB hle hk1
    refine loop_ind (fun r vs G => ∃ (t : Nat), t ≤ 10 ∧ r = 10 - t ∧ BusAt G k true [] sv ids (run0 t).1 (run0 t).2 ∧ vs = [.ptr k 0 0 0, .d (.int .i64 3), .d (.int .i64 t)]) (n := 10) ⟨0, by omega, by omega, hG, rfl⟩ ?_
    rintro X r vs G ⟨t, ht, rfl, hG, rfl⟩ hX
    obtain ⟨q1, q2, q3⟩ := run0_q ⟨t, by omega⟩
    simp only at q1 q2 q3
    simp only [List.getD_cons_succ, List.getD_cons_zero, go_sem]
    rw [if_pos (by omega)]
    try simp only [go_sem]
    refine Quiet_c hG ?_
    rw [q1]
    simp only [go_sem]
    by_cases h10 : t = 10
    · subst h10
      rw [if_neg (by simp)]
      refine Quiet_c hG ?_
      rw [q1]
      simp only [decide_true, if_true, go_sem]
      refine Node_c hG ?_
      rw [run0_n.1]
      simp only [if_true, go_sem]
      refine Node_c hG ?_
      rw [run0_n.2.1]
      simp only [if_true, go_sem]
      refine Node_c hG ?_
      rw [run0_n.2.2]
      simp only [decide_true, go_sem]
      exact ⟨_, le_refl', hk _⟩
    · rw [if_pos h10]
      refine Step_c hG rising_nil (by simp) (by omega) fun G2 hG2 _ => ?_
      rw [wrap_i64 (by omega) (by omega)]
      exact hX (10 - (t + 1)) _ _ (by omega) ⟨t + 1, by omega, rfl, hG2, by simp⟩
/-- No bus: nil, or a zero value. -/
def Nob (H : AHeap) (v : AV) : Prop := v = .nilptr ∨ ∃ k a b c, v = .ptr k 0 0 0 ∧ H k = some (.mem 0 0 4 [[.d (.bool false), a, b, c]])
theorem nilN_eql : nilA 3 .eql .nilptr .nilptr = some (.d (.bool true)) := rfl
theorem nilN_neq : nilA 3 .neq .nilptr .nilptr = some (.d (.bool false)) := rfl
theorem frzK_nob {H : AHeap} {v : AV} {l : List AV} {K : List AV → AHeap → Prop} (hv : Nob H v) : frzLK (v :: l) H K = frzLK l H fun l' H' => K (v :: l') H' := by
  rcases hv with rfl | ⟨k, a, b, c, rfl, _⟩
  · exact frzLK_nilptr
  · exact frzLK_ptr
section
variable {H : AHeap} {v : AV} {K : AV → AHeap → Prop}
theorem nobN_c (hv : Nob H v) (hk : K (.d (.bool true)) H) : CallsA Try.prog 31 [v] H K := by
  apply C31
  unfold S31
  rcases hv with rfl | ⟨k, a, b, c, rfl, h1⟩
  · simp only [nilN_eql, go_sem]
    exact ⟨H, le_refl', hk⟩
  · simp only [nilP_eql, nilCk_ptr, ti52_f0, getM_of h1, Bool.not_false, go_sem]
    exact ⟨H, le_refl', hk⟩
theorem nobAsked_c (hv : Nob H v) {x : Dat} (hk : K (.d (.int .i64 7)) H) : CallsA Try.prog 33 [v, .d x] H K := by
  apply C33
  unfold S33
  simp only [frzK_nob hv, go_sem]
  refine nobN_c hv ?_
  simp only [go_sem]
  exact ⟨H, le_refl', hk⟩
theorem nobAdd_c (hv : Nob H v) {x : Dat} (hk : K (.tup [.d (.int .i64 0), .d (.int .i64 7)]) H) : CallsA Try.prog 12 [v, .d x] H K := by
  apply C12
  unfold S12
  simp only [frzK_nob hv, go_sem]
  refine nobN_c hv ?_
  simp only [go_sem]
  exact ⟨H, le_refl', hk⟩
theorem nobTurn_c (hv : Nob H v) {x y : Dat} (hk : K (.d (.int .i64 7)) H) : CallsA Try.prog 24 [v, .d x, .d y] H K := by
  apply C24
  unfold S24
  simp only [frzK_nob hv, go_sem]
  refine nobAsked_c hv ?_
  simp only [Int.reduceEq, not_false_eq_true, if_true, go_sem]
  exact ⟨H, le_refl', hk⟩
theorem nobGuess_c (hv : Nob H v) {x : Dat} (hk : K (.d (.int .i64 7)) H) : CallsA Try.prog 13 [v, .d x] H K := by
  apply C13
  unfold S13
  simp only [frzK_nob hv, go_sem]
  refine nobAsked_c hv ?_
  simp only [Int.reduceEq, not_false_eq_true, if_true, go_sem]
  exact ⟨H, le_refl', hk⟩
theorem nobStep_c (hv : Nob H v) (hk : K (.d (.int .i64 7)) H) : CallsA Try.prog 15 [v] H K := by
  apply C15
  unfold S15
  simp only [frzK_nob hv, go_sem]
  refine nobN_c hv ?_
  simp only [go_sem]
  exact ⟨H, le_refl', hk⟩
theorem nobNode_c (hv : Nob H v) {x : Dat} (hk : K (.d (.int .i64 0)) H) : CallsA Try.prog 16 [v, .d x] H K := by
  apply C16
  unfold S16
  simp only [frzK_nob hv, go_sem]
  refine nobAsked_c hv ?_
  simp only [Int.reduceEq, not_false_eq_true, if_true, go_sem]
  exact ⟨H, le_refl', hk⟩
theorem nobFrames_c (hv : Nob H v) (hk : K (.d (.int .i64 0)) H) : CallsA Try.prog 25 [v] H K := by
  apply C25
  unfold S25
  simp only [frzK_nob hv, go_sem]
  refine nobN_c hv ?_
  simp only [go_sem]
  exact ⟨H, le_refl', hk⟩
theorem nobClashes_c (hv : Nob H v) (hk : K (.d (.sl true [])) H) : CallsA Try.prog 21 [v] H K := by
  apply C21
  unfold S21
  simp only [frzK_nob hv, go_sem]
  refine nobN_c hv ?_
  simp only [go_sem]
  exact ⟨H, le_refl', hk⟩
theorem nobQuiet_c (hv : Nob H v) (hk : K (.d (.bool false)) H) : CallsA Try.prog 14 [v] H K := by
  apply C14
  unfold S14
  simp only [frzK_nob hv, go_sem]
  refine nobN_c hv ?_
  simp only [Bool.not_true, go_sem]
  exact ⟨H, le_refl', hk⟩
theorem nobCopy_c (hv : Nob H v) (hk : K .nilptr H) : CallsA Try.prog 26 [v] H K := by
  apply C26
  unfold S26
  simp only [frzK_nob hv, go_sem]
  refine nobN_c hv ?_
  simp only [go_sem]
  exact ⟨H, le_refl', hk⟩
theorem sameNil_c (hk : K (.d (.bool true)) H) : CallsA Try.prog 27 [.nilptr, .nilptr] H K := by
  apply C27
  unfold S27
  simp only [go_sem]
  refine nobN_c (.inl rfl) ?_
  simp only [go_sem]
  refine nobN_c (.inl rfl) ?_
  simp only [go_sem]
  refine nobN_c (.inl rfl) ?_
  simp only [go_sem]
  exact ⟨H, le_refl', hk⟩
end
theorem bd52_0 {H : AHeap} : bdA Try.prog ti52 [] [] H = some (.agg [.d (.bool false), .d (.sl true []), .d (.sl true []), .d (.int .i64 0)], []) := rfl
theorem bs25_2 {p : Nat} {H : AHeap} {n : Nat} : bsA ti25 2 [0, 1] [.nilptr, .ptr p 0 0 0] H n = some (.rs n 0 1 0 2, [(n, .mem 0 0 1 [[.nilptr], [.ptr p 0 0 0]])]) := rfl
theorem awake_end {G : AHeap} : CallsA Try.prog 10 [] G fun v H => retF [v] H fun v _ => v = .d (.bool true) := awake_c fun H' => by simp only [go_sem]; exact ⟨_, le_refl', rfl⟩
theorem nils_law {a : Int} {b : Bool} : CallsA Try.prog 8 [.d (.int .i64 a), .d (.bool b)] noHeap fun v _ => v = .d (.bool true) := by
  apply C8
  unfold S8
  simp only [bd52_0, go_sem]
  refine box_open rfl fun p G hG _ _ => ?_
  simp only [AV.cells] at hG
  intro m hm
  simp only [bs25_2, go_sem]
  have hp : (G.set m (.mem 0 0 1 [[.nilptr], [.ptr p 0 0 0]])) p = some (.mem 0 0 4 [[.d (.bool false), .d (.sl true []), .d (.sl true []), .d (.int .i64 0)]]) := by rw [set_ne (le_ne hG hm)]; exact hG
  have hm2 : (G.set m (.mem 0 0 1 [[.nilptr], [.ptr p 0 0 0]])) m = some (.mem 0 0 1 [[.nilptr], [.ptr p 0 0 0]]) := set_self
  generalize (G.set m (.mem 0 0 1 [[.nilptr], [.ptr p 0 0 0]])) = W at hp hm2
  refine loop_ind (fun r vs G => G = W ∧ ∃ i : Nat, i ≤ 2 ∧ r = 2 - i ∧ vs = [.d (.int .i64 a), .d (.bool b), .rs m 0 1 0 2, .d (.int .i64 i)]) (n := 2) ⟨rfl, 0, by omega, by omega, rfl⟩ ?_
  rintro X r vs G ⟨rfl, i, hi, rfl, rfl⟩ hX
  simp only [List.getD_cons_succ, List.getD_cons_zero, go_sem]
  split
  · rename_i hlt
    have key : ∃ v, Nob G v ∧ indexAddrA ti53 1 (.rs m 0 1 0 2) (.d (.int .i64 (i : Int))) = some (.ptr m 0 i 0) ∧ ldV false 1 (.ptr m 0 i 0) G = some v := by
      have hi2 : i = 0 ∨ i = 1 := by omega
      rcases hi2 with rfl | rfl
      · exact ⟨.nilptr, .inl rfl, rfl, by simp only [ldV_get, getM_of hm2, ldM]; rfl⟩
      · exact ⟨.ptr p 0 0 0, .inr ⟨p, _, _, _, rfl, hp⟩, rfl, by simp only [ldV_get, getM_of hm2, ldM]; rfl⟩
    obtain ⟨v, hv, e1, e2⟩ := key
    rw [e1, optA_some, e2, optA_some]
    simp only [frzK_nob hv, go_sem]
    refine nobAdd_c hv ?_
    simp only [ne_eq, not_true_eq_false, if_false, frzK_nob hv, go_sem]
    refine nobTurn_c hv ?_
    simp only [ne_eq, not_true_eq_false, if_false, frzK_nob hv, go_sem]
    refine nobGuess_c hv ?_
    simp only [ne_eq, not_true_eq_false, if_false, frzK_nob hv, go_sem]
    refine nobStep_c hv ?_
    simp only [ne_eq, not_true_eq_false, if_false, frzK_nob hv, go_sem]
    refine nobNode_c hv ?_
    simp only [ne_eq, not_true_eq_false, if_false, frzK_nob hv, go_sem]
    refine nobFrames_c hv ?_
    simp only [ne_eq, not_true_eq_false, if_false, frzK_nob hv, go_sem]
    refine nobClashes_c hv ?_
    simp only [ne_eq, List.length_nil, Int.natCast_zero, not_true_eq_false, if_false, frzK_nob hv, go_sem]
    try simp only [show ((0 : Nat) : Int) = 0 from rfl, not_true_eq_false, if_false, frzK_nob hv, go_sem]
    refine nobQuiet_c hv ?_
    simp only [Bool.false_eq_true, if_false, frzK_nob hv, go_sem]
    refine nobCopy_c hv ?_
    simp only [nilN_neq, Bool.false_eq_true, if_false, go_sem]
    rw [wrap_i64 (by omega) (by omega)]
    exact hX (2 - (i + 1)) _ _ (by omega) ⟨rfl, i + 1, by omega, rfl, by simp⟩
  · rename_i hge
    refine sameNil_c ?_
    simp only [if_true, go_sem]
    exact awake_end
theorem nils_row (xs : List Dat) (h : DatOk Try.prog 9 3 xs) (ys : List Dat) (h2 : DatOk Try.prog 9 4 ys) : CallsA Try.prog 8 [argAV (aggT Try.prog 3) xs, argAV (aggT Try.prog 4) ys] noHeap fun v _ => v = .d (.bool true) := by
  rw [datOk_int (show Try.prog.underlying 3 = some (.int .i64) from Try.underlying3)] at h
  rw [datOk_bool (show Try.prog.underlying 4 = some .bool from Try.underlying4)] at h2
  obtain ⟨a, rfl, _⟩ := h
  obtain ⟨b, rfl⟩ := h2
  rw [show aggT Try.prog 3 = false by kernel_rfl, show aggT Try.prog 4 = false by kernel_rfl]
  exact nils_law
end Go.Proofs.Ytadpakkenokilaa

/- The law of what is allotted. -/
import Derived.Test.YtlaojbclmcageaaM15h
set_option autoImplicit false
set_option maxRecDepth 100000
set_option linter.unusedVariables false
set_option linter.unusedSimpArgs false
namespace Go.Proofs.Ytlaojbclmcageaa
open Go Go.AM Go.Proofs
theorem part_mem {x : Ext} {k : Nat} {b : Int} (h : b ∈ part x k) : x.1 ≤ b ∧ b < x.1 + k := by
  obtain ⟨i, hi, rfl⟩ := List.mem_map.1 h
  have := List.mem_range.1 hi
  omega
theorem pick_mem {m : List Bool} {n b : Int} (h0 : 0 ≤ n) (h : b ∈ pick m n) : 0 ≤ b ∧ b < m.length := by
  unfold pick at h
  split at h
  · simp at h
  · split at h
    · rename_i x hx
      have h1 := part_mem h
      have h2 := runs_bd (List.mem_of_find?_eq_some hx)
      have h3 := List.find?_some hx
      simp only [decide_eq_true_eq] at h3
      omega
    · exact fr_mem (List.mem_of_mem_take h)
theorem pick_len {m : List Bool} {n : Int} : (pick m n).length ≤ n.toNat := by
  unfold pick
  split
  · simp
  · split
    · rw [part_len]; exact Nat.le_refl _
    · rw [List.length_take]; omega
/-- What Allot answers. -/
def allE (m : List Bool) (n : Int) : Int := if m.length ≤ 300 ∧ 0 ≤ n then (if n ≤ (fr m).length then 0 else 150) else 2
def allL (m : List Bool) (n : Int) : List Ext := if allE m n = 0 then short [] (pick m n) else []
def allM (m : List Bool) (n : Int) : List Bool := if allE m n = 0 then mk m (pick m n) true else []
theorem Allot_c {nl : Bool} {m : List Bool} {n : Int} (hnl : nl = true → m = []) {H : AHeap} {K : AV → AHeap → Prop} (h : ∀ n1 n2, (n1 = true → allL m n = []) → (n2 = true → allM m n = []) → K (.tup [.d (.sl n1 (es (allL m n))), .d (.sl n2 (bls (allM m n))), .d (.int .i64 (allE m n))]) H) : CallsA Try.prog 12 [.d (.sl nl (bls m)), .d (.int .i64 n)] H K := by
  have no : ∀ e : Int, e ≠ 0 → allE m n = e → finA (.tup [.d (.sl true []), .d (.sl true []), .d (.int .i64 e)]) H K := fun e h0 he => by
    have := h true true (fun _ => by unfold allL; rw [he, if_neg h0]) (fun _ => by unfold allM; rw [he, if_neg h0])
    unfold allL allM at this
    rw [he, if_neg h0, if_neg h0] at this
    exact ⟨H, le_refl', this⟩
  apply C12
  unfold S12
  simp only [go_sem]
  refine isMap_c (l := []) (by simp [Wide]) (by simp) ?_
  simp only [val0, go_sem]
  split
  · exact no 2 (by decide) (by unfold allE; rw [if_neg (by omega)])
  rename_i h1
  try simp only [go_sem]
  split
  · exact no 2 (by decide) (by unfold allE; rw [if_neg (by omega)])
  rename_i h2
  try simp only [go_sem]
  have hl : m.length ≤ 300 := by omega
  refine count_c (by omega) ?_
  simp only [go_sem]
  split
  · exact no 150 (by decide) (by unfold allE; rw [if_pos (by omega), if_neg (by omega)])
  rename_i h3
  have hE : allE m n = 0 := by unfold allE; rw [if_pos (by omega), if_pos (by omega)]
  have hfl := fr_len (m := m)
  have hpl := pick_len (m := m) (n := n)
  unfold allL allM at h
  rw [hE, if_pos rfl, if_pos rfl] at h
  try simp only [go_sem]
  refine allot_c hl (by omega) (by omega) fun n2 hn2 => ?_
  simp only [go_sem]
  refine of_c (fun b hb => by have := pick_mem (by omega) hb; omega) (by omega) fun n3 hn3 => ?_
  simp only [go_sem]
  refine marked_c (by omega) (by omega) hnl (fun b hb => pick_mem (by omega) hb) fun n4 hn4 => ?_
  simp only [go_sem]
  exact ⟨H, le_refl', h n3 n4 hn3 hn4⟩
theorem rAllot_c {nl : Bool} {m : List Bool} {n : Int} {H : AHeap} {K : AV → AHeap → Prop} (h : ∀ n1 n2, (n1 = true → allL m n = []) → (n2 = true → allM m n = []) → K (.tup [.d (.sl n1 (es (allL m n))), .d (.sl n2 (bls (allM m n))), .d (.int .i64 (allE m n))]) H) : CallsA Try.prog 13 [.d (.sl nl (bls m)), .d (.int .i64 n)] H K := by
  have no : ∀ e : Int, e ≠ 0 → allE m n = e → finA (.tup [.d (.sl true []), .d (.sl true []), .d (.int .i64 e)]) H K := fun e h0 he => by
    have := h true true (fun _ => by unfold allL; rw [he, if_neg h0]) (fun _ => by unfold allM; rw [he, if_neg h0])
    unfold allL allM at this
    rw [he, if_neg h0, if_neg h0] at this
    exact ⟨H, le_refl', this⟩
  apply C13
  unfold S13
  simp only [bls_len, go_sem]
  split
  · exact no 2 (by decide) (by unfold allE; rw [if_neg (by omega)])
  rename_i h1
  try simp only [go_sem]
  split
  · exact no 2 (by decide) (by unfold allE; rw [if_neg (by omega)])
  rename_i h2
  have hl : m.length ≤ 300 := by omega
  try simp only [go_sem]
  refine rfree_c (by omega) fun n1 hn1 => ?_
  simp only [ints_len, go_sem]
  split
  · exact no 150 (by decide) (by unfold allE; rw [if_pos (by omega), if_neg (by omega)])
  rename_i h3
  have hE : allE m n = 0 := by unfold allE; rw [if_pos (by omega), if_pos (by omega)]
  have hfl := fr_len (m := m)
  have hpl := pick_len (m := m) (n := n)
  unfold allL allM at h
  rw [hE, if_pos rfl, if_pos rfl] at h
  try simp only [go_sem]
  refine picks_c hl (by omega) (by omega) fun n2 hn2 => ?_
  simp only [go_sem]
  refine short_c (l := []) (by simp) (by simp [Bd]) (fun b hb => by have := pick_mem (by omega) hb; omega) (by omega) fun n3 hn3 => ?_
  simp only [go_sem]
  refine rmarked_c (by omega) (by omega) (fun b hb => pick_mem (by omega) hb) fun n4 hn4 => ?_
  simp only [go_sem]
  exact ⟨H, le_refl', h n3 n4 hn3 hn4⟩
def m0 : List Bool := [true, true, false, false, true, false, false, false, false, false]
theorem all3 : allL m0 3 = [(5, 3)] ∧ allE m0 3 = 0 := by decide
theorem all6 : allL m0 6 = [(2, 2), (5, 4)] ∧ allE m0 6 = 0 := by decide
theorem bsm0 {H : AHeap} {n : Nat} : bsA ti4 10 [0, 1, 2, 3, 4, 5, 6, 7, 8, 9] [.d (.bool true), .d (.bool true), .d (.bool false), .d (.bool false), .d (.bool true), .d (.bool false), .d (.bool false), .d (.bool false), .d (.bool false), .d (.bool false)] H n = some (.lit (bls m0), []) := rfl
theorem bs66_2 {a b c d : Dat} {H : AHeap} {n : Nat} : bsA ti66 2 [0, 1] [.agg [.d a, .d b], .agg [.d c, .d d]] H n = some (.lit [[a, b], [c, d]], []) := rfl
theorem first_c {H : AHeap} {K : AV → AHeap → Prop} (h : K (.d (.bool true)) H) : CallsA Try.prog 18 [] H K := by
  apply C18
  unfold S18
  intro n _
  simp only [bsm0, go_sem]
  refine Allot_c (m := m0) (by simp) fun n1 n2 _ _ => ?_
  simp only [all3, go_sem]
  refine Allot_c (m := m0) (by simp) fun n3 n4 _ _ => ?_
  simp only [all6, bd66_eq, if_true, go_sem]
  intro n5 _
  simp only [bs66_1, go_sem]
  refine same_c (a := [(5, 3)]) (b := [(5, 3)]) (by simp) ?_
  simp only [decide_true, bd66_eq, go_sem]
  intro n6 _
  simp only [bs66_2, go_sem]
  refine same_c (a := [(2, 2), (5, 4)]) (b := [(2, 2), (5, 4)]) (by simp) ?_
  simp only [decide_true, go_sem]
  exact ⟨H, le_refl', h⟩
theorem first_end {G : AHeap} : CallsA Try.prog 18 [] G fun v H => retF [v] H fun v _ => v = .d (.bool true) := first_c (by simp only [go_sem]; exact ⟨_, le_refl', rfl⟩)
theorem short_len' {m : List Bool} {n : Int} : (allL m n).length ≤ 300 ∨ allL m n = [] := by
  unfold allL
  split
  · left
    rename_i hE
    unfold allE at hE
    split at hE
    · split at hE
      · have := short_len (l := []) (bs := pick m n)
        have := pick_len (m := m) (n := n)
        have := fr_len (m := m)
        simp only [List.length_nil] at *
        omega
      · cases hE
    · cases hE
  · exact .inr rfl
theorem allL_len {m : List Bool} {n : Int} : (allL m n).length ≤ 300 := by
  rcases short_len' (m := m) (n := n) with h | h
  · exact h
  · rw [h]; simp
theorem allM_len {m : List Bool} {n : Int} : (allM m n).length ≤ 300 := by
  unfold allM
  split
  · rename_i hE
    unfold allE at hE
    rw [mk_len]
    split at hE
    · omega
    · cases hE
  · simp
theorem allots_law {nl : Bool} {m : List Bool} {n : Int} (hnl : nl = true → m = []) : CallsA Try.prog 3 [.d (.sl nl (bls m)), .d (.int .i64 n)] noHeap fun v _ => v = .d (.bool true) := by
  have h1 := allL_len (m := m) (n := n)
  have h2 := allM_len (m := m) (n := n)
  apply C3
  unfold S3
  simp only [go_sem]
  refine Allot_c hnl fun n1 n2 _ _ => ?_
  simp only [go_sem]
  refine rAllot_c fun n3 n4 _ _ => ?_
  simp only [go_sem]
  refine Left_c ?_
  simp only [go_sem]
  refine rLeft_c ?_
  simp only [go_sem]
  refine same_c (by omega) ?_
  simp only [decide_true, go_sem]
  refine sameMaps_c (by omega) ?_
  simp only [decide_true, if_true, go_sem]
  exact first_end
end Go.Proofs.Ytlaojbclmcageaa

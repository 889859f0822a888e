/- What compares, counts and marks. -/
import Derived.Test.YtlaojbclmcageaaT15m
set_option autoImplicit false
set_option maxRecDepth 100000
set_option linter.unusedVariables false
set_option linter.unusedSimpArgs false
namespace Go.Proofs.Ytlaojbclmcageaa
open Go Go.AM Go.Proofs
theorem take_eq_succ {α : Type} {a b : List α} {i : Nat} (ha : i < a.length) (hb : i < b.length) (h : a.take i = b.take i) (he : a[i] = b[i]) : a.take (i + 1) = b.take (i + 1) := by
  rw [List.take_add_one, List.take_add_one, h, List.getElem?_eq_getElem ha, List.getElem?_eq_getElem hb, he]
theorem ext_neq {a b c d : Int} : aggA Try.prog .neq 66 (.agg [.d (.int .i64 a), .d (.int .i64 b)]) (.agg [.d (.int .i64 c), .d (.int .i64 d)]) = some (.d (.bool (!(a == c && (b == d && true))))) := by kernel_rfl
theorem same_c {n1 n2 : Bool} {a b : List Ext} (hl : a.length < 2 ^ 62) {H : AHeap} {K : AV → AHeap → Prop} (h : K (.d (.bool (decide (a = b)))) H) : CallsA Try.prog 16 [.d (.sl n1 (es a)), .d (.sl n2 (es b))] H K := by
  apply C16
  unfold S16
  simp only [es_len, go_sem]
  split
  · rename_i hne
    exact ⟨H, le_refl', k_bool h (by symm; apply decide_eq_false; intro he; apply hne; rw [he])⟩
  · rename_i hlen
    have hlen : a.length = b.length := by omega
    refine loop_ind (fun m vs H' => H' = H ∧ ∃ i : Nat, i ≤ a.length ∧ m = a.length - i ∧ a.take i = b.take i ∧ vs = [.d (.sl n1 (es a)), .d (.sl n2 (es b)), .d (.int .i64 i)]) (n := a.length) ⟨rfl, 0, by omega, by omega, rfl, rfl⟩ ?_
    rintro X m vs H' ⟨rfl, i, hi, rfl, ht, rfl⟩ hX
    simp only [List.getD_cons_succ, List.getD_cons_zero, es_len, go_sem]
    split
    · rename_i hlt
      have h1 : i < a.length := by omega
      have h2 : i < b.length := by omega
      simp only [sl_get (ti := ti23) (e := 66) (esz := 2) rfl (by omega : (0 : Int) ≤ i) (by simpa using es_get h1) rfl, sl_get (ti := ti23) (e := 66) (esz := 2) rfl (by omega : (0 : Int) ≤ i) (by simpa using es_get h2) rfl, ex, List.map_cons, List.map_nil, ext_neq, go_sem]
      split
      · rename_i hne
        exact ⟨H', le_refl', k_bool h (by symm; apply decide_eq_false; intro he; subst he; simp at hne)⟩
      · rename_i he
        rw [wrap_i64 (by omega) (by omega)]
        refine hX (a.length - (i + 1)) _ _ (by omega) ⟨rfl, i + 1, by omega, rfl, take_eq_succ h1 h2 ht ?_, by simp⟩
        simp at he
        exact Prod.ext he.1 he.2
    · rename_i hlt
      have hi' : i = a.length := by omega
      subst hi'
      rw [List.take_length, hlen, List.take_length] at ht
      exact ⟨H', le_refl', k_bool h (by simp [ht])⟩
theorem sameMaps_c {n1 n2 : Bool} {a b : List Bool} (hl : a.length < 2 ^ 62) {H : AHeap} {K : AV → AHeap → Prop} (h : K (.d (.bool (decide (a = b)))) H) : CallsA Try.prog 17 [.d (.sl n1 (bls a)), .d (.sl n2 (bls b))] H K := by
  apply C17
  unfold S17
  simp only [bls_len, go_sem]
  split
  · rename_i hne
    exact ⟨H, le_refl', k_bool h (by symm; apply decide_eq_false; intro he; apply hne; rw [he])⟩
  · rename_i hlen
    have hlen : a.length = b.length := by omega
    refine loop_ind (fun m vs H' => H' = H ∧ ∃ i : Nat, i ≤ a.length ∧ m = a.length - i ∧ a.take i = b.take i ∧ vs = [.d (.sl n1 (bls a)), .d (.sl n2 (bls b)), .d (.int .i64 i)]) (n := a.length) ⟨rfl, 0, by omega, by omega, rfl, rfl⟩ ?_
    rintro X m vs H' ⟨rfl, i, hi, rfl, ht, rfl⟩ hX
    simp only [List.getD_cons_succ, List.getD_cons_zero, bls_len, go_sem]
    split
    · rename_i hlt
      have h1 : i < a.length := by omega
      have h2 : i < b.length := by omega
      simp only [sl_get (ti := ti22) (e := 4) (esz := 1) rfl (by omega : (0 : Int) ≤ i) (by simpa using bls_get h1) rfl, sl_get (ti := ti22) (e := 4) (esz := 1) rfl (by omega : (0 : Int) ≤ i) (by simpa using bls_get h2) rfl, List.map_cons, List.map_nil, go_sem]
      split
      · rename_i hne
        exact ⟨H', le_refl', k_bool h (by symm; apply decide_eq_false; intro he; subst he; simp at hne)⟩
      · rename_i he
        rw [wrap_i64 (by omega) (by omega)]
        refine hX (a.length - (i + 1)) _ _ (by omega) ⟨rfl, i + 1, by omega, rfl, take_eq_succ h1 h2 ht ?_, by simp⟩
        simpa using he
    · rename_i hlt
      have hi' : i = a.length := by omega
      subst hi'
      rw [List.take_length, hlen, List.take_length] at ht
      exact ⟨H', le_refl', k_bool h (by simp [ht])⟩
theorem sameInts_c {n1 n2 : Bool} {a b : List Int} (hl : a.length < 2 ^ 62) {H : AHeap} {K : AV → AHeap → Prop} (h : K (.d (.bool (decide (a = b)))) H) : CallsA Try.prog 36 [.d (.sl n1 (ints a)), .d (.sl n2 (ints b))] H K := by
  apply C36
  unfold S36
  simp only [ints_len, go_sem]
  split
  · rename_i hne
    exact ⟨H, le_refl', k_bool h (by symm; apply decide_eq_false; intro he; apply hne; rw [he])⟩
  · rename_i hlen
    have hlen : a.length = b.length := by omega
    refine loop_ind (fun m vs H' => H' = H ∧ ∃ i : Nat, i ≤ a.length ∧ m = a.length - i ∧ a.take i = b.take i ∧ vs = [.d (.sl n1 (ints a)), .d (.sl n2 (ints b)), .d (.int .i64 i)]) (n := a.length) ⟨rfl, 0, by omega, by omega, rfl, rfl⟩ ?_
    rintro X m vs H' ⟨rfl, i, hi, rfl, ht, rfl⟩ hX
    simp only [List.getD_cons_succ, List.getD_cons_zero, ints_len, go_sem]
    split
    · rename_i hlt
      have h1 : i < a.length := by omega
      have h2 : i < b.length := by omega
      simp only [sl_get (ti := ti33) (e := 3) (esz := 1) rfl (by omega : (0 : Int) ≤ i) (by simpa using ints_get h1) rfl, sl_get (ti := ti33) (e := 3) (esz := 1) rfl (by omega : (0 : Int) ≤ i) (by simpa using ints_get h2) rfl, List.map_cons, List.map_nil, go_sem]
      split
      · rename_i hne
        exact ⟨H', le_refl', k_bool h (by symm; apply decide_eq_false; intro he; subst he; simp at hne)⟩
      · rename_i he
        rw [wrap_i64 (by omega) (by omega)]
        refine hX (a.length - (i + 1)) _ _ (by omega) ⟨rfl, i + 1, by omega, rfl, take_eq_succ h1 h2 ht ?_, by simp⟩
        simpa using he
    · rename_i hlt
      have hi' : i = a.length := by omega
      subst hi'
      rw [List.take_length, hlen, List.take_length] at ht
      exact ⟨H', le_refl', k_bool h (by simp [ht])⟩
/-- The free blocks of a map. -/
def frFrom : List Bool → Int → List Int
  | [], _ => []
  | b :: r, i => if b then frFrom r (i + 1) else i :: frFrom r (i + 1)
def fr (m : List Bool) : List Int := frFrom m 0
theorem frFrom_take : ∀ {m : List Bool} {j : Nat} {i : Int} (h : j < m.length), frFrom (m.take (j + 1)) i = frFrom (m.take j) i ++ (if m[j] then [] else [i + (j : Int)])
  | b :: r, 0, i, _ => by cases b <;> simp [frFrom]
  | b :: r, j + 1, i, h => by
    have h' : j < r.length := by simpa using h
    have ih := frFrom_take (m := r) (j := j) (i := i + 1) h'
    have e : i + 1 + (j : Int) = i + ((j + 1 : Nat) : Int) := by omega
    rw [e] at ih
    simp only [List.take_succ_cons, frFrom, List.getElem_cons_succ] at ih ⊢
    cases b
    · simp only [Bool.false_eq_true, if_false, ih, List.cons_append]
    · simp only [if_true, ih]
theorem fr_take {m : List Bool} {j : Nat} (h : j < m.length) : fr (m.take (j + 1)) = fr (m.take j) ++ (if m[j] then [] else [(j : Int)]) := by
  have := frFrom_take (i := 0) h
  rw [Int.zero_add] at this
  exact this
theorem frFrom_mem : ∀ {m : List Bool} {i b : Int}, b ∈ frFrom m i → i ≤ b ∧ b < i + m.length
  | [], i, b, h => by simp [frFrom] at h
  | x :: r, i, b, h => by
    simp only [frFrom] at h
    cases x
    · simp only [Bool.false_eq_true, if_false, List.mem_cons] at h
      rcases h with rfl | h
      · simp only [List.length_cons]; omega
      · have := frFrom_mem h; simp only [List.length_cons]; omega
    · simp only [if_true] at h
      have := frFrom_mem h; simp only [List.length_cons]; omega
theorem fr_mem {m : List Bool} {b : Int} (h : b ∈ fr m) : 0 ≤ b ∧ b < m.length := by
  have := frFrom_mem h; omega
theorem frFrom_len : ∀ {m : List Bool} {i : Int}, (frFrom m i).length ≤ m.length
  | [], i => by simp [frFrom]
  | x :: r, i => by
    have := frFrom_len (m := r) (i := i + 1)
    simp only [frFrom]
    split <;> simp only [List.length_cons] <;> omega
theorem fr_len {m : List Bool} : (fr m).length ≤ m.length := frFrom_len
theorem isMap_c {n1 n2 : Bool} {m : List Bool} {l : List Ext} (hw : Wide l) (hl : l.length < 2 ^ 40) {H : AHeap} {K : AV → AHeap → Prop} (h : K (.d (.bool (decide (Val m.length l)))) H) : CallsA Try.prog 45 [.d (.sl n1 (bls m)), .d (.sl n2 (es l))] H K := by
  apply C45
  unfold S45
  simp only [bls_len, go_sem]
  split
  · refine valid_c hw hl ?_
    simp only [go_sem]
    exact ⟨H, le_refl', h⟩
  · rename_i hgt
    exact ⟨H, le_refl', k_bool h (by symm; apply decide_eq_false; intro hv; exact hgt hv.1.2)⟩
theorem count_c {nl : Bool} {m : List Bool} (hl : m.length < 2 ^ 40) {H : AHeap} {K : AV → AHeap → Prop} (h : K (.d (.int .i64 (fr m).length)) H) : CallsA Try.prog 46 [.d (.sl nl (bls m))] H K := by
  apply C46
  unfold S46
  simp only [bls_len, go_sem]
  refine loop_ind (fun r vs G => G = H ∧ ∃ j : Nat, j ≤ m.length ∧ r = m.length - j ∧ vs = [.d (.int .i64 (fr (m.take j)).length), .d (.sl nl (bls m)), .d (.int .i64 m.length), .d (.int .i64 j)]) (n := m.length) ⟨rfl, 0, by omega, by omega, rfl⟩ ?_
  rintro X r vs G ⟨rfl, j, hj, rfl, rfl⟩ hX
  simp only [List.getD_cons_succ, List.getD_cons_zero, go_sem]
  split
  · rename_i hlt
    have hj' : j < m.length := by omega
    have ht := fr_take hj'
    have hle := fr_len (m := m.take j)
    have htl : (m.take j).length ≤ m.length := by simp; omega
    simp only [sl_get (ti := ti22) (e := 4) (esz := 1) rfl (by omega : (0 : Int) ≤ j) (by simpa using bls_get hj') rfl, List.map_cons, List.map_nil, go_sem]
    split
    · rename_i hb
      rw [wrap_i64 (n := (j : Int) + 1) (by omega) (by omega), wrap_i64 (by omega) (by omega)]
      rw [hb] at ht
      refine hX (m.length - (j + 1)) _ _ (by omega) ⟨rfl, j + 1, by omega, rfl, ?_⟩
      rw [ht]; simp
    · rename_i hb
      rw [wrap_i64 (n := (j : Int) + 1) (by omega) (by omega)]
      rw [Bool.not_eq_false] at hb
      rw [hb] at ht
      refine hX (m.length - (j + 1)) _ _ (by omega) ⟨rfl, j + 1, by omega, rfl, ?_⟩
      rw [ht]; simp
  · rename_i hge
    rw [List.take_of_length_le (by omega)]
    exact ⟨G, le_refl', h⟩
theorem rfree_c {nl : Bool} {m : List Bool} (hl : m.length < 2 ^ 40) {H : AHeap} {K : AV → AHeap → Prop} (h : ∀ nl, (nl = true → fr m = []) → K (.d (.sl nl (ints (fr m)))) H) : CallsA Try.prog 50 [.d (.sl nl (bls m))] H K := by
  apply C50
  unfold S50
  refine loop_ind (fun r vs G => ∃ (j : Nat) (v : AV), j ≤ m.length ∧ r = m.length - j ∧ Gr H 1 G v (ints (fr (m.take j))) ∧ vs = [.d (.sl nl (bls m)), v, .d (.int .i64 j)]) (n := m.length) ⟨0, _, by omega, by omega, Gr.nil le_refl', rfl⟩ ?_
  rintro X r vs G ⟨j, v, hj, rfl, hG, rfl⟩ hX
  simp only [List.getD_cons_succ, List.getD_cons_zero, bls_len, go_sem]
  split
  · rename_i hlt
    have hj' : j < m.length := by omega
    have ht := fr_take hj'
    have hle := fr_len (m := m.take j)
    have htl : (m.take j).length ≤ m.length := by simp; omega
    simp only [sl_get (ti := ti22) (e := 4) (esz := 1) rfl (by omega : (0 : Int) ≤ j) (by simpa using bls_get hj') rfl, List.map_cons, List.map_nil, go_sem]
    split
    · rename_i hb
      intro n11 _
      simp only [bs3_1, go_sem]
      refine one_more hG (by omega) fun v4 G4 hG4 _ _ => ?_
      rw [wrap_i64 (n := (j : Int) + 1) (by omega) (by omega)]
      rw [hb] at ht
      exact hX (m.length - (j + 1)) _ _ (by omega) ⟨j + 1, v4, by omega, rfl, by rw [ht]; exact hG4, by simp⟩
    · rename_i hb
      rw [wrap_i64 (n := (j : Int) + 1) (by omega) (by omega)]
      rw [Bool.not_eq_false] at hb
      rw [hb] at ht
      exact hX (m.length - (j + 1)) _ _ (by omega) ⟨j + 1, v, by omega, rfl, by rw [ht]; simpa using hG, by simp⟩
  · rename_i hge
    rw [List.take_of_length_le (by omega)] at hG
    exact ret_ints hG le_refl' h
end Go.Proofs.Ytlaojbclmcageaa

/- What is allotted. -/
import Derived.Test.YtlaojbclmcageaaM15f
set_option autoImplicit false
set_option maxRecDepth 100000
set_option linter.unusedVariables false
set_option linter.unusedSimpArgs false
namespace Go.Proofs.Ytlaojbclmcageaa
open Go Go.AM Go.Proofs
theorem frz_ints {H0 H : AHeap} {v : AV} {l : List Int} (h : Gr H0 1 H v (ints l)) : ∃ us, frzA v H = some (.d (.sl (AM.nilS v) (ints l)), us) ∧ AHeap.le H0 (H.sets us) := by
  obtain ⟨us, _, f2, f3, _⟩ := h.own.frz
  exact ⟨us, f2, f3⟩
theorem free_c {nl : Bool} {m : List Bool} (hl : m.length ≤ 300) {H : AHeap} {K : AV → AHeap → Prop} (h : ∀ nl, (nl = true → runs m = []) → K (.d (.sl nl (es (runs m)))) H) : CallsA Try.prog 61 [.d (.sl nl (bls m))] H K := by
  apply C61
  unfold S61
  simp only [bls_len, go_sem]
  refine loop_ind (fun r vs G => ∃ (j : Nat) (v : AV), j ≤ m.length ∧ r = m.length - j ∧ Gr H 1 G v (ints (fr (m.take j))) ∧ vs = [v, .d (.sl nl (bls m)), .d (.int .i64 m.length), .d (.int .i64 j)]) (n := m.length) ⟨0, _, by omega, by omega, Gr.nil le_refl', rfl⟩ ?_
  rintro X r vs G ⟨j, v, hj, rfl, hG, rfl⟩ hX
  simp only [List.getD_cons_succ, List.getD_cons_zero, bls_len, go_sem]
  split
  · rename_i hlt
    have hj' : j < m.length := by omega
    have ht := fr_take hj'
    have hle := fr_len (m := m.take j)
    have htl : (m.take j).length ≤ m.length := by simp; omega
    simp only [sl_get (ti := ti22) (e := 4) (esz := 1) rfl (by omega : (0 : Int) ≤ j) (by simpa using bls_get hj') rfl, List.map_cons, List.map_nil, go_sem]
    split
    · rename_i hb
      intro n11 _
      simp only [bs3_1, go_sem]
      refine one_more hG (by omega) fun v4 G4 hG4 _ _ => ?_
      rw [wrap_i64 (n := (j : Int) + 1) (by omega) (by omega)]
      rw [hb] at ht
      exact hX (m.length - (j + 1)) _ _ (by omega) ⟨j + 1, v4, by omega, rfl, by rw [ht]; exact hG4, by simp⟩
    · rename_i hb
      rw [wrap_i64 (n := (j : Int) + 1) (by omega) (by omega)]
      rw [Bool.not_eq_false] at hb
      rw [hb] at ht
      exact hX (m.length - (j + 1)) _ _ (by omega) ⟨j + 1, v, by omega, rfl, by rw [ht]; simpa using hG, by simp⟩
  · rename_i hge
    rw [List.take_of_length_le (by omega)] at hG
    obtain ⟨us, f2, f3⟩ := frz_ints hG
    have hfl := fr_len (m := m)
    rw [frzLK_of f2]
    simp only [go_sem]
    refine of_c (fun b hb => by have := fr_mem hb; omega) (by omega) fun n2 hn2 => ?_
    rw [runs_eq] at hn2 ⊢
    simp only [go_sem]
    exact ⟨H, f3, h n2 hn2⟩
theorem big_c {x : Ext} {n : Int} {k : Nat} {H : AHeap} (hk : H k = some (.mem 0 0 1 [[.d (.int .i64 n)]])) {K : AV → AHeap → Prop} (h : K (.d (.bool (decide (n ≤ x.2)))) H) : CallsA Try.prog 63 [.agg [.d (.int .i64 x.1), .d (.int .i64 x.2)], .ptr k 0 0 0] H K := by
  apply C63
  unfold S63
  refine box_open rfl fun k1 G hG hle hk1 => ?_
  simp only [AV.cells] at hG
  simp only [getM_of hG, getM_of (hle _ _ hk), ti66_f1, go_sem]
  exact ⟨H, hle, k_bool h (by simp)⟩
/-- Where the first great one stands. -/
def firstIx (n : Int) : List Ext → Nat → Option Nat
  | [], _ => none
  | x :: r, i => if n ≤ x.2 then some i else firstIx n r (i + 1)
def ixOf : Option Nat → Int
  | some i => i
  | none => -1
theorem firstIx_drop {n : Int} {l : List Ext} {j i : Nat} (h : j < l.length) : firstIx n (l.drop j) i = if n ≤ l[j].2 then some i else firstIx n (l.drop (j + 1)) (i + 1) := by
  rw [List.drop_eq_getElem_cons h]; rfl
theorem firstIx_find {n : Int} : ∀ {l : List Ext} {i : Nat}, (∃ k, firstIx n l i = some (i + k) ∧ l[k]? = l.find? (fun x => decide (n ≤ x.2)) ∧ k < l.length) ∨ (firstIx n l i = none ∧ l.find? (fun x => decide (n ≤ x.2)) = none)
  | [], i => .inr ⟨rfl, rfl⟩
  | x :: r, i => by
    by_cases hx : n ≤ x.2
    · exact .inl ⟨0, by simp [firstIx, hx], by simp [hx], by simp⟩
    · rcases firstIx_find (n := n) (l := r) (i := i + 1) with ⟨k, h1, h2, h3⟩ | ⟨h1, h2⟩
      · refine .inl ⟨k + 1, ?_, ?_, by simp; omega⟩
        · simp only [firstIx, hx, if_false, h1]; congr 1; omega
        · simp only [List.getElem?_cons_succ, h2]; simp [hx]
      · exact .inr ⟨by simp only [firstIx, hx, if_false, h1], by simp [hx, h2]⟩
theorem callA_63 {k : Nat} {args : List AV} {H : AHeap} {K : AV → AHeap → Prop} : callA (CallsA Try.prog) pol62 (.func 63 [] [.ptr k 0 0 0]) args H K = frzLK (args ++ [.ptr k 0 0 0]) H (fun l H' => CallsA Try.prog 63 l H' K) := rfl
theorem index_c {nl : Bool} {l : List Ext} {n : Int} {k : Nat} (hl : l.length < 2 ^ 40) {H : AHeap} (hk : H k = some (.mem 0 0 1 [[.d (.int .i64 n)]])) {K : AV → AHeap → Prop} (h : K (.d (.int .i64 (ixOf (firstIx n l 0)))) H) : CallsA Try.prog 62 [.d (.sl nl (es l)), .func 63 [] [.ptr k 0 0 0]] H K := by
  apply C62
  unfold S62
  simp only [es_len, go_sem]
  refine loop_ind (fun r vs G => G = H ∧ ∃ j : Nat, j ≤ l.length ∧ r = l.length - j ∧ firstIx n l 0 = firstIx n (l.drop j) j ∧ vs = [.d (.sl nl (es l)), .func 63 [] [.ptr k 0 0 0], .d (.int .i64 l.length), .d (.int .i64 j)]) (n := l.length) ⟨rfl, 0, by omega, by omega, by simp, rfl⟩ ?_
  rintro X r vs G ⟨rfl, j, hj, rfl, hix, rfl⟩ hX
  simp only [List.getD_cons_succ, List.getD_cons_zero, go_sem]
  split
  · rename_i hlt
    have hj' : j < l.length := by omega
    rw [firstIx_drop hj'] at hix
    simp only [sl_get (ti := ti23) (e := 66) (esz := 2) rfl (by omega : (0 : Int) ≤ j) (by simpa using es_get hj') rfl, ex, List.map_cons, List.map_nil, callA_63, List.cons_append, go_sem]
    refine big_c (x := l[j]) hk ?_
    simp only [go_sem]
    split
    · rename_i hb
      rw [if_pos hb] at hix
      rw [hix] at h
      exact ⟨G, le_refl', h⟩
    · rename_i hb
      rw [if_neg hb] at hix
      rw [wrap_i64 (by omega) (by omega)]
      exact hX (l.length - (j + 1)) _ _ (by omega) ⟨rfl, j + 1, by omega, rfl, hix, rfl⟩
  · rename_i hge
    rw [List.drop_eq_nil_of_le (by omega)] at hix
    rw [hix] at h
    exact ⟨G, le_refl', h⟩
theorem allot_c {nl : Bool} {m : List Bool} {n : Int} (hl : m.length ≤ 300) (h0 : 0 ≤ n) (h1 : n ≤ 300) {H : AHeap} {K : AV → AHeap → Prop} (h : ∀ nl, (nl = true → pick m n = []) → K (.d (.sl nl (ints (pick m n)))) H) : CallsA Try.prog 47 [.d (.sl nl (bls m)), .d (.int .i64 n)] H K := by
  apply C47
  unfold S47
  refine box_open rfl fun k1 G1 hG1 hle1 hk1 => ?_
  simp only [AV.cells] at hG1
  simp only [getM_of hG1, go_sem]
  by_cases hn0 : n = 0
  · subst hn0
    rw [if_pos rfl]
    exact ⟨H, hle1, h true fun _ => rfl⟩
  rw [if_neg hn0]
  refine free_c hl fun n2 hn2 => ?_
  simp only [go_sem]
  have hrl : (runs m).length ≤ 300 := by
    have h2 := short_len (l := []) (bs := fr m)
    have h3 := fr_len (m := m)
    rw [runs_eq] at h2
    simp only [List.length_nil] at h2
    omega
  refine index_c (by omega) hG1 ?_
  have hle : AHeap.le H G1 := hle1
  have hG := hG1
  rcases firstIx_find (n := n) (l := runs m) (i := 0) with ⟨k, g1, g2, g3⟩ | ⟨g1, g2⟩
  · rw [g1, Nat.zero_add]
    simp only [ixOf, go_sem]
    rw [if_pos (show (0 : Int) ≤ (k : Int) by omega), wrap_i64 (n := (k : Int) + 1) (by omega) (by omega)]
    have hx2 : (runs m).find? (fun x => decide (n ≤ x.2)) = some (runs m)[k] := by rw [← g2, List.getElem?_eq_getElem g3]
    have hbig : n ≤ ((runs m)[k]).2 := by
      have := List.find?_some hx2
      simpa using this
    generalize hR : [(runs m)[k]] = R'
    have hsl : sliceA 2 (.d (.sl n2 (es (runs m)))) (some (.d (.int .i64 k))) (some (.d (.int .i64 ((k : Int) + 1)))) none G1 = some (.d (.sl n2 (es R'))) := by
      have hd : ((es (runs m)).drop k).take (k + 1 - k) = es R' := by
        rw [← hR, show k + 1 - k = 1 by omega, es, ← List.map_drop, List.drop_eq_getElem_cons g3]
        rfl
      have hh : headLen 2 (es (runs m)) = true := by
        cases hc : runs m with
        | nil => rw [hc] at g3; simp at g3
        | cons x r => rfl
      have t1 : ((k : Int) + 1).toNat = k + 1 := by omega
      simp only [sliceA, bnd, show (0 : Int) ≤ k by omega, show (0 : Int) ≤ (k : Int) + 1 by omega, if_true, t1, Int.toNat_natCast, es_len, hh]
      rw [if_pos ⟨by omega, by omega, .inr trivial⟩, hd]
    simp only [hsl, es_len, go_sem]
    have hR' : ∀ x ∈ R', 0 ≤ x.1 ∧ 1 ≤ x.2 ∧ x.1 + x.2 ≤ m.length := fun x hx => by
      rw [← hR, List.mem_singleton] at hx
      subst hx
      exact runs_bd (List.getElem_mem g3)
    have hRl : R'.length ≤ 300 := by rw [← hR]; simp
    have hres : (blk R').take n.toNat = pick m n := by
      have e1 : blk R' = blk1 (runs m)[k] := by rw [← hR]; simp [blk]
      rw [e1, pick, if_neg hn0, hx2, blk1, part_take]
      congr 1
      omega
    refine loop_ind (fun r vs G => ∃ (j : Nat) (v u1 u2 u3 : AV), j ≤ R'.length ∧ r = R'.length - j ∧ Gr H 1 G v (ints ((blk (R'.take j)).take n.toNat)) ∧ G k1 = some (.mem 0 0 1 [[.d (.int .i64 n)]]) ∧ idOf v ≠ some k1 ∧ vs = [.ptr k1 0 0 0, v, u1, .d (.sl n2 (es R')), .d (.int .i64 R'.length), .d (.int .i64 j), u2, u3]) (n := R'.length)
      ⟨0, _, .junk, .junk, .junk, by omega, by omega, by simpa [blk, ints] using Gr.nil hle, hG, by simp [idOf], rfl⟩ ?_
    rintro X r vs G' ⟨j, v, u1, u2, u3, hj, rfl, hG', hk', hvk, rfl⟩ hX
    simp only [List.getD_cons_succ, List.getD_cons_zero, go_sem]
    split
    · rename_i hlt
      have hj' : j < R'.length := by omega
      have hox := hR' R'[j] (List.getElem_mem hj')
      have htk := blk_take hj'
      generalize hxj : R'[j] = x at hox htk
      generalize hA : blk (R'.take j) = A at hG' htk
      have hix : indexAddrA ti23 2 (.d (.sl n2 (es R'))) (.d (.int .i64 j)) = some (.vptr (ex x) 0) := sl_get (e := 66) rfl (by omega) (by rw [Int.toNat_natCast, es_get hj', hxj]) rfl
      simp only [hix, ex, List.map_cons, List.map_nil, go_sem]
      refine alloc_open fun k2 G2 hG2 hle2 hk2 => ?_
      have e12 : k1 ≠ k2 := le_ne hk' hk2
      simp only [getM_of hG2, getM_of (hle2 _ _ hk'), e12, ti66_f0, ti66_f1, hG'.len, ints_len, stoA_agg, stoA_get, stoM, setCells, and_self, true_and, Nat.le_refl, Nat.reduceLeDiff, List.cons_append, List.set_cons_zero, List.getElem?_cons_zero, go_sem]
      generalize hX2 : G2.set k2 _ = X2
      have hXk : X2 k2 = some (.mem 0 0 2 [[.d (.int .i64 x.1), .d (.int .i64 x.2)]]) := by rw [← hX2]; exact set_self
      have hXle : AHeap.le G' X2 := by rw [← hX2]; exact set_le hle2 hk2
      clear hX2 hle2 hG2
      have hlA : (A.take n.toNat).length = min n.toNat A.length := List.length_take
      rw [wrap_i64 (n := n - ((A.take n.toNat).length : Int)) (by omega) (by omega)]
      have hmin : foldA min2A [.d (.int .i64 x.2), .d (.int .i64 (n - ((A.take n.toNat).length : Int)))] = some (.d (.int .i64 (min x.2 (n - ((A.take n.toNat).length : Int))))) := by
        simp only [foldA, List.foldl_cons, List.foldl_nil, min2A]
        congr 3
        split <;> omega
      simp only [hmin, go_sem]
      generalize hc : min x.2 (n - ((A.take n.toNat).length : Int)) = c
      have hvk2 : idOf v ≠ some k2 := fun he => by obtain ⟨⟨_, _, g⟩, _⟩ := hG'.obj he; rw [hk2] at g; cases g
      refine loop_ind (fun r vs G' => ∃ (k : Nat) (v : AV), (k : Int) ≤ c ∧ r = c.toNat - k ∧ Gr H 1 G' v (ints (A.take n.toNat ++ part x k)) ∧ idOf v ≠ some k1 ∧ idOf v ≠ some k2 ∧ G' k1 = some (.mem 0 0 1 [[.d (.int .i64 n)]]) ∧ G' k2 = some (.mem 0 0 2 [[.d (.int .i64 x.1), .d (.int .i64 x.2)]]) ∧ vs = [.ptr k1 0 0 0, v, .ptr k2 0 0 0, .d (.sl n2 (es R')), .d (.int .i64 R'.length), .d (.int .i64 j), .d (.int .i64 c), .d (.int .i64 k)]) (n := c.toNat)
        ⟨0, v, by omega, by omega, by simpa [part] using hG'.more hXle, hvk, hvk2, hXle _ _ hk', hXk, by simp⟩ ?_
      rintro X3 r3 vs3 G3 ⟨k, v3, hk, rfl, hG3, hv1, hv2, hk13, hk3, rfl⟩ hX3
      simp only [List.getD_cons_succ, List.getD_cons_zero, ti66_f0, ti66_f1, getM_of hk3, go_sem]
      split
      · rename_i hlt3
        rw [wrap_i64 (n := x.1 + (k : Int)) (by omega) (by omega)]
        intro n24 _
        simp only [bs3_1, go_sem]
        refine one_more hG3 (by rw [List.length_append, part_len]; omega) fun v4 G4 hG4 hf4 hid4 => ?_
        rw [wrap_i64 (by omega) (by omega)]
        refine hX3 (c.toNat - (k + 1)) _ _ (by omega) ⟨k + 1, v4, by omega, rfl, by rw [part_succ, ← List.append_assoc]; exact hG4, fun he => ?_, fun he => ?_, by rw [hf4 k1 (by rw [hk13]; rfl) hv1]; exact hk13, by rw [hf4 k2 (by rw [hk3]; rfl) hv2]; exact hk3, by simp⟩
        · rcases hid4 k1 he with h5 | h5
          · exact hv1 h5
          · rw [hk13] at h5; cases h5
        · rcases hid4 k2 he with h5 | h5
          · exact hv2 h5
          · rw [hk3] at h5; cases h5
      · rename_i hge
        rw [wrap_i64 (by omega) (by omega)]
        have ht : (blk (R'.take (j + 1))).take n.toNat = A.take n.toNat ++ part x k := by
          rw [htk, take_app, blk1, part_take]
          congr 2
          omega
        exact hX (R'.length - (j + 1)) _ _ (by omega) ⟨j + 1, v3, _, _, _, by omega, rfl, by rw [ht]; exact hG3, hk13, hv1, rfl⟩
    · rename_i hge
      rw [List.take_of_length_le (l := R') (by omega)] at hG'
      refine ret_ints hG' le_refl' fun n3 hn3 => ?_
      rw [hres] at hn3 ⊢
      exact h n3 hn3
  · rw [g1]
    simp only [ixOf, Int.reduceNeg, go_sem]
    rw [if_neg (show ¬ (0 : Int) ≤ -1 by omega)]
    generalize hR : runs m = R'
    have hR' : ∀ x ∈ R', 0 ≤ x.1 ∧ 1 ≤ x.2 ∧ x.1 + x.2 ≤ m.length := fun x hx => by
      rw [← hR] at hx
      exact runs_bd hx
    have hRl : R'.length ≤ 300 := by rw [← hR]; exact hrl
    have hres : (blk R').take n.toNat = pick m n := by
      rw [← hR, blk_runs, pick, if_neg hn0, g2]
    try simp only [es_len, go_sem]
    refine loop_ind (fun r vs G => ∃ (j : Nat) (v u1 u2 u3 : AV), j ≤ R'.length ∧ r = R'.length - j ∧ Gr H 1 G v (ints ((blk (R'.take j)).take n.toNat)) ∧ G k1 = some (.mem 0 0 1 [[.d (.int .i64 n)]]) ∧ idOf v ≠ some k1 ∧ vs = [.ptr k1 0 0 0, v, u1, .d (.sl n2 (es R')), .d (.int .i64 R'.length), .d (.int .i64 j), u2, u3]) (n := R'.length)
      ⟨0, _, .junk, .junk, .junk, by omega, by omega, by simpa [blk, ints] using Gr.nil hle, hG, by simp [idOf], rfl⟩ ?_
    rintro X r vs G' ⟨j, v, u1, u2, u3, hj, rfl, hG', hk', hvk, rfl⟩ hX
    simp only [List.getD_cons_succ, List.getD_cons_zero, go_sem]
    split
    · rename_i hlt
      have hj' : j < R'.length := by omega
      have hox := hR' R'[j] (List.getElem_mem hj')
      have htk := blk_take hj'
      generalize hxj : R'[j] = x at hox htk
      generalize hA : blk (R'.take j) = A at hG' htk
      have hix : indexAddrA ti23 2 (.d (.sl n2 (es R'))) (.d (.int .i64 j)) = some (.vptr (ex x) 0) := sl_get (e := 66) rfl (by omega) (by rw [Int.toNat_natCast, es_get hj', hxj]) rfl
      simp only [hix, ex, List.map_cons, List.map_nil, go_sem]
      refine alloc_open fun k2 G2 hG2 hle2 hk2 => ?_
      have e12 : k1 ≠ k2 := le_ne hk' hk2
      simp only [getM_of hG2, getM_of (hle2 _ _ hk'), e12, ti66_f0, ti66_f1, hG'.len, ints_len, stoA_agg, stoA_get, stoM, setCells, and_self, true_and, Nat.le_refl, Nat.reduceLeDiff, List.cons_append, List.set_cons_zero, List.getElem?_cons_zero, go_sem]
      generalize hX2 : G2.set k2 _ = X2
      have hXk : X2 k2 = some (.mem 0 0 2 [[.d (.int .i64 x.1), .d (.int .i64 x.2)]]) := by rw [← hX2]; exact set_self
      have hXle : AHeap.le G' X2 := by rw [← hX2]; exact set_le hle2 hk2
      clear hX2 hle2 hG2
      have hlA : (A.take n.toNat).length = min n.toNat A.length := List.length_take
      rw [wrap_i64 (n := n - ((A.take n.toNat).length : Int)) (by omega) (by omega)]
      have hmin : foldA min2A [.d (.int .i64 x.2), .d (.int .i64 (n - ((A.take n.toNat).length : Int)))] = some (.d (.int .i64 (min x.2 (n - ((A.take n.toNat).length : Int))))) := by
        simp only [foldA, List.foldl_cons, List.foldl_nil, min2A]
        congr 3
        split <;> omega
      simp only [hmin, go_sem]
      generalize hc : min x.2 (n - ((A.take n.toNat).length : Int)) = c
      have hvk2 : idOf v ≠ some k2 := fun he => by obtain ⟨⟨_, _, g⟩, _⟩ := hG'.obj he; rw [hk2] at g; cases g
      refine loop_ind (fun r vs G' => ∃ (k : Nat) (v : AV), (k : Int) ≤ c ∧ r = c.toNat - k ∧ Gr H 1 G' v (ints (A.take n.toNat ++ part x k)) ∧ idOf v ≠ some k1 ∧ idOf v ≠ some k2 ∧ G' k1 = some (.mem 0 0 1 [[.d (.int .i64 n)]]) ∧ G' k2 = some (.mem 0 0 2 [[.d (.int .i64 x.1), .d (.int .i64 x.2)]]) ∧ vs = [.ptr k1 0 0 0, v, .ptr k2 0 0 0, .d (.sl n2 (es R')), .d (.int .i64 R'.length), .d (.int .i64 j), .d (.int .i64 c), .d (.int .i64 k)]) (n := c.toNat)
        ⟨0, v, by omega, by omega, by simpa [part] using hG'.more hXle, hvk, hvk2, hXle _ _ hk', hXk, by simp⟩ ?_
      rintro X3 r3 vs3 G3 ⟨k, v3, hk, rfl, hG3, hv1, hv2, hk13, hk3, rfl⟩ hX3
      simp only [List.getD_cons_succ, List.getD_cons_zero, ti66_f0, ti66_f1, getM_of hk3, go_sem]
      split
      · rename_i hlt3
        rw [wrap_i64 (n := x.1 + (k : Int)) (by omega) (by omega)]
        intro n24 _
        simp only [bs3_1, go_sem]
        refine one_more hG3 (by rw [List.length_append, part_len]; omega) fun v4 G4 hG4 hf4 hid4 => ?_
        rw [wrap_i64 (by omega) (by omega)]
        refine hX3 (c.toNat - (k + 1)) _ _ (by omega) ⟨k + 1, v4, by omega, rfl, by rw [part_succ, ← List.append_assoc]; exact hG4, fun he => ?_, fun he => ?_, by rw [hf4 k1 (by rw [hk13]; rfl) hv1]; exact hk13, by rw [hf4 k2 (by rw [hk3]; rfl) hv2]; exact hk3, by simp⟩
        · rcases hid4 k1 he with h5 | h5
          · exact hv1 h5
          · rw [hk13] at h5; cases h5
        · rcases hid4 k2 he with h5 | h5
          · exact hv2 h5
          · rw [hk3] at h5; cases h5
      · rename_i hge
        rw [wrap_i64 (by omega) (by omega)]
        have ht : (blk (R'.take (j + 1))).take n.toNat = A.take n.toNat ++ part x k := by
          rw [htk, take_app, blk1, part_take]
          congr 2
          omega
        exact hX (R'.length - (j + 1)) _ _ (by omega) ⟨j + 1, v3, _, _, _, by omega, rfl, by rw [ht]; exact hG3, hk13, hv1, rfl⟩
    · rename_i hge
      rw [List.take_of_length_le (l := R') (by omega)] at hG'
      refine ret_ints hG' le_refl' fun n3 hn3 => ?_
      rw [hres] at hn3 ⊢
      exact h n3 hn3
end Go.Proofs.Ytlaojbclmcageaa

/- Lists of extents: the same, and their blocks. -/
import Derived.Test.YtlaojbclmcageaaM15a
set_option autoImplicit false
set_option maxRecDepth 100000
set_option linter.unusedVariables false
set_option linter.unusedSimpArgs false
namespace Go.Proofs.Ytlaojbclmcageaa
open Go Go.AM Go.Proofs
theorem rvalid_c {n : Int} {nl : Bool} {l : List Ext} (hw : Wide l) (hl : l.length < 2 ^ 40) {H : AHeap} {K : AV → AHeap → Prop} (h : K (.d (.bool (decide (Val n l)))) H) : CallsA Try.prog 35 [.d (.int .i64 n), .d (.sl nl (es l))] H K := by
  apply C35
  unfold S35
  simp only [go_sem]
  split
  · exact ⟨H, le_refl', k_bool h (by unfold Val; exact (decide_eq_false (by omega)).symm)⟩
  rename_i h0
  try simp only [go_sem]
  split
  · exact ⟨H, le_refl', k_bool h (by unfold Val; exact (decide_eq_false (by omega)).symm)⟩
  rename_i h1
  refine make_c (by omega) (by omega) fun i ver H1 hO => ?_
  rw [marks0] at hO ⊢
  have hbl : (bls (marks n.toNat [])).length = n.toNat := by rw [bls_len, marks_len]
  rw [hbl]
  try simp only [es_len, go_sem]
  have fin : ∀ b G, AHeap.le H G → b = decide (Val n l) → finA (.d (.bool b)) G K := fun b G hG hb => ⟨H, hG, k_bool h hb⟩
  refine loop_ind (fun r vs G => ∃ (j : Nat) (u1 : AV), j ≤ l.length ∧ r = l.length - j ∧ (∀ x ∈ l.take j, Ok1 n x) ∧ (blk (l.take j)).Nodup ∧ OwnM H 1 G i ver (bls (marks n.toNat (blk (l.take j)))) ∧ vs = [.d (.int .i64 n), .d (.sl nl (es l)), .rs i ver 1 0 n.toNat, .d (.int .i64 j), u1]) (n := l.length)
    ⟨0, .junk, by omega, by omega, by simp, by simp [blk], by simpa [blk] using hO, rfl⟩ ?_
  rintro X r vs G ⟨j, u1, hj, rfl, hok, hnd, hG, rfl⟩ hX
  simp only [List.getD_cons_succ, List.getD_cons_zero, es_len, go_sem]
  split
  · rename_i hlt
    have hj' : j < l.length := by omega
    have hx := hw l[j] (List.getElem_mem hj')
    generalize hxj : l[j] = x at hx
    have hix : indexAddrA ti23 2 (.d (.sl nl (es l))) (.d (.int .i64 j)) = some (.vptr (ex x) 0) := sl_get (e := 66) rfl (by omega) (by rw [Int.toNat_natCast, es_get hj', hxj]) rfl
    simp only [hix, ex, List.map_cons, List.map_nil, ti66_v0, ti66_v1, go_sem]
    have hmem : x ∈ l := by rw [← hxj]; exact List.getElem_mem hj'
    have bad : ¬ Ok1 n x → ∀ G', AHeap.le H G' → finA (.d (.bool false)) G' K := fun hn G' hG' => fin false G' hG' (decide_eq_false fun hv => hn (hv.2.1 x hmem)).symm
    have hHX : AHeap.le H G := hG.own.1
    split
    · exact bad (by unfold Ok1; omega) _ hHX
    split
    · exact bad (by unfold Ok1; omega) _ hHX
    split
    · exact bad (by unfold Ok1; omega) _ hHX
    rw [wrap_i64 (n := n - x.1) (by omega) (by omega)]
    split
    · exact bad (by unfold Ok1; omega) _ hHX
    have hox : Ok1 n x := by unfold Ok1; omega
    refine loop_ind (fun r vs G' => ∃ k : Nat, k ≤ x.2.toNat ∧ r = x.2.toNat - k ∧ (blk (l.take j) ++ part x k).Nodup ∧ OwnM H 1 G' i ver (bls (marks n.toNat (blk (l.take j) ++ part x k))) ∧ vs = [.d (.int .i64 n), .d (.sl nl (es l)), .rs i ver 1 0 n.toNat, .d (.int .i64 j), .d (.int .i64 (x.1 + (k : Int)))]) (n := x.2.toNat)
      ⟨0, by omega, by omega, by simpa [part] using hnd, by simpa [part] using hG, by simp⟩ ?_
    rintro X3 r3 vs3 G3 ⟨k, hk, rfl, hnd3, hG3, rfl⟩ hX3
    unfold Ok1 at hox
    simp only [List.getD_cons_succ, List.getD_cons_zero, hix, ex, List.map_cons, List.map_nil, ti66_v0, ti66_v1, go_sem]
    rw [wrap_i64 (n := x.1 + x.2) (by omega) (by omega)]
    split
    · rename_i hlt3
      have hb : (x.1 + (k : Int)).toNat < n.toNat := by omega
      have hbb : (((x.1 + (k : Int)).toNat : Nat) : Int) = x.1 + (k : Int) := by omega
      have hget : (bls (marks n.toNat (blk (l.take j) ++ part x k)))[(x.1 + (k : Int)).toNat]? = some [.bool (decide (x.1 + (k : Int) ∈ blk (l.take j) ++ part x k))] := by
        have := marks_get (c := blk (l.take j) ++ part x k) hb
        rw [hbb] at this
        simp only [bls, List.getElem?_map, this, Option.map_some]
      simp only [idx_rs (ti := ti22) (e := 4) (sz := 1) (i := i) (ver := ver) (n := n.toNat) (j := x.1 + (k : Int)) rfl (by omega) (by omega), hG3.get hget, go_sem]
      split
      · rename_i hin
        subst hxj
        exact fin false G3 hG3.own.1 (decide_eq_false fun hv => dup_no hj' (by omega) hin hv.2.2).symm
      · rename_i hin
        obtain ⟨o, hst, hG4⟩ := hG3.put (y := .bool true) hget
        simp only [hst, go_sem]
        rw [bls_set, marks_set hb, hbb] at hG4
        have hset : blk (l.take j) ++ part x k ++ [x.1 + (k : Int)] = blk (l.take j) ++ part x (k + 1) := by rw [part_succ, List.append_assoc]
        rw [hset] at hG4
        rw [wrap_i64 (by omega) (by omega)]
        refine hX3 (x.2.toNat - (k + 1)) _ _ (by omega) ⟨k + 1, by omega, rfl, ?_, hG4, by simp [Int.add_assoc]⟩
        rw [← hset, List.nodup_append]
        exact ⟨hnd3, by simp, fun a ha b hb' he => hin (by rw [List.mem_singleton] at hb'; rw [← hb', ← he]; exact ha)⟩
    · rename_i hge
      have hkk : k = x.2.toNat := by omega
      subst hkk
      rw [wrap_i64 (by omega) (by omega)]
      have ht : blk (l.take (j + 1)) = blk (l.take j) ++ part x x.2.toNat := by rw [blk_take hj', hxj]; rfl
      refine hX (l.length - (j + 1)) _ _ (by omega) ⟨j + 1, _, by omega, rfl, fun y hy => ?_, by rw [ht]; exact hnd3, by rw [ht]; exact hG3, rfl⟩
      rw [List.take_add_one, List.getElem?_eq_getElem hj', hxj] at hy
      simp only [Option.toList_some, List.mem_append, List.mem_singleton] at hy
      rcases hy with hy | rfl
      · exact hok y hy
      · unfold Ok1; omega
  · rename_i hge
    have hjj : l.take j = l := List.take_of_length_le (by omega)
    rw [hjj] at hok hnd
    exact fin true G hG.own.1 (decide_eq_true ⟨⟨by omega, by omega⟩, hok, hnd⟩).symm
theorem blk_len {l : List Ext} (h : ∀ x ∈ l, Ok1 300 x) : (blk l).length ≤ 300 * l.length := by
  induction l with
  | nil => simp [blk]
  | cons x l ih =>
    have h1 := ih fun y hy => h y (List.mem_cons_of_mem _ hy)
    have h2 := h x (List.mem_cons_self ..)
    unfold Ok1 at h2
    have h3 : blk (x :: l) = blk1 x ++ blk l := by simp [blk]
    rw [h3, List.length_append, List.length_cons, blk1, part_len]
    omega
theorem bs3_1 {x : Dat} {H : AHeap} {n : Nat} : bsA ti3 1 [0] [.d x] H n = some (.lit [[x]], []) := rfl
theorem take_ok {l : List Ext} {P : Ext → Prop} (h : ∀ x ∈ l, P x) (j : Nat) : ∀ x ∈ l.take j, P x := fun x hx => h x (List.mem_of_mem_take hx)
/-- One number more. -/
theorem one_more {H0 H : AHeap} {v : AV} {l : List Int} {n : Int} (h : Gr H0 1 H v (ints l)) (hl : l.length < 2 ^ 40) {K : AV → AHeap → Prop} (hk : ∀ v' H', Gr H0 1 H' v' (ints (l ++ [n])) → (∀ i, (H i).isSome → idOf v ≠ some i → H' i = H i) → (∀ i, idOf v' = some i → idOf v = some i ∨ H i = none) → K v' H') : newK H (fun n27 => apA 1 8 v (.lit [[.int .i64 n]]) H n27) K := by
  refine Gr.app h (ys := [[.int .i64 n]]) rfl (by omega) (by omega) (by simp) (by rw [ints_len]; simp [mostBytes]; omega) fun v' H' h1 h2 h3 _ => hk v' H' ?_ h2 h3
  rw [ints_app]
  exact h1
theorem ret_ints {H H0 G : AHeap} {v : AV} {l : List Int} {K : AV → AHeap → Prop} (h : Gr H0 1 G v (ints l)) (hle : AHeap.le H H0) (hk : ∀ nl, (nl = true → l = []) → K (.d (.sl nl (ints l))) H) : retF [v] G K := by
  refine h.own.ret hle (hk _ fun hn => ?_)
  have := h.own.nilS hn
  cases l with
  | nil => rfl
  | cons x r => cases this
theorem blocks_c {nl : Bool} {l : List Ext} (ho : ∀ x ∈ l, Ok1 300 x) (hl : l.length < 2 ^ 20) {H : AHeap} {K : AV → AHeap → Prop} (h : ∀ nl, (nl = true → blk l = []) → K (.d (.sl nl (ints (blk l)))) H) : CallsA Try.prog 58 [.d (.sl nl (es l))] H K := by
  apply C58
  unfold S58
  simp only [es_len, go_sem]
  refine loop_ind (fun r vs G => ∃ (j : Nat) (v u1 u2 u3 : AV), j ≤ l.length ∧ r = l.length - j ∧ Gr H 1 G v (ints (blk (l.take j))) ∧ vs = [v, u1, .d (.sl nl (es l)), .d (.int .i64 l.length), .d (.int .i64 j), u2, u3]) (n := l.length)
    ⟨0, _, .junk, .junk, .junk, by omega, by omega, Gr.nil le_refl', rfl⟩ ?_
  rintro X r vs G ⟨j, v, u1, u2, u3, hj, rfl, hG, rfl⟩ hX
  simp only [List.getD_cons_succ, List.getD_cons_zero, go_sem]
  split
  · rename_i hlt
    have hj' : j < l.length := by omega
    have hox := ho l[j] (List.getElem_mem hj')
    have hbl := blk_len (take_ok ho j)
    have htl : (l.take j).length ≤ l.length := by simp; omega
    generalize hxj : l[j] = x at hox
    have hix : indexAddrA ti23 2 (.d (.sl nl (es l))) (.d (.int .i64 j)) = some (.vptr (ex x) 0) := sl_get (e := 66) rfl (by omega) (by rw [Int.toNat_natCast, es_get hj', hxj]) rfl
    simp only [hix, ex, List.map_cons, List.map_nil, go_sem]
    refine alloc_open fun k2 G2 hG2 hle2 hk2 => ?_
    simp only [getM_of hG2, ti66_f0, ti66_f1, stoA_agg, stoA_get, stoM, setCells, and_self, true_and, Nat.le_refl, Nat.reduceLeDiff, List.cons_append, List.set_cons_zero, List.getElem?_cons_zero, go_sem]
    generalize hX2 : G2.set k2 _ = X2
    have hXk : X2 k2 = some (.mem 0 0 2 [[.d (.int .i64 x.1), .d (.int .i64 x.2)]]) := by rw [← hX2]; exact set_self
    have hXle : AHeap.le G X2 := by rw [← hX2]; exact set_le hle2 hk2
    clear hX2 hle2 hG2
    unfold Ok1 at hox
    have hvk : idOf v ≠ some k2 := fun he => by obtain ⟨⟨_, _, g⟩, _⟩ := hG.obj he; rw [hk2] at g; cases g
    refine loop_ind (fun r vs G' => ∃ (k : Nat) (v : AV), k ≤ x.2.toNat ∧ r = x.2.toNat - k ∧ Gr H 1 G' v (ints (blk (l.take j) ++ part x k)) ∧ idOf v ≠ some k2 ∧ G' k2 = some (.mem 0 0 2 [[.d (.int .i64 x.1), .d (.int .i64 x.2)]]) ∧ vs = [v, .ptr k2 0 0 0, .d (.sl nl (es l)), .d (.int .i64 l.length), .d (.int .i64 j), .d (.int .i64 x.2), .d (.int .i64 k)]) (n := x.2.toNat)
      ⟨0, v, by omega, by omega, by simpa [part] using hG.more hXle, hvk, hXk, by simp⟩ ?_
    rintro X3 r3 vs3 G3 ⟨k, v3, hk, rfl, hG3, hvk3, hk3, rfl⟩ hX3
    simp only [List.getD_cons_succ, List.getD_cons_zero, ti66_f0, ti66_f1, getM_of hk3, go_sem]
    split
    · rename_i hlt3
      rw [wrap_i64 (n := x.1 + (k : Int)) (by omega) (by omega)]
      intro n24 _
      simp only [bs3_1, go_sem]
      refine one_more hG3 (by rw [List.length_append, part_len]; omega) fun v4 G4 hG4 hf4 hid4 => ?_
      rw [wrap_i64 (by omega) (by omega)]
      refine hX3 (x.2.toNat - (k + 1)) _ _ (by omega) ⟨k + 1, v4, by omega, rfl, by rw [part_succ, ← List.append_assoc]; exact hG4, fun he => ?_, by rw [hf4 k2 (by rw [hk3]; rfl) hvk3]; exact hk3, by simp⟩
      rcases hid4 k2 he with h5 | h5
      · exact hvk3 h5
      · rw [hk3] at h5; cases h5
    · rename_i hge
      have hkk : k = x.2.toNat := by omega
      subst hkk
      rw [wrap_i64 (by omega) (by omega)]
      have ht : blk (l.take (j + 1)) = blk (l.take j) ++ part x x.2.toNat := by rw [blk_take hj', hxj]; rfl
      exact hX (l.length - (j + 1)) _ _ (by omega) ⟨j + 1, v3, _, _, _, by omega, rfl, by rw [ht]; exact hG3, rfl⟩
  · rename_i hge
    rw [List.take_of_length_le (by omega)] at hG
    exact ret_ints hG le_refl' h
theorem rblocks_c {nl : Bool} {l : List Ext} (ho : ∀ x ∈ l, Ok1 300 x) (hl : l.length < 2 ^ 20) {H : AHeap} {K : AV → AHeap → Prop} (h : ∀ nl, (nl = true → blk l = []) → K (.d (.sl nl (ints (blk l)))) H) : CallsA Try.prog 56 [.d (.sl nl (es l))] H K := by
  apply C56
  unfold S56
  refine loop_ind (fun r vs G => ∃ (j : Nat) (v u1 : AV), j ≤ l.length ∧ r = l.length - j ∧ Gr H 1 G v (ints (blk (l.take j))) ∧ vs = [.d (.sl nl (es l)), v, .d (.int .i64 j), u1]) (n := l.length)
    ⟨0, _, .junk, by omega, by omega, Gr.nil le_refl', rfl⟩ ?_
  rintro X r vs G ⟨j, v, u1, hj, rfl, hG, rfl⟩ hX
  simp only [List.getD_cons_succ, List.getD_cons_zero, es_len, go_sem]
  split
  · rename_i hlt
    have hj' : j < l.length := by omega
    have hox := ho l[j] (List.getElem_mem hj')
    have hbl := blk_len (take_ok ho j)
    have htl : (l.take j).length ≤ l.length := by simp; omega
    generalize hxj : l[j] = x at hox
    have hix : indexAddrA ti23 2 (.d (.sl nl (es l))) (.d (.int .i64 j)) = some (.vptr (ex x) 0) := sl_get (e := 66) rfl (by omega) (by rw [Int.toNat_natCast, es_get hj', hxj]) rfl
    unfold Ok1 at hox
    refine loop_ind (fun r vs G' => ∃ (k : Nat) (v : AV), k ≤ x.2.toNat ∧ r = x.2.toNat - k ∧ Gr H 1 G' v (ints (blk (l.take j) ++ part x k)) ∧ vs = [.d (.sl nl (es l)), v, .d (.int .i64 j), .d (.int .i64 k)]) (n := x.2.toNat)
      ⟨0, v, by omega, by omega, by simpa [part] using hG, by simp⟩ ?_
    rintro X3 r3 vs3 G3 ⟨k, v3, hk, rfl, hG3, rfl⟩ hX3
    simp only [List.getD_cons_succ, List.getD_cons_zero, hix, ex, List.map_cons, List.map_nil, ti66_v0, ti66_v1, go_sem]
    split
    · rename_i hlt3
      rw [wrap_i64 (n := x.1 + (k : Int)) (by omega) (by omega)]
      intro n24 _
      simp only [bs3_1, go_sem]
      refine one_more hG3 (by rw [List.length_append, part_len]; omega) fun v4 G4 hG4 hf4 hid4 => ?_
      rw [wrap_i64 (by omega) (by omega)]
      exact hX3 (x.2.toNat - (k + 1)) _ _ (by omega) ⟨k + 1, v4, by omega, rfl, by rw [part_succ, ← List.append_assoc]; exact hG4, by simp⟩
    · rename_i hge
      have hkk : k = x.2.toNat := by omega
      subst hkk
      rw [wrap_i64 (by omega) (by omega)]
      have ht : blk (l.take (j + 1)) = blk (l.take j) ++ part x x.2.toNat := by rw [blk_take hj', hxj]; rfl
      exact hX (l.length - (j + 1)) _ _ (by omega) ⟨j + 1, v3, _, by omega, rfl, by rw [ht]; exact hG3, rfl⟩
  · rename_i hge
    rw [List.take_of_length_le (by omega)] at hG
    exact ret_ints hG le_refl' h
end Go.Proofs.Ytlaojbclmcageaa

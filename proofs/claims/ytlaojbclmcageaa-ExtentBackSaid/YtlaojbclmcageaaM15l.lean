/- The law of what is allotted and freed again. -/
import Derived.Test.YtlaojbclmcageaaM15k
set_option autoImplicit false
set_option maxRecDepth 100000
set_option linter.unusedVariables false
set_option linter.unusedSimpArgs false
namespace Go.Proofs.Ytlaojbclmcageaa
open Go Go.AM Go.Proofs
theorem mk_get {u : Bool} {i : Nat} : ∀ {l : List Int} {m : List Bool}, (∀ b ∈ l, 0 ≤ b) → (h : i < m.length) → (mk m l u)[i]? = some (if (i : Int) ∈ l then u else m[i])
  | [], m, _, h => by simp [mk, h]
  | b :: r, m, hl, h => by
    have h' : i < (m.set b.toNat u).length := by rw [List.length_set]; exact h
    have ih := mk_get (u := u) (i := i) (l := r) (m := m.set b.toNat u) (fun y hy => hl y (List.mem_cons_of_mem _ hy)) h'
    have hb := hl b (List.mem_cons_self ..)
    have e : mk m (b :: r) u = mk (m.set b.toNat u) r u := rfl
    rw [e, ih]
    congr 1
    by_cases hi : (i : Int) ∈ r
    · simp [hi]
    · by_cases hib : (i : Int) = b
      · subst hib
        simp [hi]
      · have hne : b.toNat ≠ i := by omega
        simp [hi, hib, List.getElem_set_ne hne]
theorem mk_back {m : List Bool} {l : List Int} (h0 : ∀ b ∈ l, 0 ≤ b ∧ b < m.length) (hf : ∀ b ∈ l, is m false b) : mk (mk m l true) l false = m := by
  apply List.ext_getElem?
  intro i
  by_cases hi : i < m.length
  · have hi2 : i < (mk m l true).length := by rw [mk_len]; exact hi
    rw [mk_get (fun b hb => (h0 b hb).1) hi2, List.getElem?_eq_getElem hi]
    congr 1
    split
    · rename_i hm
      have := hf _ hm
      rw [is_at (by simpa using hi)] at this
      simpa using this.symm
    · rename_i hm
      have := mk_get (u := true) (fun b hb => (h0 b hb).1) hi
      rw [if_neg hm, List.getElem?_eq_getElem hi2] at this
      simpa using this
  · rw [List.getElem?_eq_none (by rw [mk_len, mk_len]; omega), List.getElem?_eq_none (by omega)]
theorem mk_is {m : List Bool} {l : List Int} {u : Bool} (h0 : ∀ b ∈ l, 0 ≤ b ∧ b < m.length) {b : Int} (hb : b ∈ l) : is (mk m l u) u b := by
  have h1 := h0 b hb
  have h2 : b.toNat < m.length := by omega
  have h3 := mk_get (u := u) (fun b hb => (h0 b hb).1) h2
  have e : ((b.toNat : Nat) : Int) = b := by omega
  rw [e, if_pos hb] at h3
  unfold is
  rw [List.getD_eq_getElem?_getD, h3]
  rfl
theorem frFrom_is : ∀ {m : List Bool} {i b : Int}, b ∈ frFrom m i → m[(b - i).toNat]? = some false
  | [], i, b, h => by simp [frFrom] at h
  | x :: r, i, b, h => by
    have step : b ∈ frFrom r (i + 1) → (x :: r)[(b - i).toNat]? = some false := fun h => by
      have h1 := frFrom_mem h
      have h2 := frFrom_is h
      have e : (b - i).toNat = (b - (i + 1)).toNat + 1 := by omega
      rw [e, List.getElem?_cons_succ]
      exact h2
    simp only [frFrom] at h
    cases x
    · simp only [Bool.false_eq_true, if_false, List.mem_cons] at h
      rcases h with rfl | h
      · simp
      · exact step h
    · simp only [if_true] at h
      exact step h
theorem fr_is {m : List Bool} {b : Int} (h : b ∈ fr m) : is m false b := by
  have := frFrom_is h
  rw [Int.sub_zero] at this
  unfold is
  rw [List.getD_eq_getElem?_getD, this]
  rfl
theorem frFrom_nodup : ∀ {m : List Bool} {i : Int}, (frFrom m i).Nodup
  | [], i => by simp [frFrom]
  | x :: r, i => by
    have ih := frFrom_nodup (m := r) (i := i + 1)
    simp only [frFrom]
    cases x
    · simp only [Bool.false_eq_true, if_false, List.nodup_cons]
      exact ⟨fun h => by have := frFrom_mem h; omega, ih⟩
    · simpa using ih
theorem part_nodup {x : Ext} {k : Nat} : (part x k).Nodup := by
  induction k with
  | zero => simp [part]
  | succ k ih =>
    rw [part_succ, List.nodup_append]
    exact ⟨ih, by simp, fun a ha b hb he => by rw [List.mem_singleton] at hb; have := part_mem ha; omega⟩
theorem pick_sub {m : List Bool} {n b : Int} (h : b ∈ pick m n) : b ∈ fr m := by
  unfold pick at h
  split at h
  · simp at h
  · split at h
    · rename_i x hx
      have h1 := List.mem_of_find?_eq_some hx
      have h3 := List.find?_some hx
      simp only [decide_eq_true_eq] at h3
      rw [← blk_runs]
      refine List.mem_flatMap.2 ⟨x, h1, ?_⟩
      obtain ⟨i, hi, rfl⟩ := List.mem_map.1 h
      have := List.mem_range.1 hi
      exact List.mem_map.2 ⟨i, List.mem_range.2 (by omega), rfl⟩
    · exact List.mem_of_mem_take h
theorem pick_nodup {m : List Bool} {n : Int} : (pick m n).Nodup := by
  unfold pick
  split
  · simp
  · split
    · exact part_nodup
    · exact (List.take_sublist _ _).nodup frFrom_nodup
theorem pick_full {m : List Bool} {n : Int} (h0 : 0 ≤ n) (h : n ≤ (fr m).length) : ((pick m n).length : Int) = n := by
  unfold pick
  split
  · rename_i h1; subst h1; rfl
  · split
    · rw [part_len]; omega
    · rw [List.length_take]; omega
/-- No extent goes on where the one in front ends. -/
def IsSh (l : List Ext) : Prop := ∀ i, (h : i + 1 < l.length) → l[i].1 + l[i].2 ≠ l[i + 1].1
theorem app1_many {out : List Ext} {b : Int} (h : ∀ x ∈ out, 1 ≤ x.2) : ∀ x ∈ app1 out b, 1 ≤ x.2 := by
  intro y hy
  rcases List.eq_nil_or_concat out with rfl | ⟨o, x, rfl⟩
  · rw [app1_nil, List.mem_singleton] at hy; subst hy; simp
  · rw [List.concat_eq_append] at h hy
    rw [app1_snoc] at hy
    have hx := h x (by simp)
    split at hy
    · rcases List.mem_append.1 hy with hy | hy
      · exact h y (List.mem_append_left _ hy)
      · rw [List.mem_singleton] at hy; subst hy; simp only; omega
    · rcases List.mem_append.1 hy with hy | hy
      · exact h y hy
      · rw [List.mem_singleton] at hy; subst hy; simp
theorem short_many {l : List Ext} {bs : List Int} (h : ∀ x ∈ l, 1 ≤ x.2) : ∀ x ∈ short l bs, 1 ≤ x.2 := by
  induction bs generalizing l with
  | nil => exact h
  | cons b r ih => exact ih (app1_many h)
theorem isSh_snoc {out : List Ext} {x : Ext} : IsSh (out ++ [x]) ↔ IsSh out ∧ ∀ y, out.getLast? = some y → y.1 + y.2 ≠ x.1 := by
  constructor
  · intro h
    refine ⟨fun i hi => ?_, fun y hy => ?_⟩
    · have := h i (by simp; omega)
      rw [List.getElem_append_left (by omega), List.getElem_append_left (by omega)] at this
      exact this
    · have hne : out ≠ [] := by rintro rfl; cases hy
      have hpos : 0 < out.length := List.length_pos_iff.2 hne
      have := h (out.length - 1) (by simp; omega)
      rw [List.getElem_append_left (by omega), List.getElem_append_right (by omega)] at this
      have e : out[out.length - 1]'(by omega) = y := by
        rw [List.getLast?_eq_getElem?, List.getElem?_eq_getElem (by omega)] at hy
        exact Option.some.inj hy
      rw [e] at this
      simpa using this
  · rintro ⟨h1, h2⟩ i hi
    simp only [List.length_append, List.length_cons, List.length_nil] at hi
    by_cases hl : i + 1 < out.length
    · rw [List.getElem_append_left (by omega), List.getElem_append_left (by omega)]
      exact h1 i hl
    · have hi' : i + 1 = out.length := by omega
      rw [List.getElem_append_left (by omega), List.getElem_append_right (by omega)]
      have := h2 out[i] (by rw [List.getLast?_eq_getElem?, show out.length - 1 = i by omega, List.getElem?_eq_getElem (by omega)])
      simpa [show i + 1 - out.length = 0 by omega] using this
theorem app1_isSh {out : List Ext} {b : Int} (h : IsSh out) : IsSh (app1 out b) := by
  rcases List.eq_nil_or_concat out with rfl | ⟨o, x, rfl⟩
  · intro i hi
    rw [app1_nil] at hi
    simp at hi
  · rw [List.concat_eq_append] at h ⊢
    rw [app1_snoc]
    split
    · rw [isSh_snoc] at h ⊢
      exact h
    · rename_i hne
      rw [isSh_snoc]
      refine ⟨h, fun y hy => ?_⟩
      rw [List.getLast?_append] at hy
      simp at hy
      subst hy
      exact hne
theorem short_isSh {l : List Ext} {bs : List Int} (h : IsSh l) : IsSh (short l bs) := by
  induction bs generalizing l with
  | nil => exact h
  | cons b r ih => exact ih (app1_isSh h)
/-- A short list of blocks is right. -/
theorem short_val {n : Int} {bs : List Int} (hn : 0 ≤ n ∧ n ≤ 300) (hb : ∀ b ∈ bs, 0 ≤ b ∧ b < n) (hnd : bs.Nodup) : Val n (short [] bs) ∧ blk (short [] bs) = bs := by
  have e : blk (short [] bs) = bs := by
    rw [blk_short (by simp)]
    simp [blk]
  refine ⟨⟨hn, fun x hx => ?_, by rw [e]; exact hnd⟩, e⟩
  have h1 := short_many (l := []) (bs := bs) (by simp) x hx
  have mem : ∀ k : Nat, k < x.2.toNat → x.1 + (k : Int) ∈ bs := fun k hk => by
    rw [← e]
    exact List.mem_flatMap.2 ⟨x, hx, List.mem_map.2 ⟨k, List.mem_range.2 hk, rfl⟩⟩
  have h2 := hb _ (mem 0 (by omega))
  have h3 := hb _ (mem (x.2.toNat - 1) (by omega))
  unfold Ok1
  omega
theorem isShort_c {nl : Bool} {l : List Ext} (hl : l.length < 2 ^ 40) (hbd : ∀ x ∈ l, Ok1 300 x) (hs : IsSh l) {H : AHeap} {K : AV → AHeap → Prop} (h : K (.d (.bool true)) H) : CallsA Try.prog 28 [.d (.sl nl (es l))] H K := by
  apply C28
  unfold S28
  refine loop_ind (fun r vs G => G = H ∧ ∃ j : Nat, 1 ≤ j ∧ r = l.length - j ∧ vs = [.d (.sl nl (es l)), .d (.int .i64 j)]) (n := l.length - 1) ⟨rfl, 1, by omega, by omega, rfl⟩ ?_
  rintro X r vs G ⟨rfl, j, hj, rfl, rfl⟩ hX
  simp only [List.getD_cons_succ, List.getD_cons_zero, es_len, go_sem]
  split
  · rename_i hlt
    have hj' : j < l.length := by omega
    have hj1 : j - 1 < l.length := by omega
    have b1 := hbd l[j] (List.getElem_mem hj')
    have b2 := hbd l[j - 1] (List.getElem_mem hj1)
    unfold Ok1 at b1 b2
    have e1 : ((j : Int) - 1).toNat = j - 1 := by omega
    rw [wrap_i64 (n := (j : Int) - 1) (by omega) (by omega)]
    simp only [sl_get (ti := ti23) (e := 66) (esz := 2) rfl (by omega : (0 : Int) ≤ (j : Int) - 1) (by rw [e1]; exact es_get hj1) rfl, sl_get (ti := ti23) (e := 66) (esz := 2) rfl (by omega : (0 : Int) ≤ j) (by simpa using es_get hj') rfl, ex, List.map_cons, List.map_nil, ti66_v0, ti66_v1, go_sem]
    rw [wrap_i64 (by omega) (by omega)]
    have hne := hs (j - 1) (by omega)
    simp only [show j - 1 + 1 = j by omega] at hne
    rw [if_neg hne, wrap_i64 (by omega) (by omega)]
    exact hX (l.length - (j + 1)) _ _ (by omega) ⟨rfl, j + 1, by omega, rfl, rfl⟩
  · rename_i hge
    exact ⟨G, le_refl', h⟩
theorem free_law {nl : Bool} {m : List Bool} {n : Int} (hnl : nl = true → m = []) : CallsA Try.prog 7 [.d (.sl nl (bls m)), .d (.int .i64 n)] noHeap fun v _ => v = .d (.bool true) := by
  apply C7
  unfold S7
  simp only [go_sem]
  refine Allot_c hnl fun n1 n2 _ hn2 => ?_
  simp only [go_sem]
  by_cases hE : allE m n = 0
  · have hm : m.length ≤ 300 ∧ 0 ≤ n := by
      unfold allE at hE
      split at hE
      · assumption
      · cases hE
    have hn : n ≤ (fr m).length := by
      unfold allE at hE
      rw [if_pos hm] at hE
      split at hE
      · assumption
      · cases hE
    have hmem : ∀ b ∈ pick m n, 0 ≤ b ∧ b < m.length := fun b hb => pick_mem hm.2 hb
    have hfree : ∀ b ∈ pick m n, is m false b := fun b hb => fr_is (pick_sub hb)
    have hL : allL m n = short [] (pick m n) := by unfold allL; rw [if_pos hE]
    have hM : allM m n = mk m (pick m n) true := by unfold allM; rw [if_pos hE]
    obtain ⟨hv, hbl⟩ := short_val (n := m.length) (by omega) hmem pick_nodup
    obtain ⟨hv3, _⟩ := short_val (n := 300) (by omega) (fun b hb => by have := hmem b hb; omega) (pick_nodup (m := m) (n := n))
    have hlen := allL_len (m := m) (n := n)
    have hpl := pick_full hm.2 hn
    rw [hL] at hlen
    rw [hM] at hn2
    rw [hL, hM]
    generalize hS : short [] (pick m n) = L at *
    generalize hP : pick m n = p at *
    have hfl := fr_len (m := m)
    have hw : Wide L := fun x hx => by
      have := hv3.2.1 x hx
      unfold Ok1 at this
      omega
    simp only [hE, not_true_eq_false, if_false, go_sem]
    refine Blocks_c hw (by omega) fun n3 _ => ?_
    have hbP : blkP L = p := by unfold blkP; rw [if_pos hv3, hbl]
    have hbE : blkE L = 0 := by unfold blkE; rw [if_pos hv3]
    simp only [hbP, hbE, ints_len, hpl, not_true_eq_false, if_false, go_sem]
    refine isShort_c (by omega) hv3.2.1 (by rw [← hS]; exact short_isSh fun i hi => by simp at hi) ?_
    simp only [bls_len, mk_len, Bool.not_true, not_true_eq_false, if_false, go_sem]
    refine loop_ind (fun r vs G => G = noHeap ∧ ∃ j : Nat, j ≤ p.length ∧ r = p.length - j ∧ vs = [.d (.sl nl (bls m)), .d (.sl n1 (es L)), .d (.sl n2 (bls (mk m p true))), .d (.sl n3 (ints p)), .d (.int .i64 j)]) (n := p.length) ⟨rfl, 0, by omega, by omega, rfl⟩ ?_
    rintro X r vs G ⟨rfl, j, hj, rfl, rfl⟩ hX
    simp only [List.getD_cons_succ, List.getD_cons_zero, ints_len, bls_len, go_sem]
    split
    · rename_i hlt
      have hj' : j < p.length := by omega
      have hpm := List.getElem_mem hj'
      have hb := hmem _ hpm
      have hbn : (p[j]).toNat < m.length := by omega
      have hbn2 : (p[j]).toNat < (mk m p true).length := by rw [mk_len]; exact hbn
      have h1 := (is_at hbn).1 (hfree _ hpm)
      have h2 := (is_at hbn2).1 (mk_is (u := true) hmem hpm)
      have hix := sl_get (nl := n3) (ti := ti33) (e := 3) (esz := 1) rfl (by omega : (0 : Int) ≤ j) (by simpa using ints_get hj') rfl
      simp only [hix, List.map_cons, List.map_nil, go_sem]
      rw [if_neg (show ¬ p[j] < 0 by omega)]
      try simp only [hix, List.map_cons, List.map_nil, bls_len, go_sem]
      rw [if_neg (show ¬ (m.length : Int) ≤ p[j] by omega)]
      simp only [hix, sl_get (ti := ti22) (e := 4) (esz := 1) rfl hb.1 (bls_get hbn) rfl, sl_get (ti := ti22) (e := 4) (esz := 1) rfl hb.1 (bls_get hbn2) rfl, h1, h2, List.map_cons, List.map_nil, Bool.not_true, Bool.false_eq_true, if_false, go_sem]
      rw [wrap_i64 (by omega) (by omega)]
      exact hX (p.length - (j + 1)) _ _ (by omega) ⟨rfl, j + 1, by omega, rfl, rfl⟩
    · rename_i hge
      try simp only [go_sem]
      refine Free_c hw (by omega) hn2 fun n5 _ => ?_
      have hok : MkOk (mk m p true) L false := by
        refine ⟨by rw [mk_len]; exact hv, ?_⟩
        rintro ⟨b, hb, hf⟩
        rw [hbl] at hb
        exact is_not.1 (mk_is (u := true) hmem hb) hf
      have e1 : mkM (mk m p true) L false = m := by unfold mkM; rw [if_pos hok, hbl, mk_back hmem hfree]
      have e2 : mkE (mk m p true) L false = 0 := by unfold mkE; rw [if_pos hok]
      simp only [e1, e2, if_true, go_sem]
      refine sameMaps_c (by omega) ?_
      simp only [decide_true, if_true, go_sem]
      exact first_end
  · simp only [hE, not_false_eq_true, if_true, go_sem]
    exact first_end
theorem free_row (xs : List Dat) (h : DatOk Try.prog 9 22 xs) (ys : List Dat) (h2 : DatOk Try.prog 9 3 ys) : CallsA Try.prog 7 [argAV (aggT Try.prog 22) xs, argAV (aggT Try.prog 3) ys] noHeap fun v _ => v = .d (.bool true) := by
  obtain ⟨nl, m, hm, hnl, _⟩ := bools_open h
  obtain ⟨n, hn, _⟩ := int_open h2
  rw [hm, hn]
  exact free_law hnl
end Go.Proofs.Ytlaojbclmcageaa

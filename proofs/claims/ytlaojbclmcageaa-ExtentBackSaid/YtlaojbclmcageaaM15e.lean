/- Lists, their blocks, and maps that are marked. -/
import Derived.Test.YtlaojbclmcageaaM15d
set_option autoImplicit false
set_option maxRecDepth 100000
set_option linter.unusedVariables false
set_option linter.unusedSimpArgs false
namespace Go.Proofs.Ytlaojbclmcageaa
open Go Go.AM Go.Proofs
theorem nilA_eql {nl nl2 : Bool} {l l2 : List (List Dat)} : nilA 0 .eql (.d (.sl nl l)) (.d (.sl true l2)) = some (.d (.bool nl)) := by cases nl <;> rfl
theorem bs4_0 {H : AHeap} {n : Nat} : bsA ti4 0 [] [] H n = some (.lit [], []) := rfl
theorem clonem_c {nl : Bool} {m : List Bool} (hl : m.length < 2 ^ 40) (hnl : nl = true → m = []) {H : AHeap} {K : AV → AHeap → Prop} (h : ∀ v G, Gr H 1 G v (bls m) → nilS v = nl → K v G) : CallsA Try.prog 64 [.d (.sl nl (bls m))] H K := by
  apply C64m
  unfold S64m
  simp only [nilA_eql (nl2 := true), go_sem]
  cases nl with
  | true =>
    rw [hnl rfl] at h
    simp only [go_sem]
    exact ⟨H, le_refl', h _ _ (Gr.nil le_refl') rfl⟩
  | false =>
    simp only [go_sem]
    intro n hn
    simp only [bs4_0, go_sem]
    refine (Gr.lit le_refl').app (ys := bls m) rfl (by decide) (by decide) bls_1 (by rw [bls_len]; simp [mostBytes]; omega) fun v' H3 hv' _ _ hn3 => ?_
    rw [List.nil_append] at hv'
    exact ⟨H3, le_refl', h _ _ hv' hn3⟩
def mk (m : List Bool) (l : List Int) (u : Bool) : List Bool := l.foldl (fun m b => m.set b.toNat u) m
theorem mk_len {l : List Int} {u : Bool} : ∀ {m : List Bool}, (mk m l u).length = m.length := by
  induction l with
  | nil => intro m; rfl
  | cons b r ih =>
    intro m
    have := ih (m := m.set b.toNat u)
    rw [List.length_set] at this
    exact this
theorem mk_take {m : List Bool} {l : List Int} {u : Bool} {j : Nat} (h : j < l.length) : mk m (l.take (j + 1)) u = (mk m (l.take j) u).set l[j].toNat u := by
  simp only [mk]
  rw [List.take_add_one, List.getElem?_eq_getElem h]
  simp only [List.foldl_append, Option.toList_some, List.foldl_cons, List.foldl_nil]
theorem ret_bls {H H0 G : AHeap} {v : AV} {l : List Bool} {K : AV → AHeap → Prop} (h : Gr H0 1 G v (bls l)) (hle : AHeap.le H H0) (hk : ∀ nl, (nl = true → l = []) → K (.d (.sl nl (bls l))) H) : retF [v] G K := by
  refine h.own.ret hle (hk _ fun hn => ?_)
  have := h.own.nilS hn
  cases l with
  | nil => rfl
  | cons x r => cases this
/-- One place is set. -/
theorem bls_put {H0 H : AHeap} {v : AV} {m : List Bool} {b : Int} {u : Bool} (h : Gr H0 1 H v (bls m)) (h0 : 0 ≤ b) (h1 : b < m.length) {ti : TI} {e : Nat} (hk : ti.k = .slice e) :
    ∃ i ver o, v = .rs i ver 1 0 (bls m).length ∧ indexAddrA ti 1 v (.d (.int .i64 b)) = some (.ptr i ver b.toNat 0) ∧ stoA false 1 (.ptr i ver b.toNat 0) (.d (.bool u)) H = some (.junk, [(i, o)]) ∧ Gr H0 1 (H.set i o) v (bls (m.set b.toNat u)) := by
  have hb : b.toNat < m.length := by omega
  have hc : (bls m)[b.toNat]? = some [.bool m[b.toNat]] := bls_get hb
  obtain ⟨i, ver, L, rfl, g1, g2, g3⟩ := h.ix hk h0 hc
  obtain ⟨o, g4, g5⟩ := h.put (off := 0) (y := .bool u) hc (by simp)
  refine ⟨i, ver, o, rfl, g1, g4, ?_⟩
  have e : (bls m).set b.toNat ([Dat.bool m[b.toNat]].set 0 (.bool u)) = bls (m.set b.toNat u) := bls_set
  rw [e] at g5
  exact g5
theorem marked_c {n1 n2 : Bool} {m : List Bool} {l : List Int} {u : Bool} (hm : m.length < 2 ^ 40) (hll : l.length < 2 ^ 40) (hnl : n1 = true → m = []) (hl : ∀ b ∈ l, 0 ≤ b ∧ b < m.length) {H : AHeap} {K : AV → AHeap → Prop} (h : ∀ nl, (nl = true → mk m l u = []) → K (.d (.sl nl (bls (mk m l u)))) H) : CallsA Try.prog 49 [.d (.sl n1 (bls m)), .d (.sl n2 (ints l)), .d (.bool u)] H K := by
  apply C49
  unfold S49
  simp only [go_sem]
  refine clonem_c hm hnl fun v0 G0 hG0 _ => ?_
  simp only [ints_len, go_sem]
  refine loop_ind (fun r vs G => ∃ (j : Nat), j ≤ l.length ∧ r = l.length - j ∧ ∃ v, Gr H 1 G v (bls (mk m (l.take j) u)) ∧ vs = [.d (.bool u), v, .d (.sl n2 (ints l)), .d (.int .i64 l.length), .d (.int .i64 j)]) (n := l.length) ⟨0, by omega, by omega, v0, hG0, rfl⟩ ?_
  rintro X r vs G ⟨j, hj, rfl, v, hG, rfl⟩ hX
  simp only [List.getD_cons_succ, List.getD_cons_zero, go_sem]
  split
  · rename_i hlt
    have hj' : j < l.length := by omega
    have hb := hl l[j] (List.getElem_mem hj')
    have ht := mk_take (m := m) (u := u) hj'
    simp only [sl_get (ti := ti33) (e := 3) (esz := 1) rfl (by omega : (0 : Int) ≤ j) (by simpa using ints_get hj') rfl, List.map_cons, List.map_nil, go_sem]
    obtain ⟨i, ver, o, hv, e1, e2, e3⟩ := bls_put (u := u) hG hb.1 (by rw [mk_len]; exact hb.2) (ti := ti22) (e := 4) rfl
    simp only [e1, e2, go_sem]
    rw [wrap_i64 (by omega) (by omega)]
    exact hX (l.length - (j + 1)) _ _ (by omega) ⟨j + 1, by omega, rfl, v, by rw [ht]; exact e3, rfl⟩
  · rename_i hge
    rw [List.take_of_length_le (by omega)] at hG
    exact ret_bls hG le_refl' h
theorem rmarked_c {n1 n2 : Bool} {m : List Bool} {l : List Int} {u : Bool} (hm : m.length < 2 ^ 40) (hll : l.length < 2 ^ 40) (hl : ∀ b ∈ l, 0 ≤ b ∧ b < m.length) {H : AHeap} {K : AV → AHeap → Prop} (h : ∀ nl, (nl = true → mk m l u = []) → K (.d (.sl nl (bls (mk m l u)))) H) : CallsA Try.prog 53 [.d (.sl n1 (bls m)), .d (.sl n2 (ints l)), .d (.bool u)] H K := by
  apply C53
  unfold S53
  intro n hn
  simp only [bs4_0, go_sem]
  refine (Gr.lit le_refl').app (ys := bls m) rfl (by decide) (by decide) bls_1 (by rw [bls_len]; simp [mostBytes]; omega) fun v0 G0 hG0 _ _ hn3 => ?_
  rw [List.nil_append] at hG0
  refine loop_ind (fun r vs G => ∃ (j : Nat), j ≤ l.length ∧ r = l.length - j ∧ ∃ v, Gr H 1 G v (bls (mk m (l.take j) u)) ∧ vs = [.d (.sl n2 (ints l)), .d (.bool u), v, .d (.int .i64 j)]) (n := l.length) ⟨0, by omega, by omega, v0, hG0, rfl⟩ ?_
  rintro X r vs G ⟨j, hj, rfl, v, hG, rfl⟩ hX
  simp only [List.getD_cons_succ, List.getD_cons_zero, ints_len, go_sem]
  split
  · rename_i hlt
    have hj' : j < l.length := by omega
    have hb := hl l[j] (List.getElem_mem hj')
    have ht := mk_take (m := m) (u := u) hj'
    simp only [sl_get (ti := ti33) (e := 3) (esz := 1) rfl (by omega : (0 : Int) ≤ j) (by simpa using ints_get hj') rfl, List.map_cons, List.map_nil, go_sem]
    obtain ⟨i, ver, o, hv, e1, e2, e3⟩ := bls_put (u := u) hG hb.1 (by rw [mk_len]; exact hb.2) (ti := ti22) (e := 4) rfl
    simp only [e1, e2, go_sem]
    rw [wrap_i64 (by omega) (by omega)]
    exact hX (l.length - (j + 1)) _ _ (by omega) ⟨j + 1, by omega, rfl, v, by rw [ht]; exact e3, rfl⟩
  · rename_i hge
    rw [List.take_of_length_le (by omega)] at hG
    exact ret_bls hG le_refl' h
theorem right_c {nl : Bool} {l : List Ext} (hw : Wide l) (hl : l.length < 2 ^ 40) {H : AHeap} {K : AV → AHeap → Prop} (h : K (.d (.bool (decide (Val 300 l)))) H) : CallsA Try.prog 59 [.d (.sl nl (es l))] H K := by
  apply C59
  unfold S59
  simp only [go_sem]
  refine rvalid_c hw hl ?_
  simp only [go_sem]
  exact ⟨H, le_refl', h⟩
/-- The blocks of a list, and the error. -/
def blkP (l : List Ext) : List Int := if Val 300 l then blk l else []
def blkE (l : List Ext) : Int := if Val 300 l then 0 else 2
theorem Blocks_c {nl : Bool} {l : List Ext} (hw : Wide l) (hl : l.length < 2 ^ 20) {H : AHeap} {K : AV → AHeap → Prop} (h : ∀ nl, (nl = true → blkP l = []) → K (.tup [.d (.sl nl (ints (blkP l))), .d (.int .i64 (blkE l))]) H) : CallsA Try.prog 27 [.d (.sl nl (es l))] H K := by
  apply C27
  unfold S27
  simp only [go_sem]
  refine valid_c hw (by omega) ?_
  unfold blkP blkE at h
  simp only [go_sem]
  split
  · rename_i hv
    simp only [hv, if_false] at h
    exact ⟨H, le_refl', h true (by simp)⟩
  · rename_i hv
    have hv := Classical.not_not.1 hv
    simp only [hv, if_true] at h
    try simp only [go_sem]
    refine blocks_c hv.2.1 hl fun n2 hn2 => ?_
    simp only [go_sem]
    exact ⟨H, le_refl', h n2 hn2⟩
theorem rBlocks_c {nl : Bool} {l : List Ext} (hw : Wide l) (hl : l.length < 2 ^ 20) {H : AHeap} {K : AV → AHeap → Prop} (h : ∀ nl, (nl = true → blkP l = []) → K (.tup [.d (.sl nl (ints (blkP l))), .d (.int .i64 (blkE l))]) H) : CallsA Try.prog 29 [.d (.sl nl (es l))] H K := by
  apply C29
  unfold S29
  simp only [go_sem]
  refine right_c hw (by omega) ?_
  unfold blkP blkE at h
  simp only [go_sem]
  split
  · rename_i hv
    simp only [hv, if_false] at h
    exact ⟨H, le_refl', h true (by simp)⟩
  · rename_i hv
    have hv := Classical.not_not.1 hv
    simp only [hv, if_true] at h
    try simp only [go_sem]
    refine rblocks_c hv.2.1 hl fun n2 hn2 => ?_
    simp only [go_sem]
    exact ⟨H, le_refl', h n2 hn2⟩
theorem Count_c {nl : Bool} {l : List Ext} (hw : Wide l) (hl : l.length < 2 ^ 20) {H : AHeap} {K : AV → AHeap → Prop} (h : K (.tup [.d (.int .i64 (blkP l).length), .d (.int .i64 (blkE l))]) H) : CallsA Try.prog 30 [.d (.sl nl (es l))] H K := by
  apply C30
  unfold S30
  simp only [go_sem]
  refine Blocks_c hw hl fun n2 _ => ?_
  simp only [ints_len, go_sem]
  exact ⟨H, le_refl', h⟩
theorem rCount_c {nl : Bool} {l : List Ext} (hw : Wide l) (hl : l.length < 2 ^ 20) {H : AHeap} {K : AV → AHeap → Prop} (h : K (.tup [.d (.int .i64 (blkP l).length), .d (.int .i64 (blkE l))]) H) : CallsA Try.prog 31 [.d (.sl nl (es l))] H K := by
  apply C31
  unfold S31
  simp only [go_sem]
  refine right_c hw (by omega) ?_
  unfold blkP blkE at h
  simp only [go_sem]
  split
  · rename_i hv
    simp only [hv, if_false] at h
    exact ⟨H, le_refl', h⟩
  · rename_i hv
    have hv := Classical.not_not.1 hv
    simp only [hv, if_true] at h
    try simp only [go_sem]
    refine rblocks_c hv.2.1 hl fun n2 hn2 => ?_
    simp only [ints_len, go_sem]
    exact ⟨H, le_refl', h⟩
def atP (l : List Ext) (i : Int) : Int := if Val 300 l ∧ 0 ≤ i ∧ i < (blk l).length then (blk l).getD i.toNat 0 else 0
def atE (l : List Ext) (i : Int) : Int := if Val 300 l ∧ 0 ≤ i ∧ i < (blk l).length then 0 else 2
theorem At_c {nl : Bool} {l : List Ext} {i : Int} (hw : Wide l) (hl : l.length < 2 ^ 20) {H : AHeap} {K : AV → AHeap → Prop} (h : K (.tup [.d (.int .i64 (atP l i)), .d (.int .i64 (atE l i))]) H) : CallsA Try.prog 32 [.d (.sl nl (es l)), .d (.int .i64 i)] H K := by
  apply C32
  unfold S32
  simp only [go_sem]
  refine Blocks_c hw hl fun n2 _ => ?_
  unfold atP atE at h
  have no : ¬ (Val 300 l ∧ 0 ≤ i ∧ i < (blk l).length) → finA (.tup [.d (.int .i64 0), .d (.int .i64 2)]) H K := fun hn => by
    simp only [hn, if_false] at h
    exact ⟨H, le_refl', h⟩
  unfold blkP blkE
  simp only [go_sem]
  by_cases hv : Val 300 l
  · simp only [hv, ints_len, not_true_eq_false, if_true, if_false, go_sem]
    split
    · exact no (by omega)
    try simp only [ints_len, go_sem]
    split
    · exact no (by omega)
    rename_i h1 h2
    have hi : i.toNat < (blk l).length := by omega
    simp only [sl_get (ti := ti33) (e := 3) (esz := 1) rfl (by omega : (0 : Int) ≤ i) (ints_get hi) rfl, List.map_cons, List.map_nil, go_sem]
    rw [if_pos ⟨hv, by omega, by omega⟩, if_pos ⟨hv, by omega, by omega⟩, List.getD_eq_getElem?_getD, List.getElem?_eq_getElem hi] at h
    exact ⟨H, le_refl', h⟩
  · simp only [hv, if_false, Int.reduceEq, not_false_eq_true, if_true, go_sem]
    exact no fun hh => hv hh.1
theorem rAt_c {nl : Bool} {l : List Ext} {i : Int} (hw : Wide l) (hl : l.length < 2 ^ 20) {H : AHeap} {K : AV → AHeap → Prop} (h : K (.tup [.d (.int .i64 (atP l i)), .d (.int .i64 (atE l i))]) H) : CallsA Try.prog 33 [.d (.sl nl (es l)), .d (.int .i64 i)] H K := by
  apply C33
  unfold S33
  simp only [go_sem]
  refine right_c hw (by omega) ?_
  unfold atP atE at h
  have no : ¬ (Val 300 l ∧ 0 ≤ i ∧ i < (blk l).length) → finA (.tup [.d (.int .i64 0), .d (.int .i64 2)]) H K := fun hn => by
    simp only [hn, if_false] at h
    exact ⟨H, le_refl', h⟩
  simp only [go_sem]
  split
  · rename_i hv
    exact no fun hh => hv hh.1
  rename_i hv
  have hv := Classical.not_not.1 hv
  try simp only [go_sem]
  split
  · exact no (by omega)
  try simp only [go_sem]
  refine rblocks_c hv.2.1 hl fun n2 hn2 => ?_
  simp only [ints_len, go_sem]
  split
  · exact no (by omega)
  try simp only [go_sem]
  refine rblocks_c hv.2.1 hl fun n3 hn3 => ?_
  rename_i h1 h2
  have hi : i.toNat < (blk l).length := by omega
  simp only [sl_get (ti := ti33) (e := 3) (esz := 1) rfl (by omega : (0 : Int) ≤ i) (ints_get hi) rfl, List.map_cons, List.map_nil, go_sem]
  rw [if_pos ⟨hv, by omega, by omega⟩, if_pos ⟨hv, by omega, by omega⟩, List.getD_eq_getElem?_getD, List.getElem?_eq_getElem hi] at h
  exact ⟨H, le_refl', h⟩
theorem val0 {n : Int} : Val n [] ↔ 0 ≤ n ∧ n ≤ 300 := by simp [Val, blk]
def leftP (m : List Bool) : Int := if m.length ≤ 300 then (fr m).length else 0
def leftE (m : List Bool) : Int := if m.length ≤ 300 then 0 else 2
theorem es_nil : es [] = [] := rfl
theorem Left_c {nl : Bool} {m : List Bool} {H : AHeap} {K : AV → AHeap → Prop} (h : K (.tup [.d (.int .i64 (leftP m)), .d (.int .i64 (leftE m))]) H) : CallsA Try.prog 14 [.d (.sl nl (bls m))] H K := by
  apply C14
  unfold S14
  simp only [go_sem]
  refine isMap_c (l := []) (by simp [Wide]) (by simp) ?_
  unfold leftP leftE at h
  simp only [val0, go_sem]
  by_cases hm : m.length ≤ 300
  · simp only [hm, if_true] at h
    simp only [show (0 : Int) ≤ m.length ∧ (m.length : Int) ≤ 300 by omega, and_self, not_true_eq_false, if_false, go_sem]
    refine count_c (by omega) ?_
    simp only [go_sem]
    exact ⟨H, le_refl', h⟩
  · simp only [hm, if_false] at h
    simp only [show ¬ ((0 : Int) ≤ m.length ∧ (m.length : Int) ≤ 300) by omega, not_false_eq_true, if_true, go_sem]
    exact ⟨H, le_refl', h⟩
theorem rLeft_c {nl : Bool} {m : List Bool} {H : AHeap} {K : AV → AHeap → Prop} (h : K (.tup [.d (.int .i64 (leftP m)), .d (.int .i64 (leftE m))]) H) : CallsA Try.prog 15 [.d (.sl nl (bls m))] H K := by
  apply C15
  unfold S15
  unfold leftP leftE at h
  simp only [bls_len, go_sem]
  split
  · rename_i hm
    simp only [show ¬ m.length ≤ 300 by omega, if_false] at h
    exact ⟨H, le_refl', h⟩
  · rename_i hm
    simp only [show m.length ≤ 300 by omega, if_true] at h
    try simp only [go_sem]
    refine rfree_c (by omega) fun n2 _ => ?_
    simp only [ints_len, go_sem]
    exact ⟨H, le_refl', h⟩
end Go.Proofs.Ytlaojbclmcageaa

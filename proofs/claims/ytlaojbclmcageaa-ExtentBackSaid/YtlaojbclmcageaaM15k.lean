/- The law of lists that are freed and taken. -/
import Derived.Test.YtlaojbclmcageaaM15j
set_option autoImplicit false
set_option maxRecDepth 100000
set_option linter.unusedVariables false
set_option linter.unusedSimpArgs false
namespace Go.Proofs.Ytlaojbclmcageaa
open Go Go.AM Go.Proofs
/-- Is a block marked so? -/
def is (m : List Bool) (u : Bool) (b : Int) : Prop := m.getD b.toNat false = u
instance (m : List Bool) (u : Bool) (b : Int) : Decidable (is m u b) := by unfold is; exact inferInstance
theorem is_at {m : List Bool} {u : Bool} {b : Int} (h : b.toNat < m.length) : is m u b ↔ m[b.toNat] = u := by
  simp [is, List.getD_eq_getElem?_getD, h]
theorem test_c {nl : Bool} {m : List Bool} {u : Bool} {b : Int} {k1 k2 : Nat} (h0 : 0 ≤ b) (h1 : b < m.length) {H : AHeap} (hk1 : H k1 = some (.mem 0 0 1 [[.d (.sl nl (bls m))]])) (hk2 : H k2 = some (.mem 0 0 1 [[.d (.bool u)]])) {K : AV → AHeap → Prop} (h : K (.d (.bool (decide (is m u b)))) H) : CallsA Try.prog 67 [.d (.int .i64 b), .ptr k1 0 0 0, .ptr k2 0 0 0] H K := by
  apply C67
  unfold S67
  have hb : b.toNat < m.length := by omega
  simp only [getM_of hk1, getM_of hk2, sl_get (ti := ti22) (e := 4) (esz := 1) rfl h0 (bls_get hb) rfl, List.map_cons, List.map_nil, boolA_eql, go_sem]
  exact ⟨H, le_refl', k_bool h (by rw [Bool.eq_iff_iff]; simp [is_at hb])⟩
theorem callA_67 {k1 k2 : Nat} {args : List AV} {H : AHeap} {K : AV → AHeap → Prop} : callA (CallsA Try.prog) pol70 (.func 67 [] [.ptr k1 0 0 0, .ptr k2 0 0 0]) args H K = frzLK (args ++ [.ptr k1 0 0 0, .ptr k2 0 0 0]) H (fun l H' => CallsA Try.prog 67 l H' K) := rfl
theorem indexOf_c {nl n2 : Bool} {m : List Bool} {u : Bool} {l : List Int} {k1 k2 : Nat} (hl : l.length < 2 ^ 40) (hb : ∀ b ∈ l, 0 ≤ b ∧ b < m.length) {H : AHeap} (hk1 : H k1 = some (.mem 0 0 1 [[.d (.sl nl (bls m))]])) (hk2 : H k2 = some (.mem 0 0 1 [[.d (.bool u)]])) {K : AV → AHeap → Prop} (h : ∀ i : Int, (0 ≤ i ↔ ∃ b ∈ l, is m u b) → K (.d (.int .i64 i)) H) : CallsA Try.prog 70 [.d (.sl n2 (ints l)), .func 67 [] [.ptr k1 0 0 0, .ptr k2 0 0 0]] H K := by
  apply C70
  unfold S70
  simp only [ints_len, go_sem]
  refine loop_ind (fun r vs G => G = H ∧ ∃ j : Nat, j ≤ l.length ∧ r = l.length - j ∧ (∀ b ∈ l.take j, ¬ is m u b) ∧ vs = [.d (.sl n2 (ints l)), .func 67 [] [.ptr k1 0 0 0, .ptr k2 0 0 0], .d (.int .i64 l.length), .d (.int .i64 j)]) (n := l.length) ⟨rfl, 0, by omega, by omega, by simp, rfl⟩ ?_
  rintro X r vs G ⟨rfl, j, hj, rfl, hno, rfl⟩ hX
  simp only [List.getD_cons_succ, List.getD_cons_zero, go_sem]
  split
  · rename_i hlt
    have hj' : j < l.length := by omega
    have hm := List.getElem_mem hj'
    simp only [sl_get (ti := ti33) (e := 3) (esz := 1) rfl (by omega : (0 : Int) ≤ j) (by simpa using ints_get hj') rfl, List.map_cons, List.map_nil, callA_67, List.cons_append, go_sem]
    refine test_c (hb _ hm).1 (hb _ hm).2 hk1 hk2 ?_
    simp only [go_sem]
    split
    · rename_i hyes
      exact ⟨G, le_refl', h _ ⟨fun _ => ⟨_, hm, hyes⟩, fun _ => by omega⟩⟩
    · rename_i hn
      rw [wrap_i64 (by omega) (by omega)]
      refine hX (l.length - (j + 1)) _ _ (by omega) ⟨rfl, j + 1, by omega, rfl, fun b hb' => ?_, rfl⟩
      rw [List.take_add_one, List.getElem?_eq_getElem hj'] at hb'
      simp only [Option.toList_some, List.mem_append, List.mem_singleton] at hb'
      rcases hb' with hb' | rfl
      · exact hno b hb'
      · exact hn
  · rename_i hge
    rw [List.take_of_length_le (by omega)] at hno
    exact ⟨G, le_refl', h _ ⟨fun hh => by omega, fun ⟨b, hb', hy⟩ => absurd hy (hno b hb')⟩⟩
theorem contains_c {nl n2 : Bool} {m : List Bool} {u : Bool} {l : List Int} {k1 k2 : Nat} (hl : l.length < 2 ^ 40) (hb : ∀ b ∈ l, 0 ≤ b ∧ b < m.length) {H : AHeap} (hk1 : H k1 = some (.mem 0 0 1 [[.d (.sl nl (bls m))]])) (hk2 : H k2 = some (.mem 0 0 1 [[.d (.bool u)]])) {K : AV → AHeap → Prop} (h : K (.d (.bool (decide (∃ b ∈ l, is m u b)))) H) : CallsA Try.prog 66 [.d (.sl n2 (ints l)), .func 67 [] [.ptr k1 0 0 0, .ptr k2 0 0 0]] H K := by
  apply C66
  unfold S66
  simp only [go_sem]
  refine indexOf_c hl hb hk1 hk2 fun i hi => ?_
  simp only [go_sem]
  exact ⟨H, le_refl', k_bool h (decide_eq_decide.2 hi)⟩
theorem blk_nil {l : List Ext} (h : ∀ x ∈ l, 1 ≤ x.2) (hb : blk l = []) : l = [] := by
  cases l with
  | nil => rfl
  | cons x r =>
    have h1 := h x (by simp)
    have h2 : (blk (x :: r)).length = 0 := by rw [hb]; rfl
    have h3 : blk (x :: r) = blk1 x ++ blk r := by simp [blk]
    rw [h3, List.length_append, blk1, part_len] at h2
    omega
/-- The same, with what is nil. -/
theorem blocks_d {nl : Bool} {l : List Ext} (ho : ∀ x ∈ l, Ok1 300 x) (hl : l.length < 2 ^ 20) {H : AHeap} {K : AV → AHeap → Prop} (h : K (.d (.sl (blk l).isEmpty (ints (blk l)))) H) : CallsA Try.prog 58 [.d (.sl nl (es l))] H K := by
  cases l with
  | nil =>
    apply C58
    unfold S58
    simp only [es_len, go_sem]
    refine loop_ind (fun r vs G => G = H ∧ vs = [.d (.sl true []), .junk, .d (.sl nl (es [])), .d (.int .i64 ([] : List Ext).length), .d (.int .i64 0), .junk, .junk]) (n := 0) ⟨rfl, rfl⟩ ?_
    rintro X r vs G ⟨rfl, rfl⟩ hX
    simp only [List.getD_cons_succ, List.getD_cons_zero, go_sem]
    rw [if_neg (by simp)]
    exact ⟨G, le_refl', h⟩
  | cons x r =>
    refine blocks_c ho hl fun n2 hn2 => ?_
    have hne : blk (x :: r) ≠ [] := fun he => by
      have := blk_nil (fun y hy => (ho y hy).2.1) he
      cases this
    have e1 : n2 = false := by
      cases n2 with
      | false => rfl
      | true => exact absurd (hn2 rfl) hne
    have e2 : (blk (x :: r)).isEmpty = false := by
      cases hb : blk (x :: r) with
      | nil => exact absurd hb hne
      | cons y q => rfl
    rw [e2] at h
    rw [e1]
    exact h
theorem mk_nil {l : List Int} {u : Bool} : mk [] l u = [] := by
  have := mk_len (m := []) (l := l) (u := u)
  exact List.length_eq_zero_iff.1 this
theorem marked_d {n1 n2 : Bool} {m : List Bool} {l : List Int} {u : Bool} (hm : m.length < 2 ^ 40) (hll : l.length < 2 ^ 40) (hnl : n1 = true → m = []) (hl : ∀ b ∈ l, 0 ≤ b ∧ b < m.length) {H : AHeap} {K : AV → AHeap → Prop} (h : K (.d (.sl n1 (bls (mk m l u)))) H) : CallsA Try.prog 49 [.d (.sl n1 (bls m)), .d (.sl n2 (ints l)), .d (.bool u)] H K := by
  apply C49
  unfold S49
  simp only [go_sem]
  refine clonem_c hm hnl fun v0 G0 hG0 hn0 => ?_
  simp only [ints_len, go_sem]
  refine loop_ind (fun r vs G => ∃ (j : Nat), j ≤ l.length ∧ r = l.length - j ∧ Gr H 1 G v0 (bls (mk m (l.take j) u)) ∧ vs = [.d (.bool u), v0, .d (.sl n2 (ints l)), .d (.int .i64 l.length), .d (.int .i64 j)]) (n := l.length) ⟨0, by omega, by omega, hG0, rfl⟩ ?_
  rintro X r vs G ⟨j, hj, rfl, hG, rfl⟩ hX
  simp only [List.getD_cons_succ, List.getD_cons_zero, go_sem]
  split
  · rename_i hlt
    have hj' : j < l.length := by omega
    have hb := hl l[j] (List.getElem_mem hj')
    have ht := mk_take (m := m) (u := u) hj'
    simp only [sl_get (ti := ti33) (e := 3) (esz := 1) rfl (by omega : (0 : Int) ≤ j) (by simpa using ints_get hj') rfl, List.map_cons, List.map_nil, go_sem]
    obtain ⟨i, ver, o, hv, e1, e2, e3⟩ := bls_put (u := u) hG hb.1 (by rw [mk_len]; exact hb.2) (ti := ti22) (e := 4) rfl
    simp only [e1, e2, go_sem]
    rw [wrap_i64 (by omega) (by omega)]
    exact hX (l.length - (j + 1)) _ _ (by omega) ⟨j + 1, by omega, rfl, by rw [ht]; exact e3, rfl⟩
  · rename_i hge
    rw [List.take_of_length_le (by omega)] at hG
    refine hG.own.ret le_refl' ?_
    rw [hn0]
    exact h
theorem val_mem {n : Int} {l : List Ext} (hv : Val n l) {b : Int} (hb : b ∈ blk l) : 0 ≤ b ∧ b < n := by
  obtain ⟨x, hx, hb⟩ := List.mem_flatMap.1 hb
  have h1 := hv.2.1 x hx
  have h2 := part_mem hb
  unfold Ok1 at h1
  omega
theorem val_ok {n : Int} {l : List Ext} (hv : Val n l) : ∀ x ∈ l, Ok1 300 x := fun x hx => by
  have h1 := hv.2.1 x hx
  have h2 := hv.1
  unfold Ok1 at *
  omega
def MkOk (m : List Bool) (l : List Ext) (u : Bool) : Prop := Val m.length l ∧ ¬ ∃ b ∈ blk l, is m u b
instance (m : List Bool) (l : List Ext) (u : Bool) : Decidable (MkOk m l u) := by unfold MkOk; exact inferInstance
def mkM (m : List Bool) (l : List Ext) (u : Bool) : List Bool := if MkOk m l u then mk m (blk l) u else []
def mkE (m : List Bool) (l : List Ext) (u : Bool) : Int := if MkOk m l u then 0 else 2
theorem mkM_len {m : List Bool} {l : List Ext} {u : Bool} : (mkM m l u).length ≤ 300 := by
  unfold mkM
  split
  · rename_i h
    rw [mk_len]
    have := h.1.1
    omega
  · simp
theorem mark_c {nl n2 : Bool} {m : List Bool} {l : List Ext} {u : Bool} (hw : Wide l) (hl : l.length ≤ 400) (hnl : nl = true → m = []) {H : AHeap} {K : AV → AHeap → Prop} (h : ∀ n1, (n1 = true → mkM m l u = []) → K (.tup [.d (.sl n1 (bls (mkM m l u))), .d (.int .i64 (mkE m l u))]) H) : CallsA Try.prog 54 [.d (.sl nl (bls m)), .d (.sl n2 (es l)), .d (.bool u)] H K := by
  have no : ¬ MkOk m l u → ∀ G, AHeap.le H G → finA (.tup [.d (.sl true []), .d (.int .i64 2)]) G K := fun hn G hG => by
    have := h true (fun _ => by unfold mkM; rw [if_neg hn])
    unfold mkM mkE at this
    rw [if_neg hn, if_neg hn] at this
    exact ⟨H, hG, this⟩
  apply C54
  unfold S54
  refine box_open rfl fun k1 G1 hG1 hle1 hk1 => ?_
  refine box_open rfl fun k2 G2 hG2 hle2 hk2 => ?_
  have hG1' := hle2 _ _ hG1
  have hle := le_trans' hle1 hle2
  simp only [AV.cells] at hG1' hG2
  simp only [getM_of hG1', go_sem]
  refine isMap_c hw (by omega) ?_
  simp only [go_sem]
  split
  · rename_i hv
    exact no (fun hh => hv hh.1) _ hle
  rename_i hv
  have hv := Classical.not_not.1 hv
  have hbl := blk_len (val_ok hv)
  have hm300 := hv.1
  try simp only [go_sem]
  refine blocks_c (val_ok hv) (by omega) fun n3 hn3 => ?_
  simp only [go_sem]
  refine contains_c (m := m) (u := u) (by omega) (fun b hb => val_mem hv hb) hG1' hG2 ?_
  simp only [go_sem]
  split
  · rename_i hc
    exact no (fun hh => hh.2 hc) _ hle
  rename_i hc
  have hok : MkOk m l u := ⟨hv, hc⟩
  unfold mkM mkE at h
  rw [if_pos hok, if_pos hok] at h
  simp only [getM_of hG1', getM_of hG2, go_sem]
  refine ⟨_, blocks_d (val_ok hv) (by omega) ⟨rfl, le_refl'⟩, ?_⟩
  simp only [getM_of hG1', getM_of hG2, go_sem]
  refine ⟨_, marked_d (by omega) (by omega) hnl (fun b hb => val_mem hv hb) ⟨rfl, le_refl'⟩, ?_⟩
  simp only [go_sem]
  exact ⟨H, hle, h nl fun hh => by rw [hnl hh, mk_nil]⟩
theorem Free_c {nl n2 : Bool} {m : List Bool} {l : List Ext} (hw : Wide l) (hl : l.length ≤ 400) (hnl : nl = true → m = []) {H : AHeap} {K : AV → AHeap → Prop} (h : ∀ n1, (n1 = true → mkM m l false = []) → K (.tup [.d (.sl n1 (bls (mkM m l false))), .d (.int .i64 (mkE m l false))]) H) : CallsA Try.prog 21 [.d (.sl nl (bls m)), .d (.sl n2 (es l))] H K := by
  apply C21
  unfold S21
  simp only [go_sem]
  refine mark_c hw hl hnl fun n1 hn1 => ?_
  simp only [go_sem]
  exact ⟨H, le_refl', h n1 hn1⟩
theorem Take_c {nl n2 : Bool} {m : List Bool} {l : List Ext} (hw : Wide l) (hl : l.length ≤ 400) (hnl : nl = true → m = []) {H : AHeap} {K : AV → AHeap → Prop} (h : ∀ n1, (n1 = true → mkM m l true = []) → K (.tup [.d (.sl n1 (bls (mkM m l true))), .d (.int .i64 (mkE m l true))]) H) : CallsA Try.prog 23 [.d (.sl nl (bls m)), .d (.sl n2 (es l))] H K := by
  apply C23
  unfold S23
  simp only [go_sem]
  refine mark_c hw hl hnl fun n1 hn1 => ?_
  simp only [go_sem]
  exact ⟨H, le_refl', h n1 hn1⟩
theorem all_c {nl n2 : Bool} {m : List Bool} {u : Bool} {l : List Int} (hl : l.length < 2 ^ 40) (hb : ∀ b ∈ l, 0 ≤ b ∧ b < m.length) {H : AHeap} {K : AV → AHeap → Prop} (h : K (.d (.bool (decide (∀ b ∈ l, is m u b)))) H) : CallsA Try.prog 55 [.d (.sl nl (bls m)), .d (.sl n2 (ints l)), .d (.bool u)] H K := by
  apply C55
  unfold S55
  refine loop_ind (fun r vs G => G = H ∧ ∃ j : Nat, j ≤ l.length ∧ r = l.length - j ∧ (∀ b ∈ l.take j, is m u b) ∧ vs = [.d (.sl nl (bls m)), .d (.sl n2 (ints l)), .d (.bool u), .d (.int .i64 j)]) (n := l.length) ⟨rfl, 0, by omega, by omega, by simp, rfl⟩ ?_
  rintro X r vs G ⟨rfl, j, hj, rfl, hyes, rfl⟩ hX
  simp only [List.getD_cons_succ, List.getD_cons_zero, ints_len, go_sem]
  split
  · rename_i hlt
    have hj' : j < l.length := by omega
    have hm := List.getElem_mem hj'
    have hbj := hb _ hm
    have hbn : (l[j]).toNat < m.length := by omega
    simp only [sl_get (ti := ti33) (e := 3) (esz := 1) rfl (by omega : (0 : Int) ≤ j) (by simpa using ints_get hj') rfl, sl_get (ti := ti22) (e := 4) (esz := 1) rfl hbj.1 (bls_get hbn) rfl, List.map_cons, List.map_nil, boolA_neq, go_sem]
    split
    · rename_i hne
      refine ⟨G, le_refl', k_bool h (by symm; apply decide_eq_false; intro hh; have := (is_at hbn).1 (hh _ hm); rw [this] at hne; simp at hne)⟩
    · rename_i heq
      rw [wrap_i64 (by omega) (by omega)]
      refine hX (l.length - (j + 1)) _ _ (by omega) ⟨rfl, j + 1, by omega, rfl, fun b hb' => ?_, rfl⟩
      rw [List.take_add_one, List.getElem?_eq_getElem hj'] at hb'
      simp only [Option.toList_some, List.mem_append, List.mem_singleton] at hb'
      rcases hb' with hb' | rfl
      · exact hyes b hb'
      · exact (is_at hbn).2 (by simpa using heq)
  · rename_i hge
    rw [List.take_of_length_le (by omega)] at hyes
    exact ⟨G, le_refl', k_bool h (by symm; exact decide_eq_true hyes)⟩
theorem is_not {m : List Bool} {u : Bool} {b : Int} : is m (!u) b ↔ ¬ is m u b := by
  unfold is
  cases m.getD b.toNat false <;> cases u <;> simp
theorem rMark {nl n2 : Bool} {m : List Bool} {l : List Ext} {u : Bool} (hw : Wide l) (hl : l.length ≤ 400) {H : AHeap} {K : AV → AHeap → Prop} (h : ∀ n1, (n1 = true → mkM m l u = []) → K (.tup [.d (.sl n1 (bls (mkM m l u))), .d (.int .i64 (mkE m l u))]) H) :
    CallsA Try.prog 35 [.d (.int .i64 m.length), .d (.sl n2 (es l))] H fun v2 H3 => optA (unA .not v2) fun v6 => ifA v6 (retF [.d (.sl true []), .d (.int .i64 2)] H3 K) (frzLK [.d (.sl n2 (es l))] H3 fun l9 H10 => CallsA Try.prog 56 l9 H10 fun v7 H8 => frzLK [.d (.sl nl (bls m)), v7, .d (.bool (!u))] H8 fun l13 H14 => CallsA Try.prog 55 l13 H14 fun v11 H12 => optA (unA .not v11) fun v15 => ifA v15 (retF [.d (.sl true []), .d (.int .i64 2)] H12 K) (frzLK [.d (.sl n2 (es l))] H12 fun l18 H19 => CallsA Try.prog 56 l18 H19 fun v16 H17 => frzLK [.d (.sl nl (bls m)), v16, .d (.bool u)] H17 fun l22 H23 => CallsA Try.prog 53 l22 H23 fun v20 H21 => retF [v20, .d (.int .i64 0)] H21 K)) := by
  have no : ¬ MkOk m l u → finA (.tup [.d (.sl true []), .d (.int .i64 2)]) H K := fun hn => by
    have := h true (fun _ => by unfold mkM; rw [if_neg hn])
    unfold mkM mkE at this
    rw [if_neg hn, if_neg hn] at this
    exact ⟨H, le_refl', this⟩
  refine rvalid_c hw (by omega) ?_
  simp only [go_sem]
  split
  · rename_i hv
    exact no fun hh => hv hh.1
  rename_i hv
  have hv := Classical.not_not.1 hv
  have hbl := blk_len (val_ok hv)
  have hm300 := hv.1
  try simp only [go_sem]
  refine rblocks_c (val_ok hv) (by omega) fun n3 hn3 => ?_
  simp only [go_sem]
  refine all_c (by omega) (fun b hb => val_mem hv hb) ?_
  simp only [go_sem]
  split
  · rename_i hc
    refine no fun hh => hc fun b hb => is_not.2 fun hy => hh.2 ⟨b, hb, hy⟩
  rename_i hc
  have hc := Classical.not_not.1 hc
  have hok : MkOk m l u := ⟨hv, fun ⟨b, hb, hy⟩ => is_not.1 (hc b hb) hy⟩
  unfold mkM mkE at h
  rw [if_pos hok, if_pos hok] at h
  try simp only [go_sem]
  refine rblocks_c (val_ok hv) (by omega) fun n4 hn4 => ?_
  simp only [go_sem]
  refine rmarked_c (by omega) (by omega) (fun b hb => val_mem hv hb) fun n5 hn5 => ?_
  simp only [go_sem]
  exact ⟨H, le_refl', h n5 hn5⟩
theorem rFree_c {nl n2 : Bool} {m : List Bool} {l : List Ext} (hw : Wide l) (hl : l.length ≤ 400) {H : AHeap} {K : AV → AHeap → Prop} (h : ∀ n1, (n1 = true → mkM m l false = []) → K (.tup [.d (.sl n1 (bls (mkM m l false))), .d (.int .i64 (mkE m l false))]) H) : CallsA Try.prog 22 [.d (.sl nl (bls m)), .d (.sl n2 (es l))] H K := by
  apply C22
  unfold S22
  simp only [bls_len, frzLK_d, frzLK_nil, lenSl_d, optA_some]
  have := rMark (nl := nl) (n2 := n2) (m := m) (u := false) hw hl h
  simp only [frzLK_d, frzLK_nil] at this
  exact this
theorem rTake_c {nl n2 : Bool} {m : List Bool} {l : List Ext} (hw : Wide l) (hl : l.length ≤ 400) {H : AHeap} {K : AV → AHeap → Prop} (h : ∀ n1, (n1 = true → mkM m l true = []) → K (.tup [.d (.sl n1 (bls (mkM m l true))), .d (.int .i64 (mkE m l true))]) H) : CallsA Try.prog 24 [.d (.sl nl (bls m)), .d (.sl n2 (es l))] H K := by
  apply C24
  unfold S24
  simp only [bls_len, frzLK_d, frzLK_nil, lenSl_d, optA_some]
  have := rMark (nl := nl) (n2 := n2) (m := m) (u := true) hw hl h
  simp only [frzLK_d, frzLK_nil] at this
  exact this
theorem marks_law {nl n2 : Bool} {m : List Bool} {l : List Ext} (hnl : nl = true → m = []) (hw : Wide l) : CallsA Try.prog 5 [.d (.sl nl (bls m)), .d (.sl n2 (es l))] noHeap fun v _ => v = .d (.bool true) := by
  apply C5
  unfold S5
  simp only [es_len, go_sem]
  split
  · exact first_end
  rename_i hl
  have e1 := mkM_len (m := m) (l := l) (u := false)
  have e2 := mkM_len (m := m) (l := l) (u := true)
  try simp only [go_sem]
  refine Free_c hw (by omega) hnl fun a1 _ => ?_
  simp only [go_sem]
  refine rFree_c hw (by omega) fun a2 _ => ?_
  simp only [go_sem]
  refine Take_c hw (by omega) hnl fun a3 _ => ?_
  simp only [go_sem]
  refine rTake_c hw (by omega) fun a4 _ => ?_
  simp only [go_sem]
  refine sameMaps_c (by omega) ?_
  simp only [decide_true, if_true, go_sem]
  refine sameMaps_c (by omega) ?_
  simp only [decide_true, if_true, go_sem]
  exact first_end
theorem marks_row (xs : List Dat) (h : DatOk Try.prog 9 22 xs) (ys : List Dat) (h2 : DatOk Try.prog 9 23 ys) : CallsA Try.prog 5 [argAV (aggT Try.prog 22) xs, argAV (aggT Try.prog 23) ys] noHeap fun v _ => v = .d (.bool true) := by
  obtain ⟨nl, m, hm, hnl, _⟩ := bools_open h
  obtain ⟨n2, l, hl, _, hw, _⟩ := exts_open h2
  rw [hm, hl]
  exact marks_law hnl hw
end Go.Proofs.Ytlaojbclmcageaa

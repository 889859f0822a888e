/- Lists of extents: which are right, and their blocks. -/
import Derived.Test.YtlaojbclmcageaaT15
import Derived.Test.YtlaojbclmcageaaA26
set_option autoImplicit false
set_option maxRecDepth 100000
set_option linter.unusedVariables false
set_option linter.unusedSimpArgs false
namespace Go.Proofs.Ytlaojbclmcageaa
open Go Go.AM Go.Proofs
theorem k_bool {K : AV → AHeap → Prop} {H : AHeap} {b c : Bool} (h : K (.d (.bool b)) H) (e : c = b) : K (.d (.bool c)) H := e ▸ h
theorem some_ne {H : AHeap} {i k : Nat} (hi : (H i).isSome) (hk : H k = none) : i ≠ k := by
  intro he; rw [he, hk] at hi; cases hi
theorem set_id {H : AHeap} {k : Nat} {o : AObj} (h : H k = some o) : H.set k o = H := by
  funext j
  by_cases hj : j = k
  · rw [hj, set_self, h]
  · exact set_ne hj
abbrev Ext := Int × Int
def ex (x : Ext) : List Dat := [.int .i64 x.1, .int .i64 x.2]
def es (l : List Ext) : List (List Dat) := l.map ex
def ints (l : List Int) : List (List Dat) := l.map fun n => [.int .i64 n]
def bls (l : List Bool) : List (List Dat) := l.map fun b => [.bool b]
theorem es_len {l : List Ext} : (es l).length = l.length := by simp [es]
theorem ints_len {l : List Int} : (ints l).length = l.length := by simp [ints]
theorem bls_len {l : List Bool} : (bls l).length = l.length := by simp [bls]
theorem es_get {l : List Ext} {j : Nat} (h : j < l.length) : (es l)[j]? = some (ex l[j]) := by simp [es, h]
theorem ints_get {l : List Int} {j : Nat} (h : j < l.length) : (ints l)[j]? = some [.int .i64 l[j]] := by simp [ints, h]
theorem bls_get {l : List Bool} {j : Nat} (h : j < l.length) : (bls l)[j]? = some [.bool l[j]] := by simp [bls, h]
theorem ints_app {a b : List Int} : ints (a ++ b) = ints a ++ ints b := by simp [ints]
theorem es_app {a b : List Ext} : es (a ++ b) = es a ++ es b := by simp [es]
theorem bls_app {a b : List Bool} : bls (a ++ b) = bls a ++ bls b := by simp [bls]
theorem ints_1 {l : List Int} : ∀ c ∈ ints l, c.length = 1 := by simp [ints]
theorem bls_1 {l : List Bool} : ∀ c ∈ bls l, c.length = 1 := fun c hc => by
  obtain ⟨x, _, rfl⟩ := List.mem_map.1 hc
  rfl
theorem es_2 {l : List Ext} : ∀ c ∈ es l, c.length = 2 := fun c hc => by
  obtain ⟨x, _, rfl⟩ := List.mem_map.1 hc
  rfl
/-- The first blocks of an extent. -/
def part (x : Ext) (k : Nat) : List Int := (List.range k).map fun (i : Nat) => x.1 + (i : Int)
def blk1 (x : Ext) : List Int := part x x.2.toNat
def blk (l : List Ext) : List Int := l.flatMap blk1
theorem part_succ {x : Ext} {k : Nat} : part x (k + 1) = part x k ++ [x.1 + (k : Int)] := by simp [part, List.range_succ]
theorem part_len {x : Ext} {k : Nat} : (part x k).length = k := by simp [part]
theorem blk_take {l : List Ext} {j : Nat} (h : j < l.length) : blk (l.take (j + 1)) = blk (l.take j) ++ blk1 l[j] := by
  rw [List.take_add_one, List.getElem?_eq_getElem h]
  simp only [blk, List.flatMap_append, Option.toList_some, List.flatMap_cons, List.flatMap_nil, List.append_nil]
theorem blk_all {l : List Ext} {j : Nat} (h : j < l.length) : blk l = blk (l.take j) ++ blk1 l[j] ++ blk (l.drop (j + 1)) := by
  conv => lhs; rw [← List.take_append_drop j l, List.drop_eq_getElem_cons h]
  simp only [blk, List.flatMap_append, List.flatMap_cons, List.append_assoc]
theorem part_split {x : Ext} {k n : Nat} (h : k < n) : ∃ r, part x n = part x k ++ [x.1 + (k : Int)] ++ r := by
  induction n with
  | zero => omega
  | succ n ih =>
    by_cases hk : k = n
    · subst hk; exact ⟨[], by rw [part_succ, List.append_nil]⟩
    · obtain ⟨r, hr⟩ := ih (by omega)
      exact ⟨r ++ [x.1 + (n : Int)], by rw [part_succ, hr]; simp⟩
/-- An extent that is right for so many blocks. -/
def Ok1 (n : Int) (x : Ext) : Prop := 0 ≤ x.1 ∧ 1 ≤ x.2 ∧ x.1 + x.2 ≤ n
instance (n : Int) (x : Ext) : Decidable (Ok1 n x) := by unfold Ok1; exact inferInstance
def Val (n : Int) (l : List Ext) : Prop := (0 ≤ n ∧ n ≤ 300) ∧ (∀ x ∈ l, Ok1 n x) ∧ (blk l).Nodup
instance (n : Int) (l : List Ext) : Decidable (Val n l) := by unfold Val; exact inferInstance
theorem dup_no {l : List Ext} {j k : Nat} (h : j < l.length) (hk : k < l[j].2.toNat) (hm : l[j].1 + (k : Int) ∈ blk (l.take j) ++ part l[j] k) : ¬ (blk l).Nodup := by
  intro hn
  rw [blk_all h] at hn
  obtain ⟨r, hr⟩ := part_split (x := l[j]) hk
  rw [blk1, hr] at hn
  have e : blk (l.take j) ++ (part l[j] k ++ [l[j].1 + (k : Int)] ++ r) ++ blk (l.drop (j + 1)) = (blk (l.take j) ++ part l[j] k) ++ ([l[j].1 + (k : Int)] ++ (r ++ blk (l.drop (j + 1)))) := by simp
  rw [e, List.nodup_append] at hn
  exact hn.2.2 _ hm _ (by simp) rfl
/-- Which of n blocks stand in a list. -/
def marks (n : Nat) (c : List Int) : List Bool := (List.range n).map fun (b : Nat) => decide ((b : Int) ∈ c)
theorem marks_len {n : Nat} {c : List Int} : (marks n c).length = n := by simp [marks]
theorem marks_get {n : Nat} {c : List Int} {b : Nat} (h : b < n) : (marks n c)[b]? = some (decide ((b : Int) ∈ c)) := by simp [marks, h]
theorem marks_set {n : Nat} {c : List Int} {b : Nat} (h : b < n) : (marks n c).set b true = marks n (c ++ [(b : Int)]) := by
  apply List.ext_getElem?
  intro i
  by_cases hi : i < n
  · rw [marks_get hi]
    by_cases hb : b = i
    · subst hb
      rw [List.getElem?_set_self (by rw [marks_len]; exact hi)]
      simp
    · rw [List.getElem?_set_ne hb, marks_get hi]
      have : ¬ ((i : Int) = (b : Int)) := by omega
      simp [this]
  · rw [List.getElem?_eq_none (by rw [List.length_set, marks_len]; omega), List.getElem?_eq_none (by rw [marks_len]; omega)]
theorem marks_nil {n : Nat} : marks n [] = List.replicate n false := by
  simp [marks, List.map_const']
theorem bls_set {l : List Bool} {b : Nat} {y : Bool} : (bls l).set b [.bool y] = bls (l.set b y) := by simp [bls, List.map_set]
/-- A new slice of a certain length. -/
theorem make_c {n : Int} (h0 : 0 ≤ n) (h1 : n ≤ 300) {H : AHeap} {K : AV → AHeap → Prop} (h : ∀ i ver H', OwnM H 1 H' i ver (bls (List.replicate n.toNat false)) → K (.rs i ver 1 0 (bls (List.replicate n.toNat false)).length) H') : newK H (fun n5 => mkSlA ti4 (.d (.int .i64 n)) (.d (.int .i64 n)) n5) K := by
  intro m hm
  have e : mkSlA ti4 (.d (.int .i64 n)) (.d (.int .i64 n)) m = some (.rs m 0 1 0 n.toNat, [(m, .mem 0 0 1 (repl n.toNat [.d (.bool false)]))]) := by
    have e1 : ti4.bytes = 1 := by kernel_rfl
    have e2 : ti4.size = 1 := rfl
    have e3 : ti4.zero = [.d (.bool false)] := rfl
    simp only [mkSlA, e1, e2, e3]
    rw [if_pos (by unfold mostBytes; omega)]
  simp only [e, stepK, optA, AHeap.sets]
  have hr : repl n.toNat [AV.d (.bool false)] = avs (bls (List.replicate n.toNat false)) := by
    simp [repl, avs, bls]
  rw [hr]
  have hl : n.toNat = (bls (List.replicate n.toNat false)).length := by simp [bls]
  conv => arg 1; rw [hl]
  exact h m 0 _ ⟨Own.rs (le_set le_refl' hm) bls_1 set_self (by rw [← avs_length]; exact List.take_length) (by rw [avs_length]; exact Nat.le_refl _) hm, hm⟩
/-- What is known of numbers that come in. -/
def Wide (l : List Ext) : Prop := ∀ x ∈ l, (-9223372036854775808 ≤ x.1 ∧ x.1 ≤ 9223372036854775807) ∧ (-9223372036854775808 ≤ x.2 ∧ x.2 ≤ 9223372036854775807)
theorem marks0 {n : Nat} : List.replicate n false = marks n [] := marks_nil.symm
theorem valid_c {n : Int} {nl : Bool} {l : List Ext} (hw : Wide l) (hl : l.length < 2 ^ 40) {H : AHeap} {K : AV → AHeap → Prop} (h : K (.d (.bool (decide (Val n l)))) H) : CallsA Try.prog 34 [.d (.int .i64 n), .d (.sl nl (es l))] H K := by
  apply C34
  unfold S34
  simp only [go_sem]
  split
  · exact ⟨H, le_refl', k_bool h (by unfold Val; exact (decide_eq_false (by omega)).symm)⟩
  rename_i h0
  try simp only [go_sem]
  split
  · exact ⟨H, le_refl', k_bool h (by unfold Val; exact (decide_eq_false (by omega)).symm)⟩
  rename_i h1
  refine make_c (by omega) (by omega) fun i ver H1 hO => ?_
  rw [marks0] at hO ⊢
  have hbl : (bls (marks n.toNat [])).length = n.toNat := by rw [bls_len, marks_len]
  rw [hbl]
  simp only [es_len, go_sem]
  have fin : ∀ b G, AHeap.le H G → b = decide (Val n l) → finA (.d (.bool b)) G K := fun b G hG hb => ⟨H, hG, k_bool h hb⟩
  refine loop_ind (fun r vs G => ∃ (j : Nat) (u1 u2 : AV), j ≤ l.length ∧ r = l.length - j ∧ (∀ x ∈ l.take j, Ok1 n x) ∧ (blk (l.take j)).Nodup ∧ OwnM H 1 G i ver (bls (marks n.toNat (blk (l.take j)))) ∧ vs = [.d (.int .i64 n), .rs i ver 1 0 n.toNat, u1, u2, .d (.sl nl (es l)), .d (.int .i64 l.length), .d (.int .i64 j)]) (n := l.length)
    ⟨0, .junk, .junk, by omega, by omega, by simp, by simp [blk], by simpa [blk] using hO, rfl⟩ ?_
  rintro X r vs G ⟨j, u1, u2, hj, rfl, hok, hnd, hG, rfl⟩ hX
  simp only [List.getD_cons_succ, List.getD_cons_zero, go_sem]
  split
  · rename_i hlt
    have hj' : j < l.length := by omega
    have hx := hw l[j] (List.getElem_mem hj')
    generalize hxj : l[j] = x at hx
    have hix : indexAddrA ti23 2 (.d (.sl nl (es l))) (.d (.int .i64 j)) = some (.vptr (ex x) 0) := sl_get (e := 66) rfl (by omega) (by rw [Int.toNat_natCast, es_get hj', hxj]) rfl
    simp only [hix, ex, List.map_cons, List.map_nil, go_sem]
    refine alloc_open fun k2 G2 hG2 hle2 hk2 => ?_
    simp only [getM_of hG2, ti66_f0, ti66_f1, stoA_agg, stoA_get, stoM, setCells, and_self, true_and, Nat.le_refl, Nat.reduceLeDiff, List.cons_append, List.set_cons_zero, List.getElem?_cons_zero, go_sem]
    generalize hX2 : G2.set k2 _ = X2
    have hXk : X2 k2 = some (.mem 0 0 2 [[.d (.int .i64 x.1), .d (.int .i64 x.2)]]) := by rw [← hX2]; exact set_self
    have hXle : AHeap.le G X2 := by rw [← hX2]; exact set_le hle2 hk2
    clear hX2 hle2
    have hmem : x ∈ l := by rw [← hxj]; exact List.getElem_mem hj'
    have bad : ¬ Ok1 n x → ∀ G', AHeap.le H G' → finA (.d (.bool false)) G' K := fun hn G' hG' => fin false G' hG' (decide_eq_false fun hv => hn (hv.2.1 x hmem)).symm
    have hHX : AHeap.le H X2 := le_trans' hG.own.1 hXle
    split
    · exact bad (by unfold Ok1; omega) _ hHX
    split
    · exact bad (by unfold Ok1; omega) _ hHX
    split
    · exact bad (by unfold Ok1; omega) _ hHX
    rw [wrap_i64 (n := n - x.2) (by omega) (by omega)]
    split
    · exact bad (by unfold Ok1; omega) _ hHX
    have hox : Ok1 n x := by unfold Ok1; omega
    have hik : i ≠ k2 := some_ne hG.isSome hk2
    refine loop_ind (fun r vs G' => ∃ k : Nat, k ≤ x.2.toNat ∧ r = x.2.toNat - k ∧ (blk (l.take j) ++ part x k).Nodup ∧ OwnM H 1 G' i ver (bls (marks n.toNat (blk (l.take j) ++ part x k))) ∧ G' k2 = some (.mem 0 0 2 [[.d (.int .i64 x.1), .d (.int .i64 x.2)]]) ∧ vs = [.d (.int .i64 n), .rs i ver 1 0 n.toNat, .ptr k2 0 0 0, .d (.int .i64 (x.1 + (k : Int))), .d (.sl nl (es l)), .d (.int .i64 l.length), .d (.int .i64 j)]) (n := x.2.toNat)
      ⟨0, by omega, by omega, by simpa [part] using hnd, by simpa [part] using hG.more hXle, hXk, by simp⟩ ?_
    rintro X3 r3 vs3 G3 ⟨k, hk, rfl, hnd3, hG3, hk3, rfl⟩ hX3
    unfold Ok1 at hox
    simp only [List.getD_cons_succ, List.getD_cons_zero, ti66_f0, ti66_f1, getM_of hk3, go_sem]
    rw [wrap_i64 (n := x.1 + x.2) (by omega) (by omega)]
    split
    · rename_i hlt3
      have hb : (x.1 + (k : Int)).toNat < n.toNat := by omega
      have hbb : (((x.1 + (k : Int)).toNat : Nat) : Int) = x.1 + (k : Int) := by omega
      have hget : (bls (marks n.toNat (blk (l.take j) ++ part x k)))[(x.1 + (k : Int)).toNat]? = some [.bool (decide (x.1 + (k : Int) ∈ blk (l.take j) ++ part x k))] := by
        have := marks_get (c := blk (l.take j) ++ part x k) hb
        rw [hbb] at this
        simp only [bls, List.getElem?_map, this, Option.map_some]
      simp only [idx_rs (ti := ti22) (e := 4) (sz := 1) (i := i) (ver := ver) (n := n.toNat) (j := x.1 + (k : Int)) rfl (by omega) (by omega), hG3.get hget, go_sem]
      split
      · rename_i hin
        subst hxj
        exact fin false G3 hG3.own.1 (decide_eq_false fun hv => dup_no hj' (by omega) hin hv.2.2).symm
      · rename_i hin
        obtain ⟨o, hst, hG4⟩ := hG3.put (y := .bool true) hget
        simp only [hst, go_sem]
        rw [bls_set, marks_set hb, hbb] at hG4
        have hset : blk (l.take j) ++ part x k ++ [x.1 + (k : Int)] = blk (l.take j) ++ part x (k + 1) := by rw [part_succ, List.append_assoc]
        rw [hset] at hG4
        rw [wrap_i64 (by omega) (by omega)]
        refine hX3 (x.2.toNat - (k + 1)) _ _ (by omega) ⟨k + 1, by omega, rfl, ?_, hG4, by rw [set_ne (Ne.symm hik)]; exact hk3, by simp [Int.add_assoc]⟩
        rw [← hset, List.nodup_append]
        exact ⟨hnd3, by simp, fun a ha b hb' he => hin (by rw [List.mem_singleton] at hb'; rw [← hb', ← he]; exact ha)⟩
    · rename_i hge
      have hkk : k = x.2.toNat := by omega
      subst hkk
      rw [wrap_i64 (by omega) (by omega)]
      have ht : blk (l.take (j + 1)) = blk (l.take j) ++ part x x.2.toNat := by rw [blk_take hj', hxj]; rfl
      refine hX (l.length - (j + 1)) _ _ (by omega) ⟨j + 1, _, _, by omega, rfl, fun y hy => ?_, by rw [ht]; exact hnd3, by rw [ht]; exact hG3, rfl⟩
      rw [List.take_add_one, List.getElem?_eq_getElem hj', hxj] at hy
      simp only [Option.toList_some, List.mem_append, List.mem_singleton] at hy
      rcases hy with hy | rfl
      · exact hok y hy
      · unfold Ok1; omega
  · rename_i hge
    have hjj : l.take j = l := List.take_of_length_le (by omega)
    rw [hjj] at hok hnd
    exact fin true G hG.own.1 (decide_eq_true ⟨⟨by omega, by omega⟩, hok, hnd⟩).symm
end Go.Proofs.Ytlaojbclmcageaa

/- The laws of lists and of short lists. -/
import Derived.Test.YtlaojbclmcageaaM15r
set_option autoImplicit false
set_option maxRecDepth 100000
set_option linter.unusedVariables false
set_option linter.unusedSimpArgs false
namespace Go.Proofs.Ytlaojbclmcageaa
open Go Go.AM Go.Proofs
theorem blkP_len {l : List Ext} (hl : l.length ≤ 400) : (blkP l).length ≤ 120000 := by
  unfold blkP
  split
  · rename_i hv
    have := blk_len hv.2.1
    omega
  · simp
theorem lists_law {nl : Bool} {l : List Ext} {n i : Int} (hw : Wide l) : CallsA Try.prog 8 [.d (.int .i64 n), .d (.sl nl (es l)), .d (.int .i64 i)] noHeap fun v _ => v = .d (.bool true) := by
  apply C8
  unfold S8
  simp only [es_len, go_sem]
  split
  · exact first_end
  rename_i hl
  have hb := blkP_len (l := l) (by omega)
  try simp only [go_sem]
  refine Blocks_c hw (by omega) fun n1 _ => ?_
  simp only [go_sem]
  refine rBlocks_c hw (by omega) fun n2 _ => ?_
  simp only [go_sem]
  refine Count_c hw (by omega) ?_
  simp only [go_sem]
  refine rCount_c hw (by omega) ?_
  simp only [go_sem]
  refine At_c hw (by omega) ?_
  try simp only [go_sem]
  refine rAt_c hw (by omega) ?_
  try simp only [go_sem]
  refine valid_c hw (by omega) ?_
  try simp only [go_sem]
  refine rvalid_c hw (by omega) ?_
  simp only [show ∀ b : Bool, boolA .eql (.d (.bool b)) (.d (.bool b)) = some (.d (.bool true)) from fun b => by cases b <;> rfl, go_sem]
  refine sameInts_c (by omega) ?_
  simp only [decide_true, if_true, go_sem]
  exact first_end
theorem lists_row (xs : List Dat) (h : DatOk Try.prog 9 3 xs) (ys : List Dat) (h2 : DatOk Try.prog 9 23 ys) (zs : List Dat) (h3 : DatOk Try.prog 9 3 zs) : CallsA Try.prog 8 [argAV (aggT Try.prog 3) xs, argAV (aggT Try.prog 23) ys, argAV (aggT Try.prog 3) zs] noHeap fun v _ => v = .d (.bool true) := by
  obtain ⟨n, hn, _⟩ := int_open h
  obtain ⟨nl, l, hl, _, hw, _⟩ := exts_open h2
  obtain ⟨i, hi, _⟩ := int_open h3
  rw [hn, hl, hi]
  exact lists_law hw
/-! ### a map of numbers that were seen -/
theorem keyInt {k : Int} {f : AV → Option AV} : lookKA Try.prog 3 (.d (.int .i64 k)) f = f (.d (.int .i64 k)) := by
  simp only [lookKA, Try.underlying3, keyOk, decide_true, if_true]
theorem keyEq_int {a b : Int} : keyEq (.int .i64 a) (.int .i64 b) = some (a == b) := by simp [keyEq]
def Keys (es : List MEnt) (l : List Int) : Prop := es.map (fun e => (e.key, e.val)) = l.map fun k => (Dat.int .i64 k, AV.d (.bool true))
theorem findE_no {k : Int} : ∀ {es : List MEnt} {l : List Int} (i : Nat), Keys es l → k ∉ l → findE (.int .i64 k) es i = some none
  | [], [], i, _, _ => rfl
  | [], _ :: _, i, h, _ => by cases h
  | _ :: _, [], i, h, _ => by cases h
  | e :: es, a :: l, i, h, hn => by
    simp only [Keys, List.map_cons, List.cons.injEq, Prod.mk.injEq] at h
    have h1 : k ≠ a := fun he => hn (by simp [he])
    simp only [findE, h.1.1, keyEq_int, beq_eq_false_iff_ne.2 h1]
    exact findE_no (i + 1) h.2 fun hm => hn (List.mem_cons_of_mem _ hm)
theorem findE_yes {k : Int} : ∀ {es : List MEnt} {l : List Int} (i : Nat), Keys es l → k ∈ l → ∃ j, findE (.int .i64 k) es i = some (some (j, .d (.bool true)))
  | [], [], i, _, h => by simp at h
  | [], _ :: _, i, h, _ => by cases h
  | _ :: _, [], i, h, _ => by cases h
  | e :: es, a :: l, i, h, hm => by
    simp only [Keys, List.map_cons, List.cons.injEq, Prod.mk.injEq] at h
    by_cases h1 : k = a
    · exact ⟨i, by simp only [findE, h.1.1, h.1.2, keyEq_int, h1, beq_self_eq_true]⟩
    · have hm' : k ∈ l := by rcases List.mem_cons.1 hm with h2 | h2; exact absurd h2 h1; exact h2
      obtain ⟨j, h2⟩ := findE_yes (i + 1) h.2 hm'
      exact ⟨j, by simp only [findE, h.1.1, keyEq_int, beq_eq_false_iff_ne.2 h1, h2]⟩
def OfOk (l : List Int) : Prop := (∀ b ∈ l, 0 ≤ b ∧ b < 300) ∧ l.Nodup
instance (l : List Int) : Decidable (OfOk l) := by unfold OfOk; exact inferInstance
def ofP (l : List Int) : List Ext := if OfOk l then short [] l else []
def ofE (l : List Int) : Int := if OfOk l then 0 else 2
theorem nodup_take {l : List Int} {j k : Nat} (hj : j < l.length) (hk : k < j) (h : l[k]'(by omega) = l[j]) : ¬ l.Nodup := by
  intro hn
  have hn := List.pairwise_iff_getElem.1 hn k j (by omega) hj hk
  exact hn h
theorem Of_c {nl : Bool} {l : List Int} (hl : l.length < 2 ^ 20) {H : AHeap} {K : AV → AHeap → Prop} (h : ∀ n1, (n1 = true → ofP l = []) → K (.tup [.d (.sl n1 (es (ofP l))), .d (.int .i64 (ofE l))]) H) : CallsA Try.prog 19 [.d (.sl nl (ints l))] H K := by
  have no : ¬ OfOk l → ∀ G, AHeap.le H G → finA (.tup [.d (.sl true []), .d (.int .i64 2)]) G K := fun hn G hG => by
    have := h true (fun _ => by unfold ofP; rw [if_neg hn])
    unfold ofP ofE at this
    rw [if_neg hn, if_neg hn] at this
    exact ⟨H, hG, this⟩
  apply C19
  unfold S19
  intro m hm
  simp only [ints_len, go_sem]
  refine loop_ind (fun r vs G => ∃ j : Nat, j ≤ l.length ∧ r = l.length - j ∧ AHeap.le H G ∧ (∃ es cl, G m = some (.map es cl) ∧ Keys es (l.take j)) ∧ (∀ b ∈ l.take j, 0 ≤ b ∧ b < 300) ∧ (l.take j).Nodup ∧ vs = [.d (.sl nl (ints l)), .map m, .d (.sl nl (ints l)), .d (.int .i64 l.length), .d (.int .i64 j)]) (n := l.length)
    ⟨0, by omega, by omega, le_set le_refl' hm, ⟨[], 0, set_self, rfl⟩, by simp, by simp, rfl⟩ ?_
  rintro X r vs G ⟨j, hj, rfl, hG, ⟨es', cl, hes, hkeys⟩, hb, hnd, rfl⟩ hX
  simp only [List.getD_cons_succ, List.getD_cons_zero, go_sem]
  split
  · rename_i hlt
    have hj' : j < l.length := by omega
    have hmem := List.getElem_mem hj'
    simp only [sl_get (ti := ti33) (e := 3) (esz := 1) rfl (by omega : (0 : Int) ≤ j) (by simpa using ints_get hj') rfl, List.map_cons, List.map_nil, go_sem]
    split
    · exact no (fun hv => by have := hv.1 _ hmem; omega) G hG
    try simp only [go_sem]
    split
    · exact no (fun hv => by have := hv.1 _ hmem; omega) G hG
    simp only [keyInt, lookA, hes, go_sem]
    by_cases hin : l[j] ∈ l.take j
    · obtain ⟨q, hq⟩ := findE_yes 0 hkeys hin
      simp only [hq, go_sem]
      refine no (fun hv => ?_) G hG
      obtain ⟨k, hk, he⟩ := List.mem_iff_getElem.1 hin
      rw [List.length_take] at hk
      rw [List.getElem_take] at he
      exact nodup_take hj' (by omega) he hv.2
    · have hmu : muA Try.prog 3 (.map m) (.d (.int .i64 l[j])) (.d (.bool true)) G = some (.junk, [(m, .map (es' ++ [⟨.int .i64 l[j], .d (.bool true), cl⟩]) (cl + 1))]) := by
        simp only [muA, Try.underlying3, keyOk, decide_true, AV.storable, and_self, if_true, mapSetA, hes, findE_no 0 hkeys hin]
      simp only [findE_no 0 hkeys hin, hmu, Bool.false_eq_true, if_false, go_sem]
      rw [wrap_i64 (by omega) (by omega)]
      have ht : l.take (j + 1) = l.take j ++ [l[j]] := by rw [List.take_add_one, List.getElem?_eq_getElem hj']; rfl
      refine hX (l.length - (j + 1)) _ _ (by omega) ⟨j + 1, by omega, rfl, le_set_own hG hm, ⟨_, _, set_self, ?_⟩, ?_, ?_, rfl⟩
      · unfold Keys at hkeys ⊢
        rw [ht, List.map_append, List.map_append, hkeys]
        rfl
      · intro b hb'
        rw [ht] at hb'
        rcases List.mem_append.1 hb' with hb' | hb'
        · exact hb b hb'
        · rw [List.mem_singleton] at hb'; subst hb'; omega
      · rw [ht, List.nodup_append]
        exact ⟨hnd, by simp, fun a ha b hb' he => hin (by rw [List.mem_singleton] at hb'; rw [← hb', ← he]; exact ha)⟩
  · rename_i hge
    have htl : l.take j = l := List.take_of_length_le (by omega)
    rw [htl] at hb hnd
    have hok : OfOk l := ⟨hb, hnd⟩
    unfold ofP ofE at h
    rw [if_pos hok, if_pos hok] at h
    try simp only [go_sem]
    refine of_c (fun b hb' => by have := hb b hb'; omega) hl fun n2 hn2 => ?_
    simp only [go_sem]
    exact ⟨H, hG, h n2 hn2⟩
theorem rOf_c {nl : Bool} {l : List Int} (hl : l.length < 2 ^ 20) {H : AHeap} {K : AV → AHeap → Prop} (h : ∀ n1, (n1 = true → ofP l = []) → K (.tup [.d (.sl n1 (es (ofP l))), .d (.int .i64 (ofE l))]) H) : CallsA Try.prog 20 [.d (.sl nl (ints l))] H K := by
  have no : ¬ OfOk l → finA (.tup [.d (.sl true []), .d (.int .i64 2)]) H K := fun hn => by
    have := h true (fun _ => by unfold ofP; rw [if_neg hn])
    unfold ofP ofE at this
    rw [if_neg hn, if_neg hn] at this
    exact ⟨H, le_refl', this⟩
  apply C20
  unfold S20
  refine loop_ind (fun r vs G => G = H ∧ ∃ (j : Nat) (u1 : AV), j ≤ l.length ∧ r = l.length - j ∧ (∀ b ∈ l.take j, 0 ≤ b ∧ b < 300) ∧ (l.take j).Nodup ∧ vs = [.d (.sl nl (ints l)), .d (.int .i64 j), u1]) (n := l.length)
    ⟨rfl, 0, .junk, by omega, by omega, by simp, by simp, rfl⟩ ?_
  rintro X r vs G ⟨rfl, j, u1, hj, rfl, hb, hnd, rfl⟩ hX
  simp only [List.getD_cons_succ, List.getD_cons_zero, ints_len, go_sem]
  split
  · rename_i hlt
    have hj' : j < l.length := by omega
    have hmem := List.getElem_mem hj'
    have hix := sl_get (nl := nl) (ti := ti33) (e := 3) (esz := 1) rfl (by omega : (0 : Int) ≤ j) (by simpa using ints_get hj') rfl
    simp only [hix, List.map_cons, List.map_nil, go_sem]
    split
    · exact no (fun hv => by have := hv.1 _ hmem; omega)
    try simp only [hix, List.map_cons, List.map_nil, go_sem]
    split
    · exact no (fun hv => by have := hv.1 _ hmem; omega)
    refine loop_ind (fun r vs G' => G' = G ∧ ∃ k : Nat, k ≤ j ∧ r = j - k ∧ l[j] ∉ l.take k ∧ vs = [.d (.sl nl (ints l)), .d (.int .i64 j), .d (.int .i64 k)]) (n := j)
      ⟨rfl, 0, by omega, by omega, by simp, rfl⟩ ?_
    rintro X3 r3 vs3 G3 ⟨rfl, k, hk, rfl, hni, rfl⟩ hX3
    simp only [List.getD_cons_succ, List.getD_cons_zero, go_sem]
    split
    · rename_i hlt3
      have hk' : k < l.length := by omega
      simp only [hix, sl_get (nl := nl) (ti := ti33) (e := 3) (esz := 1) rfl (by omega : (0 : Int) ≤ k) (by simpa using ints_get hk') rfl, List.map_cons, List.map_nil, go_sem]
      split
      · rename_i heq
        exact no fun hv => nodup_take hj' (by omega) heq hv.2
      · rename_i hne
        rw [wrap_i64 (by omega) (by omega)]
        refine hX3 (j - (k + 1)) _ _ (by omega) ⟨rfl, k + 1, by omega, rfl, ?_, rfl⟩
        rw [List.take_add_one, List.getElem?_eq_getElem hk']
        simp only [Option.toList_some, List.mem_append, List.mem_singleton]
        rintro (h1 | h1)
        · exact hni h1
        · exact hne h1.symm
    · rename_i hge
      have hkk : k = j := by omega
      subst hkk
      rw [wrap_i64 (by omega) (by omega)]
      have ht : l.take (k + 1) = l.take k ++ [l[k]] := by rw [List.take_add_one, List.getElem?_eq_getElem hj']; rfl
      refine hX (l.length - (k + 1)) _ _ (by omega) ⟨rfl, k + 1, _, by omega, rfl, ?_, ?_, rfl⟩
      · intro b hb'
        rw [ht] at hb'
        rcases List.mem_append.1 hb' with hb' | hb'
        · exact hb b hb'
        · rw [List.mem_singleton] at hb'; subst hb'; omega
      · rw [ht, List.nodup_append]
        exact ⟨hnd, by simp, fun a ha b hb' he => hni (by rw [List.mem_singleton] at hb'; rw [← hb', ← he]; exact ha)⟩
  · rename_i hge
    have htl : l.take j = l := List.take_of_length_le (by omega)
    rw [htl] at hb hnd
    have hok : OfOk l := ⟨hb, hnd⟩
    unfold ofP ofE at h
    rw [if_pos hok, if_pos hok] at h
    try simp only [go_sem]
    refine short_c (l := []) (by simp) (by simp [Bd]) (fun b hb' => by have := hb b hb'; omega) hl fun n2 hn2 => ?_
    simp only [go_sem]
    exact ⟨G, le_refl', h n2 hn2⟩
theorem of_law {nl : Bool} {l : List Int} : CallsA Try.prog 4 [.d (.sl nl (ints l))] noHeap fun v _ => v = .d (.bool true) := by
  apply C4
  unfold S4
  simp only [ints_len, go_sem]
  split
  · exact first_end
  rename_i hl
  have hb : (ofP l).length ≤ 400 := by
    unfold ofP
    split
    · have := short_len (l := []) (bs := l)
      simp only [List.length_nil] at this
      omega
    · simp
  try simp only [go_sem]
  refine Of_c (by omega) fun n1 _ => ?_
  simp only [go_sem]
  refine rOf_c (by omega) fun n2 _ => ?_
  simp only [go_sem]
  refine same_c (by omega) ?_
  simp only [decide_true, if_true, go_sem]
  exact first_end
theorem of_row (xs : List Dat) (h : DatOk Try.prog 9 33 xs) : CallsA Try.prog 4 [argAV (aggT Try.prog 33) xs] noHeap fun v _ => v = .d (.bool true) := by
  obtain ⟨nl, l, hl, _⟩ := ints_open h
  rw [hl]
  exact of_law
end Go.Proofs.Ytlaojbclmcageaa

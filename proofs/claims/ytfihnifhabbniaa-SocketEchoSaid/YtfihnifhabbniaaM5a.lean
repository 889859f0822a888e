/- What nodes and their sockets do. -/
import Derived.Test.YtfihnifhabbniaaT5
set_option autoImplicit false
set_option linter.unusedVariables false
set_option linter.unusedSimpArgs false
namespace Go.Proofs.Ytfihnifhabbniaa
open Go Go.AM Go.Proofs
theorem k_bool {K : AV → AHeap → Prop} {H : AHeap} {b c : Bool} (h : K (.d (.bool b)) H) (e : c = b) : K (.d (.bool c)) H := e ▸ h
theorem nilP_eql {i v e o : Nat} : nilA 3 .eql (.ptr i v e o) .nilptr = some (.d (.bool false)) := rfl
theorem nilP_neq {i v e o : Nat} : nilA 3 .neq (.ptr i v e o) .nilptr = some (.d (.bool true)) := rfl
theorem nilM_eql {m : Nat} : nilA 1 .eql (.map m) .nilmap = some (.d (.bool false)) := rfl
theorem nilCk_ptr {i v e o : Nat} : nilCkA (.ptr i v e o) = some (.ptr i v e o) := rfl
theorem keyInt {k : Int} {f : AV → Option AV} : lookKA Try.prog 3 (.d (.int .i64 k)) f = f (.d (.int .i64 k)) := by
  simp only [lookKA, Try.underlying3, keyOk, decide_true, if_true]
/-- Entries by whole numbers. -/
def Keys (es : List MEnt) (l : List Int) : Prop := es.map (·.key) = l.map (Dat.int .i64)
theorem keyEq_int {a b : Int} : keyEq (.int .i64 a) (.int .i64 b) = some (a == b) := by simp [keyEq]
theorem findE_no {k : Int} : ∀ {es : List MEnt} {l : List Int} (i : Nat), Keys es l → k ∉ l → findE (.int .i64 k) es i = some none
  | [], [], i, _, _ => rfl
  | [], _ :: _, i, h, _ => by cases h
  | _ :: _, [], i, h, _ => by cases h
  | e :: es, a :: l, i, h, hn => by
    simp only [Keys, List.map_cons, List.cons.injEq] at h
    have h1 : k ≠ a := fun he => hn (by simp [he])
    simp only [findE, h.1, keyEq_int, beq_eq_false_iff_ne.2 h1]
    exact findE_no (i + 1) h.2 fun hm => hn (List.mem_cons_of_mem _ hm)
theorem findE_yes {k : Int} : ∀ {es : List MEnt} {l : List Int} (i : Nat), Keys es l → k ∈ l → ∃ j e, findE (.int .i64 k) es i = some (some (i + j, e.val)) ∧ es[j]? = some e ∧ l[j]? = some k
  | [], [], i, _, h => by simp at h
  | [], _ :: _, i, h, _ => by cases h
  | _ :: _, [], i, h, _ => by cases h
  | e :: es, a :: l, i, h, hm => by
    simp only [Keys, List.map_cons, List.cons.injEq] at h
    by_cases h1 : k = a
    · refine ⟨0, e, ?_, rfl, by simp [h1]⟩
      simp only [findE, h.1, keyEq_int, h1, beq_self_eq_true]
      rfl
    · have hm' : k ∈ l := by rcases List.mem_cons.1 hm with h2 | h2; exact absurd h2 h1; exact h2
      obtain ⟨j, e', h2, h3, h4⟩ := findE_yes (i + 1) h.2 hm'
      refine ⟨j + 1, e', ?_, by simpa using h3, by simpa using h4⟩
      simp only [findE, h.1, keyEq_int, beq_eq_false_iff_ne.2 h1, h2]
      congr 3
      omega
theorem Keys.add {es : List MEnt} {l : List Int} (h : Keys es l) (k : Int) (v : AV) (c : Nat) : Keys (es ++ [⟨.int .i64 k, v, c⟩]) (l ++ [k]) := by
  unfold Keys at h ⊢
  rw [List.map_append, List.map_append, h]
  rfl
theorem map_erase {α β : Type} (f : α → β) : ∀ (l : List α) (j : Nat), (l.eraseIdx j).map f = (l.map f).eraseIdx j
  | [], _ => rfl
  | _ :: _, 0 => rfl
  | x :: l, j + 1 => by simp only [List.eraseIdx_cons_succ, List.map_cons, map_erase f l j]
theorem Keys.del {es : List MEnt} {l : List Int} (h : Keys es l) (j : Nat) : Keys (es.eraseIdx j) (l.eraseIdx j) := by
  unfold Keys at h ⊢
  rw [map_erase, map_erase, h]
/-- A node: where it lies, its address, which sockets are open. -/
structure Nd (H : AHeap) (k m : Nat) (a b : Int) (l : List Int) : Prop where
  node : H k = some (.mem 0 0 3 [[.d (.int .i64 a), .d (.int .i64 b), .map m]])
  map : ∃ es cl, H m = some (.map es cl) ∧ Keys es l
  nodup : l.Nodup
theorem Nd.ne {H : AHeap} {k m : Nat} {a b : Int} {l : List Int} (h : Nd H k m a b l) : k ≠ m := by
  obtain ⟨es, cl, h1, _⟩ := h.map
  intro he
  have := h.node
  rw [he, h1] at this
  cases this
theorem Nd.le {H H' : AHeap} {k m : Nat} {a b : Int} {l : List Int} (h : Nd H k m a b l) (hle : AHeap.le H H') : Nd H' k m a b l := by
  obtain ⟨es, cl, h1, h2⟩ := h.map
  exact ⟨hle _ _ h.node, ⟨es, cl, hle _ _ h1, h2⟩, h.nodup⟩
theorem none_c {H : AHeap} {k m : Nat} {a b : Int} {l : List Int} (hN : Nd H k m a b l) {K : AV → AHeap → Prop} (h : K (.d (.bool false)) H) : CallsA Try.prog 32 [.ptr k 0 0 0] H K := by
  apply C32
  unfold S32
  simp only [nilP_eql, nilCk_ptr, ti72_f1, getM_of hN.node, nilM_eql, go_sem]
  exact ⟨H, le_refl', h⟩
theorem is_c {H : AHeap} {k m : Nat} {a b s : Int} {l : List Int} (hN : Nd H k m a b l) {K : AV → AHeap → Prop} (h : K (.d (.bool (decide (s ∈ l)))) H) : CallsA Try.prog 33 [.ptr k 0 0 0, .d (.int .i64 s)] H K := by
  apply C33
  unfold S33
  obtain ⟨es, cl, h1, h2⟩ := hN.map
  simp only [nilCk_ptr, ti72_f1, getM_of hN.node, keyInt, lookA, h1, go_sem]
  by_cases hs : s ∈ l
  · obtain ⟨j, e, h3, _⟩ := findE_yes 0 h2 hs
    simp only [h3, if_true, go_sem]
    exact ⟨H, le_refl', k_bool h (by simp [hs])⟩
  · simp only [findE_no 0 h2 hs, if_true, go_sem]
    exact ⟨H, le_refl', k_bool h (by simp [hs])⟩
theorem isAt_c {a b : Int} {H : AHeap} {K : AV → AHeap → Prop} (h : K (.d (.bool (decide ((0 ≤ a ∧ a ≤ 65279) ∧ (1 ≤ b ∧ b ≤ 254))))) H) : CallsA Try.prog 31 [.agg [.d (.int .i64 a), .d (.int .i64 b)]] H K := by
  apply C31
  unfold S31
  refine box_open rfl fun k G hG hle hk => ?_
  simp only [AV.cells] at hG
  simp only [getM_of hG, ti28_f0, ti28_f1, go_sem]
  repeat' first
    | (exact ⟨H, hle, k_bool h (by first | (exact (decide_eq_false (by omega)).symm) | (exact decide_eq_decide.2 (by omega)))⟩)
    | split
theorem new_c {a b : Int} (ha : (0 ≤ a ∧ a ≤ 65279) ∧ (1 ≤ b ∧ b ≤ 254)) {H : AHeap} {K : AV → AHeap → Prop} (h : ∀ k m H', AHeap.le H H' → H k = none → H m = none → Nd H' k m a b [] → K (.tup [.ptr k 0 0 0, .d (.int .i64 0)]) H') : CallsA Try.prog 10 [.agg [.d (.int .i64 a), .d (.int .i64 b)]] H K := by
  apply C10
  unfold S10
  refine box_open rfl fun k1 G hG hle hk => ?_
  simp only [AV.cells] at hG
  simp only [getM_of hG, go_sem]
  refine isAt_c ?_
  simp only [ha, and_self, decide_true, Bool.not_true, getM_of hG, go_sem]
  intro m hm
  simp only [bd72, cell28, cell70, bdA, fillA, setCells, List.zip_cons_cons, List.zip_nil_right, Option.map_some, Nat.reduceLeDiff, List.cons_append, go_sem]
  refine box_open rfl fun k2 G2 hG2 hle2 hk2 => ?_
  simp only [AV.cells] at hG2
  simp only [go_sem]
  have hm2 : G2 m = some (.map [] 0) := hle2 _ _ set_self
  have hle3 : AHeap.le H G2 := le_trans' (le_set hle hm) hle2
  refine ⟨G2, le_refl', h k2 m G2 hle3 (le_none (le_set hle hm) hk2) (le_none hle hm) ⟨hG2, ⟨[], 0, hm2, rfl⟩, List.nodup_nil⟩⟩
/-- The least number from 128 on that is free. -/
structure Least (l : List Int) (s : Int) : Prop where
  lo : 128 ≤ s
  hi : s ≤ 255
  below : ∀ t, 128 ≤ t → t < s → t ∈ l
  free : s ∉ l
theorem open0_c {H : AHeap} {k m : Nat} {a b s : Int} {l : List Int} (hN : Nd H k m a b l) (h0 : (0 : Int) ∉ l) (hs : Least l s) {K : AV → AHeap → Prop}
    (h1 : s ≤ 254 → ∀ H', Nd H' k m a b (l ++ [s]) → (∀ i, i ≠ m → H' i = H i) → K (.tup [.d (.int .i64 s), .d (.int .i64 0)]) H') (h2 : s = 255 → K (.tup [.d (.int .i64 0), .d (.int .i64 4)]) H) : CallsA Try.prog 12 [.ptr k 0 0 0, .d (.int .i64 0)] H K := by
  apply C12
  unfold S12
  simp only [go_sem]
  refine none_c hN ?_
  simp only [Int.reduceLT, if_false, Int.reduceEq, if_true, go_sem]
  refine is_c hN ?_
  simp only [h0, decide_false, Bool.false_eq_true, if_false, if_true, go_sem]
  refine loop_ind (fun n vs H' => H' = H ∧ ∃ t : Int, 128 ≤ t ∧ t ≤ s ∧ n = (s - t).toNat ∧ vs = [.ptr k 0 0 0, .d (.int .i64 t)]) (n := (s - 128).toNat) ⟨rfl, 128, by omega, hs.lo, rfl, rfl⟩ ?_
  rintro X n vs H' ⟨rfl, t, ht1, ht2, rfl, rfl⟩ hX
  simp only [List.getD_cons_succ, List.getD_cons_zero, go_sem]
  refine is_c hN ?_
  have hhi := hs.hi
  by_cases hts : t = s
  · subst hts
    simp only [hs.free, decide_false, Bool.false_eq_true, if_false, go_sem]
    split
    · exact ⟨H', le_refl', h2 (by omega)⟩
    · rename_i h254
      obtain ⟨es, cl, g1, g2⟩ := hN.map
      have hmu : muA Try.prog 3 (.map m) (.d (.int .i64 t)) (.d (.sl true [])) H' = some (.junk, [(m, .map (es ++ [⟨.int .i64 t, .d (.sl true []), cl⟩]) (cl + 1))]) := by
        simp only [muA, Try.underlying3, keyOk, decide_true, AV.storable, and_self, if_true, mapSetA, g1, findE_no 0 g2 hs.free]
      simp only [nilCk_ptr, ti72_f1, getM_of hN.node, hmu, go_sem]
      refine ⟨_, le_refl', h1 (by omega) _ ⟨by rw [set_ne hN.ne]; exact hN.node, ⟨_, _, set_self, g2.add _ _ _⟩, ?_⟩ fun i hi => set_ne hi⟩
      rw [List.nodup_append]
      exact ⟨hN.nodup, by simp, fun x hx y hy => by
        rw [List.mem_singleton] at hy
        subst hy
        intro he
        subst he
        exact hs.free hx⟩
  · have hm : t ∈ l := hs.below t ht1 (by omega)
    simp only [hm, decide_true, if_true, go_sem]
    rw [wrap_i64 (by omega) (by omega)]
    exact hX _ _ _ (by omega) ⟨rfl, t + 1, by omega, by omega, rfl, rfl⟩
theorem mem_eraseIdx {l : List Int} (hn : l.Nodup) {j : Nat} {s : Int} (hj : l[j]? = some s) (t : Int) : t ∈ l.eraseIdx j ↔ t ∈ l ∧ t ≠ s := by
  induction l generalizing j with
  | nil => simp at hj
  | cons x l ih =>
    have hn' := List.nodup_cons.1 hn
    cases j with
    | zero =>
      simp only [List.getElem?_cons_zero, Option.some.injEq] at hj
      subst hj
      simp only [List.eraseIdx_cons_zero, List.mem_cons]
      constructor
      · intro h; exact ⟨.inr h, fun he => hn'.1 (he ▸ h)⟩
      · rintro ⟨h | h, h2⟩
        · exact absurd h h2
        · exact h
    | succ j =>
      simp only [List.getElem?_cons_succ] at hj
      simp only [List.eraseIdx_cons_succ, List.mem_cons, ih hn'.2 hj]
      have hs : s ∈ l := List.mem_of_getElem? hj
      constructor
      · rintro (h | ⟨h, h2⟩)
        · exact ⟨.inl h, fun he => hn'.1 (by rw [← h, he]; exact hs)⟩
        · exact ⟨.inr h, h2⟩
      · rintro ⟨h | h, h2⟩
        · exact .inl h
        · exact .inr ⟨h, h2⟩
theorem close_c {H : AHeap} {k m : Nat} {a b s : Int} {l : List Int} (hN : Nd H k m a b l) (hs4 : s ≠ 4) {K : AV → AHeap → Prop}
    (h1 : s ∈ l → ∀ H' l', Nd H' k m a b l' → (∀ t, t ∈ l' ↔ t ∈ l ∧ t ≠ s) → (∀ i, i ≠ m → H' i = H i) → K (.d (.int .i64 0)) H') (h2 : s ∉ l → K (.d (.int .i64 5)) H) : CallsA Try.prog 13 [.ptr k 0 0 0, .d (.int .i64 s)] H K := by
  apply C13
  unfold S13
  simp only [go_sem]
  refine none_c hN ?_
  simp only [hs4, Bool.false_eq_true, if_false, go_sem]
  refine is_c hN ?_
  by_cases hs : s ∈ l
  · obtain ⟨es, cl, g1, g2⟩ := hN.map
    obtain ⟨j, e, g3, g4, g5⟩ := findE_yes 0 g2 hs
    rw [Nat.zero_add] at g3
    have hmd : mdA Try.prog 3 (.map m) (.d (.int .i64 s)) H = some (.tup [], [(m, .map (es.eraseIdx j) cl)]) := by
      simp only [mdA, Try.underlying3, keyOk, decide_true, if_true, mapDelA, g1, g3]
    simp only [hs, decide_true, Bool.not_true, Bool.false_eq_true, if_false, nilCk_ptr, ti72_f1, getM_of hN.node, hmd, not_true_eq_false, go_sem]
    refine ⟨_, le_refl', h1 hs _ (l.eraseIdx j) ⟨by rw [set_ne hN.ne]; exact hN.node, ⟨_, _, set_self, g2.del j⟩, (List.eraseIdx_sublist l j).nodup hN.nodup⟩ (mem_eraseIdx hN.nodup g5) fun i hi => set_ne hi⟩
  · simp only [hs, decide_false, Bool.not_false, if_true, not_false_eq_true, go_sem]
    exact ⟨H, le_refl', h2 hs⟩
end Go.Proofs.Ytfihnifhabbniaa

/- A new bus of any list; the law of quiet buses. -/
import Derived.Test.YtadpakkenokilaaM2w
set_option autoImplicit false
set_option maxRecDepth 100000
set_option linter.unusedVariables false
set_option linter.unusedSimpArgs false
set_option linter.unnecessarySimpa false
namespace Go.Proofs.Ytadpakkenokilaa
open Go Go.AM Go.Proofs
theorem srtI_rising {l : List Int} : Rising (srtI l) := by
  have := List.pairwise_mergeSort (le := fun x y : Int => decide (x ≤ y)) (fun a b c h1 h2 => by simp only [decide_eq_true_eq] at *; omega) (fun a b => by simp only [Bool.or_eq_true, decide_eq_true_eq]; omega) l
  exact this.imp fun h => by simpa using h
theorem srtI_len {l : List Int} : (srtI l).length = l.length := List.length_mergeSort _
theorem newLost_c {H : AHeap} {nl : Bool} {zs : List Int} (hnl : nl = true → zs = []) (hz : zs.length < 2 ^ 40) {K : AV → AHeap → Prop} (hk : ∀ k H', BusAt H' k zs.isEmpty (srtI zs) (.d (.sl true [])) [] [] 0 → AHeap.le H H' → H k = none → K (.ptr k 0 0 0) H') : CallsA Try.prog 11 [.d (.sl nl (ints zs))] H K := by
  apply C11
  unfold S11
  simp only [go_sem]
  apply C30
  unfold S30
  refine box_open rfl fun k1 G hG hle hk1 => ?_
  simp only [AV.cells, go_sem] at hG ⊢
  refine ⟨G, le_refl', ?_⟩
  simp only [go_sem]
  refine sortedVals_c hnl hz hG ?_
  simp only [bd52_eq, go_sem]
  refine box_open rfl fun k2 G2 hG2 hle2 hk2 => ?_
  simp only [AV.cells, go_sem] at hG2 ⊢
  exact ⟨G2, le_refl', hk k2 G2 ⟨hG2, ⟨rfl, .nil, fun j hj => by simp at hj, .inl ⟨rfl, rfl⟩, by simp, by simp⟩⟩ (le_trans' hle hle2) (le_none hle hk2)⟩
/-- How far those that guess have come. -/
def Far (sts : List St) (t : Int) : Prop := ∀ j, j < sts.length → (sts.getD j default).state = 1 → t ≤ 8 * (sts.getD j default).k + (sts.getD j default).sent
theorem step_at {lost : Int → Bool} {sts : List St} {f : Int} {j : Nat} (hj : j < sts.length) : ∃ a, ((step lost sts f).1).getD j default = if (sts.getD j default).state = 1 then (sts.getD j default).fin a else sts.getD j default := by
  unfold step
  simp only
  rw [finS_at askS_nodup fun i hi => (askS_mem.1 hi).1]
  have hm : j ∈ askS sts sts.length ↔ (sts.getD j default).state = 1 := askS_mem.trans ⟨fun h => h.2, fun h => ⟨hj, h⟩⟩
  simp only [hm]
  exact ⟨_, rfl⟩
theorem Far.stp {lost : Int → Bool} {sts : List St} {t f : Int} (h : Far sts t) (ok : ∀ s ∈ sts, s.Ok) : Far (step lost sts f).1 (t + 1) := by
  intro j hj h1
  rw [step_len] at hj
  obtain ⟨a, ha⟩ := step_at (lost := lost) (f := f) hj
  rw [ha] at h1 ⊢
  have okj : (sts.getD j default).Ok := by
    rw [List.getD_eq_getElem?_getD, List.getElem?_eq_getElem hj]
    exact ok _ (List.getElem_mem hj)
  have hfar := h j hj
  generalize sts.getD j default = s at *
  split at h1
  · rename_i hs
    rw [if_pos hs]
    have hgo := okj.go hs
    have hfs := hfar hs
    unfold St.fin at h1 ⊢
    cases a
    · simp only [Bool.false_eq_true, if_false] at h1 ⊢
      split at h1
      · cases h1
      · rename_i h8
        rw [if_neg h8]
        simp only
        omega
    · simp only [if_true] at h1 ⊢
      omega
  · rename_i hs
    exact absurd h1 hs
theorem Far.quiet {sts : List St} {t : Int} (h : Far sts t) (ht : 2024 ≤ t) (ok : ∀ s ∈ sts, s.Ok) : quietB sts = true := by
  rw [quietB_lt]
  intro j hj h1
  have okj : (sts.getD j default).Ok := by
    rw [List.getD_eq_getElem?_getD, List.getElem?_eq_getElem hj]
    exact ok _ (List.getElem_mem hj)
  have := okj.go h1
  have := h j hj h1
  omega
section
variable {H G : AHeap} {K : AV → AHeap → Prop}
abbrev rowD (r : Bool × List Int) : List Dat := [.sl r.1 (ints r.2)]
theorem ix23 {nl : Bool} {l : List (Bool × List Int)} {j : Nat} {r : Bool × List Int} (h : l[j]? = some r) : indexAddrA ti23 1 (.d (.sl nl (l.map rowD))) (.d (.int .i64 (j : Int))) = some (.vptr (rowD r) 0) := by
  have h1 : (l.map rowD)[j]? = some (rowD r) := by rw [List.getElem?_map, h]; rfl
  simp only [indexAddrA, ti23, Int.natCast_nonneg, if_true, Int.toNat_natCast, h1, List.length_cons, List.length_nil, Nat.zero_add, Nat.reduceAdd]
structure RowOk (r : Bool × List Int) : Prop where
  wf : ∀ x ∈ r.2, -9223372036854775808 ≤ x ∧ x ≤ 9223372036854775807
  nl : r.1 = true → r.2 = []
theorem quiets_law {nl nl2 : Bool} {zs : List Int} {l : List (Bool × List Int)} (hnl : nl = true → zs = []) (hok : ∀ r ∈ l, RowOk r) (hk : ∀ H', K (.d (.bool true)) H') : CallsA Try.prog 3 [.d (.sl nl (ints zs)), .d (.sl nl2 (l.map rowD))] H K := by
  apply C3
  unfold S3
  have aw : ∀ G, CallsA Try.prog 10 [] G fun v5 H6 => retF [v5] H6 K := fun G => awake_c fun H' => by simp only [go_sem]; exact ⟨_, le_refl', hk _⟩
  simp only [lenSl_d, ints_len, List.length_map, optA_some, intA_gtr, ifA_ite, frzLK_d, frzLK_nil]
  refine ite_of (fun _ => aw _) fun h2000 => ?_
  refine ite_of (fun _ => aw _) fun h6 => ?_
  refine newLost_c hnl (by omega) fun k H1 hB _ _ => ?_
  have hrs : Rising (srtI zs) := srtI_rising
  have hll : (srtI zs).length < 2 ^ 40 := by rw [srtI_len]; omega
  generalize hL : srtI zs = lost at hB hrs hll
  generalize hn : zs.isEmpty = ln at hB
  refine loop_ind (fun n vs G => ∃ (j : Nat) (sv : AV) (ids : List Nat) (sts : List St), j ≤ l.length ∧ n = l.length - j ∧ vs = [.d (.sl nl2 (l.map rowD)), .ptr k 0 0 0, .d (.int .i64 (j : Int)), .junk] ∧ BusAt G k ln lost sv ids sts 0 ∧ sts.length = j) (n := l.length) ⟨0, _, _, _, Nat.zero_le _, rfl, rfl, hB, rfl⟩ ?_
  rintro X n vs G ⟨j, sv, ids, sts, hj, rfl, rfl, hG, hsl⟩ hX
  by_cases hjl : j = l.length
  · subst hjl
    have n40 := hG.sts.n40
    have nojob : ∀ (G : AHeap) (sts : List St) (f : Int), BusAt G k ln lost sv ids sts f → quietB sts = true → CallsA Try.prog 14 [.ptr k 0 0 0] G fun v57 H58 => ifA v57 (frzLK [] H58 fun l63 H64 => CallsA Try.prog 10 l63 H64 fun v61 H62 => retF [v61] H62 K) (retF [.d (.bool false)] H58 K) := fun G sts f hB hq => by
      refine Quiet_c hB ?_
      rw [hq]
      simp only [ifA_t, frzLK_nil]
      exact aw _
    simp only [List.getD_cons_succ, List.getD_cons_zero, lenSl_d, List.length_map, optA_some, intA_lss, Int.lt_irrefl, decide_false, ifA_f]
    refine loop_ind (fun n vs G' => ∃ (i : Nat) (sts' : List St) (f' : Int), i ≤ 2700 ∧ n = 2700 - i ∧ vs = [.d (.sl nl2 (l.map rowD)), .ptr k 0 0 0, .d (.int .i64 (l.length : Int)), .d (.int .i64 (i : Int))] ∧ BusAt G' k ln lost sv ids sts' f' ∧ Far sts' i ∧ 0 ≤ f' ∧ f' ≤ 1640 * (i : Int)) (n := 2700) ⟨0, _, _, Nat.zero_le _, rfl, rfl, hG, fun j hj h1 => ?_, Int.le_refl _, by simp⟩ ?_
    · have okj := hG.sts.okj hj
      have := okj.k
      have := okj.sent
      omega
    rintro X' n vs G' ⟨i, sts', f', hi, rfl, rfl, hG', hF, hf0, hf1⟩ hX'
    have nj := nojob G' sts' f' hG'
    simp only [frzLK_nil] at nj
    by_cases hi2 : i = 2700
    · subst hi2
      have n0 : ¬ (((2700 : Nat) : Int) < 2700) := by decide
      simp only [List.getD_cons_succ, List.getD_cons_zero, optA_some, intA_lss, n0, decide_false, ifA_f, frzLK_ptr, frzLK_nil]
      exact nj (hF.quiet (by omega) hG'.sts.ok)
    · have hlt : (i : Int) < 2700 := by omega
      have hw : IntKind.i64.wrap ((i : Int) + 1) = ((i + 1 : Nat) : Int) := by rw [wrap_i64 (by omega) (by omega)]; omega
      simp only [List.getD_cons_succ, List.getD_cons_zero, optA_some, intA_lss, hlt, decide_true, ifA_t, frzLK_ptr, frzLK_nil]
      refine Quiet_c hG' ?_
      cases hq : quietB sts' with
      | true =>
        simp only [unA_not, Bool.not_true, optA_some, ifA_f]
        exact nj hq
      | false =>
        simp only [unA_not, Bool.not_false, optA_some, ifA_t]
        refine Step_c hG' hrs hll ⟨hf0, by omega⟩ fun G3 hB4 _ => ?_
        have hs2 := step_f (lost := lostB lost) (sts := sts') (f := f') hG'.sts.n40
        simp only [intA_neq, ne_eq, not_true_eq_false, decide_false, optA_some, ifA_f, intA_add, hw]
        exact hX' (2700 - (i + 1)) _ _ (by omega) ⟨i + 1, _, _, by omega, rfl, rfl, hB4, by have := hF.stp (lost := lostB lost) (f := f') hG'.sts.ok; simpa using this, by omega, by omega⟩
  · have hlt : (j : Int) < (l.length : Int) := by omega
    obtain ⟨r, hr⟩ : ∃ r, l[j]? = some r := ⟨_, List.getElem?_eq_getElem (by omega)⟩
    have hro := hok r (List.mem_of_getElem? hr)
    have hw : IntKind.i64.wrap ((j : Int) + 1) = ((j + 1 : Nat) : Int) := by rw [wrap_i64 (by omega) (by omega)]; omega
    have ra : ldV false 1 (.vptr (rowD r) 0) G = some (.d (.sl r.1 (ints r.2))) := rfl
    simp only [List.getD_cons_succ, List.getD_cons_zero, lenSl_d, List.length_map, optA_some, intA_lss, hlt, decide_true, ifA_t, ix23 hr, ra, ints_len, intA_gtr, ifA_ite, frzLK_ptr, frzLK_d, frzLK_nil]
    refine ite_of (fun _ => aw _) fun h60 => ?_
    refine Add_c hG hro.wf (by omega) hro.nl (fun h => by omega) fun _ G1 sv1 ids1 hB2 _ _ => ?_
    have hl2 : (sts ++ [newSt r.1 r.2]).length = j + 1 := by simp [hsl]
    have hget : (sts ++ [newSt r.1 r.2]).getD j default = newSt r.1 r.2 := by
      rw [List.getD_eq_getElem?_getD, List.getElem?_append_right (by omega)]
      simp [hsl]
    refine Guess_c (i := j) hB2 (by omega) (by rw [hget]; rfl) fun G2 hB3 _ => ?_
    simp only [intA_neq, ne_eq, not_true_eq_false, decide_false, optA_some, ifA_f, intA_add, hw]
    exact hX (l.length - (j + 1)) _ _ (by omega) ⟨j + 1, sv1, ids1, _, by omega, rfl, rfl, hB3, by rw [List.length_set]; exact hl2⟩
theorem row_open {c : List Dat} (h : DatOk Try.prog 8 22 c) : ∃ r, c = rowD r ∧ RowOk r := by
  rw [datOk_slice Try.underlying22] at h
  obtain ⟨nl, l, rfl, hnl, hl, _⟩ := h
  simp only [datOk_int Try.underlying3] at hl
  obtain ⟨zs, rfl, hz⟩ := ints_open hl
  refine ⟨(nl, zs), rfl, hz, fun h => ?_⟩
  have := hnl h
  cases zs with
  | nil => rfl
  | cons b r => cases this
theorem rows_open {l : List (List Dat)} (h : ∀ c ∈ l, DatOk Try.prog 8 22 c) : ∃ zs : List (Bool × List Int), l = zs.map rowD ∧ ∀ r ∈ zs, RowOk r := by
  induction l with
  | nil => exact ⟨[], rfl, by simp⟩
  | cons c l ih =>
    obtain ⟨a, rfl, ha⟩ := row_open (h c (by simp))
    obtain ⟨zs, rfl, has⟩ := ih fun x hx => h x (by simp [hx])
    exact ⟨a :: zs, rfl, fun x hx => by
      rcases List.mem_cons.1 hx with rfl | hx
      · exact ha
      · exact has x hx⟩
theorem lost_open {xs : List Dat} (h : DatOk Try.prog 9 22 xs) : ∃ (nl : Bool) (zs : List Int), argAV (aggT Try.prog 22) xs = .d (.sl nl (ints zs)) ∧ (nl = true → zs = []) := by
  rw [datOk_slice Try.underlying22] at h
  obtain ⟨nl, l, rfl, hnl, hl, _⟩ := h
  simp only [datOk_int Try.underlying3] at hl
  obtain ⟨zs, rfl, hz⟩ := ints_open hl
  rw [show aggT Try.prog 22 = false by kernel_rfl]
  refine ⟨nl, zs, rfl, fun h => ?_⟩
  have := hnl h
  cases zs with
  | nil => rfl
  | cons b r => cases this
theorem quiets_row (xs : List Dat) (h : DatOk Try.prog 9 22 xs) (ys : List Dat) (h2 : DatOk Try.prog 9 23 ys) : CallsA Try.prog 3 [argAV (aggT Try.prog 22) xs, argAV (aggT Try.prog 23) ys] noHeap fun v _ => v = .d (.bool true) := by
  obtain ⟨nl, zs, e, hnl⟩ := lost_open h
  rw [e]
  rw [datOk_slice Try.underlying23] at h2
  obtain ⟨nl2, l, rfl, _, hl, _⟩ := h2
  obtain ⟨rs, rfl, hr⟩ := rows_open hl
  rw [show aggT Try.prog 23 = false by kernel_rfl]
  exact quiets_law hnl hr fun _ => rfl
end
end Go.Proofs.Ytadpakkenokilaa

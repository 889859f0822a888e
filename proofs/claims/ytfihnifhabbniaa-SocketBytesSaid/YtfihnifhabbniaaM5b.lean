/- The law of sockets that are given out. -/
import Derived.Test.YtfihnifhabbniaaM5a
set_option autoImplicit false
set_option maxRecDepth 100000
set_option linter.unusedVariables false
set_option linter.unusedSimpArgs false
namespace Go.Proofs.Ytfihnifhabbniaa
open Go Go.AM Go.Proofs
theorem least_nil : Least [] 128 := ⟨by omega, by omega, fun t h1 h2 => by omega, by simp⟩
theorem bd28_eq {a b : Int} {H : AHeap} : bdA Try.prog ti28 [0, 1] [.d (.int .i64 a), .d (.int .i64 b)] H = some (.agg [.d (.int .i64 a), .d (.int .i64 b)], []) := by
  simp only [bdA, bd28, cell3, fillA, setCells, List.zip_cons_cons, List.zip_nil_right, Option.map_some, Nat.reduceLeDiff, List.cons_append, go_sem]
theorem first_c {H : AHeap} {K : AV → AHeap → Prop} (h : K (.d (.bool true)) H) : CallsA Try.prog 11 [] H K := by
  apply C11
  unfold S11
  simp only [bd28_eq, go_sem]
  refine new_c (by omega) fun k m H1 hle hk hm hN => ?_
  simp only [nilP_eql, ne_eq, not_true_eq_false, decide_false, if_false, Bool.false_eq_true, go_sem]
  refine open0_c hN (by simp) least_nil (fun _ H2 hN2 hk2 => ?_) (fun h => by cases h)
  simp only [go_sem]
  have hL : Least ([] ++ [128]) 129 := ⟨by omega, by omega, fun t h1 h2 => by simp; omega, by simp⟩
  refine open0_c hN2 (by simp) hL (fun _ H3 hN3 hk3 => ?_) (fun h => by cases h)
  simp only [decide_true, if_true, go_sem]
  refine ⟨H, fun i o hi => ?_, h⟩
  have hi1 := hle i o hi
  have hm1 : i ≠ m := fun he => by rw [he, hm] at hi; cases hi
  rw [hk3 i hm1, hk2 i hm1]
  exact hi1
theorem first_end {G : AHeap} : CallsA Try.prog 11 [] G fun v H => retF [v] H fun v _ => v = .d (.bool true) := first_c (by simp only [go_sem]; exact ⟨_, le_refl', rfl⟩)
/-- All from 128 to below i are open. -/
def Upto (l : List Int) (i : Int) : Prop := ∀ t, t ∈ l ↔ 128 ≤ t ∧ t < i
theorem opens_law {nl : Bool} {cs : List UInt8} {n : AV} : CallsA Try.prog 3 [.d (.sl nl (bs cs)), n] noHeap fun v _ => v = .d (.bool true) := by
  apply C3
  unfold S3
  simp only [bd28_eq, go_sem]
  refine new_c (by omega) fun k m H1 hle hk hm hN => ?_
  simp only [nilP_eql, nilP_neq, bs_length, ne_eq, not_true_eq_false, decide_false, if_false, Bool.false_eq_true, go_sem]
  split
  · exact first_end
  rename_i hlen
  refine loop_ind (fun r vs H' => ∃ (i : Int) (l : List Int), 128 ≤ i ∧ i ≤ 255 ∧ r = (255 - i).toNat ∧ Nd H' k m 1 1 l ∧ Upto l i ∧ vs = [.d (.sl nl (bs cs)), .ptr k 0 0 0, .d (.int .i64 i), .junk, .junk]) (n := 127)
    ⟨128, [], by omega, by omega, rfl, hN, fun t => by simp; try omega, rfl⟩ ?_
  rintro X r vs H' ⟨i, l, hi1, hi2, rfl, hN', hl, rfl⟩ hX
  simp only [List.getD_cons_succ, List.getD_cons_zero, go_sem]
  have h0 : (0 : Int) ∉ l := fun h => by have := (hl 0).1 h; omega
  have hL : Least l i := ⟨hi1, hi2, fun t h1 h2 => (hl t).2 ⟨h1, h2⟩, fun h => by have := (hl i).1 h; omega⟩
  split
  · rename_i hlt
    refine open0_c hN' h0 hL (fun _ H2 hN2 _ => ?_) (fun h => by omega)
    simp only [ne_eq, not_true_eq_false, decide_false, if_false, go_sem]
    rw [wrap_i64 (by omega) (by omega)]
    refine hX _ _ _ (by omega) ⟨i + 1, l ++ [i], by omega, by omega, rfl, hN2, fun t => ?_, rfl⟩
    rw [List.mem_append, hl t, List.mem_singleton]
    omega
  · rename_i hlt
    have hi : i = 255 := by omega
    subst hi
    refine open0_c hN' h0 hL (fun h => by omega) fun _ => ?_
    simp only [ne_eq, not_true_eq_false, decide_false, if_false, go_sem]
    refine loop_ind (fun r vs H' => ∃ (j : Nat) (s : Int) (l : List Int), j ≤ cs.length ∧ r = cs.length - j ∧ Nd H' k m 1 1 l ∧ Least l s ∧ (∀ t ∈ l, 128 ≤ t ∧ t ≤ 254) ∧ vs = [.d (.sl nl (bs cs)), .ptr k 0 0 0, .d (.int .i64 255), .d (.int .i64 s), .d (.int .i64 j)]) (n := cs.length)
      ⟨0, 255, l, by omega, by omega, hN', hL, fun t ht => by have := (hl t).1 ht; omega, rfl⟩ ?_
    rintro X2 r2 vs2 H2 ⟨j, s, l2, hj, rfl, hN2, hL2, hr2, rfl⟩ hX2
    simp only [List.getD_cons_succ, List.getD_cons_zero, bs_length, go_sem]
    have hlo := hL2.lo
    have hhi := hL2.hi
    split
    · rename_i hlt2
      have hj' : j < cs.length := by omega
      have hc := cs[j].toNat_lt
      have hix : indexAddrA ti22 1 (.d (.sl nl (bs cs))) (.d (.int .i64 j)) = some (.vptr [.int .u8 cs[j].toNat] 0) := sl_get (e := 5) rfl (by omega) (by simp [bs, hj']) rfl
      simp only [hix, List.map_cons, List.map_nil, intA_rem (b := 127) (by decide), go_sem]
      rw [wrap_i64 (n := (cs[j].toNat : Int)) (by omega) (by omega), Int.tmod_eq_emod_of_nonneg (by omega), wrap_i64 (n := 128 + (cs[j].toNat : Int) % 127) (by omega) (by omega), wrap_i64 (n := (j : Int) + 1) (by omega) (by omega)]
      have step : ∀ H3 l3, Nd H3 k m 1 1 l3 → (∀ t, t ∈ l3 ↔ t ∈ l2 ∧ t ≠ 128 + (cs[j].toNat : Int) % 127) → (if 128 + (cs[j].toNat : Int) % 127 < s then X2 [.d (.sl nl (bs cs)), .ptr k 0 0 0, .d (.int .i64 255), .d (.int .i64 (128 + (cs[j].toNat : Int) % 127)), .d (.int .i64 (j + 1))] H3 else X2 [.d (.sl nl (bs cs)), .ptr k 0 0 0, .d (.int .i64 255), .d (.int .i64 s), .d (.int .i64 (j + 1))] H3) := by
        intro H3 l3 hN3 hl3
        split
        · rename_i hks
          refine hX2 _ _ _ (by omega) ⟨j + 1, 128 + (cs[j].toNat : Int) % 127, l3, by omega, rfl, hN3, ⟨by omega, by omega, fun t h1 h2 => (hl3 t).2 ⟨hL2.below t h1 (by omega), by omega⟩, fun h => ((hl3 _).1 h).2 rfl⟩, fun t ht => hr2 t ((hl3 t).1 ht).1, by simp⟩
        · rename_i hks
          refine hX2 _ _ _ (by omega) ⟨j + 1, s, l3, by omega, rfl, hN3, ⟨hlo, hhi, fun t h1 h2 => (hl3 t).2 ⟨hL2.below t h1 h2, by omega⟩, fun h => hL2.free ((hl3 _).1 h).1⟩, fun t ht => hr2 t ((hl3 t).1 ht).1, by simp⟩
      refine close_c hN2 (by omega) (fun hmem H3 l3 hN3 hl3 _ => ?_) fun hnm => ?_
      · try simp only [go_sem]
        exact step H3 l3 hN3 hl3
      · try simp only [go_sem]
        exact step H2 l2 hN2 fun t => ⟨fun ht => ⟨ht, fun he => hnm (he ▸ ht)⟩, fun ht => ht.1⟩
    · rename_i hlt2
      have h02 : (0 : Int) ∉ l2 := fun h => by have := hr2 0 h; omega
      refine open0_c hN2 h02 hL2 (fun h254 H3 hN3 _ => ?_) fun h255 => ?_
      · try simp only [go_sem]
        rw [if_neg (by omega)]
        try simp only [decide_true, if_true, go_sem]
        exact first_end
      · subst h255
        simp only [decide_true, if_true, go_sem]
        exact first_end
theorem bytes_open {xs : List Dat} (h : DatOk Try.prog 9 22 xs) : ∃ nl bl, argAV (aggT Try.prog 22) xs = .d (.sl nl (bs bl)) ∧ (nl = true → bl = []) ∧ bl.length ≤ 2 ^ 47 := by
  rw [datOk_slice Try.underlying22] at h
  obtain ⟨nl, l, rfl, hnl, hl, hlen⟩ := h
  obtain ⟨bl, rfl⟩ := DatOk_bytes Try.underlying5 hl
  refine ⟨nl, bl, ?_, fun h => ?_, ?_⟩
  · rw [show aggT Try.prog 22 = false by kernel_rfl]
    rfl
  · have := hnl h
    cases bl with
    | nil => rfl
    | cons b r => cases this
  · rw [show Try.prog.bytesOf 5 = 1 by kernel_rfl, bs_length] at hlen
    unfold reachBytes at hlen
    omega
theorem opens_row (xs : List Dat) (h : DatOk Try.prog 9 22 xs) (ys : List Dat) (h2 : DatOk Try.prog 9 5 ys) : CallsA Try.prog 3 [argAV (aggT Try.prog 22) xs, argAV (aggT Try.prog 5) ys] noHeap fun v _ => v = .d (.bool true) := by
  obtain ⟨nl, bl, hb, _⟩ := bytes_open h
  rw [hb]
  exact opens_law
end Go.Proofs.Ytfihnifhabbniaa

/- The law of nil askers and answerers. -/
import Derived.Test.YtofjhihigmimbaaM10e
set_option autoImplicit false
set_option maxRecDepth 100000
set_option linter.unusedVariables false
set_option linter.unusedSimpArgs false
namespace Go.Proofs.Ytofjhihigmimbaa
open Go Go.AM Go.Proofs
/-- No asker: nil, or a zero value. -/
def Nob (H : AHeap) (v : AV) : Prop := v = .nilptr ∨ ∃ k b c, v = .ptr k 0 0 0 ∧ H k = some (.mem 0 0 3 [[.d (.bool false), b, c]])
/-- No answerer. -/
def Nos (H : AHeap) (v : AV) : Prop := v = .nilptr ∨ ∃ k b, v = .ptr k 0 0 0 ∧ H k = some (.mem 0 0 2 [[.nilmap, b]])
theorem Nob.le {H G : AHeap} {v : AV} (h : Nob H v) (hle : AHeap.le H G) : Nob G v := h.imp id fun ⟨k, b, c, h1, h2⟩ => ⟨k, b, c, h1, hle _ _ h2⟩
theorem Nos.le {H G : AHeap} {v : AV} (h : Nos H v) (hle : AHeap.le H G) : Nos G v := h.imp id fun ⟨k, b, h1, h2⟩ => ⟨k, b, h1, hle _ _ h2⟩
theorem frzK_nob {H : AHeap} {v : AV} {l : List AV} {K : List AV → AHeap → Prop} (hv : Nob H v) : frzLK (v :: l) H K = frzLK l H fun l' H' => K (v :: l') H' := by
  rcases hv with rfl | ⟨k, b, c, rfl, _⟩
  · exact frzLK_nilptr
  · exact frzLK_ptr
theorem frzK_nos {H : AHeap} {v : AV} {l : List AV} {K : List AV → AHeap → Prop} (hv : Nos H v) : frzLK (v :: l) H K = frzLK l H fun l' H' => K (v :: l') H' := by
  rcases hv with rfl | ⟨k, b, rfl, _⟩
  · exact frzLK_nilptr
  · exact frzLK_ptr
theorem nilM : nilA 1 .eql .nilmap .nilmap = some (.d (.bool true)) := rfl
section
variable {H : AHeap} {v : AV} {K : AV → AHeap → Prop}
theorem nob_c (hv : Nob H v) (hk : K (.d (.bool true)) H) : CallsA Try.prog 68 [v] H K := by
  apply C68
  unfold S68
  rcases hv with rfl | ⟨k, b, c, rfl, h1⟩
  · simp only [nilN_eql, go_sem]
    exact ⟨H, le_refl', hk⟩
  · simp only [nilP_eql, nilCk_ptr, ti73_f0, getM_of h1, Bool.not_false, go_sem]
    exact ⟨H, le_refl', hk⟩
theorem nos_c (hv : Nos H v) (hk : K (.d (.bool true)) H) : CallsA Try.prog 59 [v] H K := by
  apply C59
  unfold S59
  rcases hv with rfl | ⟨k, b, rfl, h1⟩
  · simp only [nilN_eql, go_sem]
    exact ⟨H, le_refl', hk⟩
  · simp only [nilP_eql, nilCk_ptr, ti89_f0, getM_of h1, nilM, go_sem]
    exact ⟨H, le_refl', hk⟩
def z0 : Tr := ⟨0, 0, 0, 0, false, false, false, true, []⟩
theorem nobAsk_c (hv : Nob H v) {x : Dat} (hk : K (.tup [.d (.int .i64 0), z0.av, .d (.int .i64 7)]) H) : CallsA Try.prog 30 [v, .d x, .d (.int .i64 1), .d (.bool true), .d (.int .i64 1)] H K := by
  apply C30
  unfold S30
  refine alloc_open fun u G hG hle hu => ?_
  simp only [frzK_nob (hv.le hle), go_sem]
  refine nob_c (hv.le hle) ?_
  simp only [getM_of hG, getM_set, stoA_agg, stoA_get, stoM, setCells, and_self, true_and, Nat.le_refl, Nat.reduceLeDiff, List.cons_append, List.set_cons_zero, List.getElem?_cons_zero, go_sem]
  refine ⟨_, fun i o hi => ?_, hk⟩
  have hiu := le_ne hi hu
  rw [set_ne hiu]; exact hle _ _ hi
theorem nobTake_c (hv : Nob H v) {t : Tr} (hk : K (.tup [.d (.sl true []), .d (.int .i64 7)]) H) : CallsA Try.prog 31 [v, t.av] H K := by
  apply C31
  unfold S31
  refine box_open rfl fun u G hG hle hu => ?_
  simp only [frzK_nob (hv.le hle), go_sem]
  refine nob_c (hv.le hle) ?_
  simp only [go_sem]
  exact ⟨_, hle, hk⟩
theorem nobTick_c (hv : Nob H v) (hk : K (.tup [.d (.sl true []), .d (.int .i64 7)]) H) : CallsA Try.prog 32 [v] H K := by
  apply C32
  unfold S32
  simp only [frzK_nob hv, go_sem]
  refine nob_c hv ?_
  simp only [go_sem]
  exact ⟨_, le_refl', hk⟩
theorem nobPieces_c (hv : Nob H v) {x : Dat} (hk : K (.tup [.d (.sl true []), .d (.int .i64 7)]) H) : CallsA Try.prog 33 [v, .d x] H K := by
  apply C33
  unfold S33
  simp only [frzK_nob hv, go_sem]
  refine nob_c hv ?_
  simp only [go_sem]
  exact ⟨_, le_refl', hk⟩
theorem nobState_c (hv : Nob H v) {x : Dat} (hk : K (.d (.int .i64 0)) H) : CallsA Try.prog 35 [v, .d x] H K := by
  apply C35
  unfold S35
  simp only [frzK_nob hv, go_sem]
  refine nob_c hv ?_
  simp only [go_sem]
  exact ⟨_, le_refl', hk⟩
theorem nobForget_c (hv : Nob H v) {x : Dat} (hk : K (.d (.int .i64 7)) H) : CallsA Try.prog 36 [v, .d x] H K := by
  apply C36
  unfold S36
  simp only [frzK_nob hv, go_sem]
  refine nob_c hv ?_
  simp only [go_sem]
  exact ⟨_, le_refl', hk⟩
theorem nobCopy_c (hv : Nob H v) (hk : K .nilptr H) : CallsA Try.prog 37 [v] H K := by
  apply C37
  unfold S37
  simp only [frzK_nob hv, go_sem]
  refine nob_c hv ?_
  simp only [go_sem]
  exact ⟨_, le_refl', hk⟩
theorem nosTake_c (hv : Nos H v) {t : Tr} (hk : K (.tup [.d (.sl true []), .d (.bool false), .d (.int .i64 7)]) H) : CallsA Try.prog 38 [v, t.av] H K := by
  apply C38
  unfold S38
  refine box_open rfl fun u G hG hle hu => ?_
  simp only [frzK_nos (hv.le hle), go_sem]
  refine nos_c (hv.le hle) ?_
  simp only [go_sem]
  exact ⟨_, hle, hk⟩
theorem nosAnswer_c (hv : Nos H v) {x y : Dat} (hk : K (.tup [.d (.sl true []), .d (.int .i64 7)]) H) : CallsA Try.prog 39 [v, .d x, .d y] H K := by
  apply C39
  unfold S39
  simp only [frzK_nos hv, go_sem]
  refine nos_c hv ?_
  simp only [go_sem]
  exact ⟨_, le_refl', hk⟩
theorem nosTick_c (hv : Nos H v) (hk : K (.d (.int .i64 7)) H) : CallsA Try.prog 40 [v] H K := by
  apply C40
  unfold S40
  simp only [frzK_nos hv, go_sem]
  refine nos_c hv ?_
  simp only [go_sem]
  exact ⟨_, le_refl', hk⟩
theorem nosRem_c (hv : Nos H v) (hk : K (.d (.sl true [])) H) : CallsA Try.prog 23 [v] H K := by
  apply C23
  unfold S23
  simp only [frzK_nos hv, go_sem]
  refine nos_c hv ?_
  simp only [go_sem]
  exact ⟨_, le_refl', hk⟩
theorem nosCopy_c (hv : Nos H v) (hk : K .nilptr H) : CallsA Try.prog 41 [v] H K := by
  apply C41
  unfold S41
  simp only [frzK_nos hv, go_sem]
  refine nos_c hv ?_
  simp only [go_sem]
  exact ⟨_, le_refl', hk⟩
theorem nobNil : Nob H .nilptr := .inl rfl
theorem nosNil : Nos H .nilptr := .inl rfl
theorem sameA_c (hk : K (.d (.bool true)) H) : CallsA Try.prog 42 [.nilptr, .nilptr] H K := by
  apply C42
  unfold S42
  simp only [go_sem]
  refine nob_c nobNil ?_
  simp only [go_sem]
  refine nob_c nobNil ?_
  simp only [go_sem]
  refine nob_c nobNil ?_
  simp only [go_sem]
  exact ⟨_, le_refl', hk⟩
theorem sameS_c (hk : K (.d (.bool true)) H) : CallsA Try.prog 43 [.nilptr, .nilptr] H K := by
  apply C43
  unfold S43
  simp only [go_sem]
  refine nos_c nosNil ?_
  simp only [go_sem]
  refine nos_c nosNil ?_
  simp only [go_sem]
  refine nos_c nosNil ?_
  simp only [go_sem]
  exact ⟨_, le_refl', hk⟩
theorem sameZ_c (hk : K (.d (.bool true)) H) : CallsA Try.prog 34 [z0.av, z0.av] H K := by
  apply C34
  unfold S34
  refine box_open rfl fun u G hG hle hu => ?_
  refine box_open rfl fun u2 G2 hG2 hle2 hu2 => ?_
  have hG1 : G2 u = some (.mem 0 0 8 [z0.cells]) := hle2 _ _ hG
  have hG2 : G2 u2 = some (.mem 0 0 8 [z0.cells]) := hG2
  simp only [z0, Tr.cells] at hG1 hG2
  simp only [getM_of hG1, getM_of hG2, ti24_f0, ti24_f1, ti24_f2, ti24_f3, ti24_f4, ti24_f5, ti24_f6, ti24_f7, decide_true, beq_self_eq_true, go_sem]
  exact ⟨_, fun i o hi => hle2 _ _ (hle _ _ hi), hk⟩
end
theorem bd73_0 {H : AHeap} : bdA Try.prog ti73 [] [] H = some (.agg [.d (.bool false), .d (.int .i64 0), .nilmap], []) := by
  simp only [bdA, bd73, fillA, setCells, List.zip_nil_right, List.zip_nil_left, Option.map_some, go_sem]
theorem bd89_0 {H : AHeap} : bdA Try.prog ti89 [] [] H = some (.agg [.nilmap, .nilmap], []) := by
  simp only [bdA, bd89, fillA, setCells, List.zip_nil_right, List.zip_nil_left, Option.map_some, go_sem]
theorem bd24_0 {H : AHeap} : bdA Try.prog ti24 [] [] H = some (z0.av, []) := by
  simp only [bdA, bd24, fillA, setCells, List.zip_nil_right, List.zip_nil_left, Option.map_some, go_sem]
  rfl
theorem bs29_2 {k : Nat} {H : AHeap} {n : Nat} : bsA ti29 2 [0, 1] [.nilptr, .ptr k 0 0 0] H n = some (.rs n 0 1 0 2, [(n, .mem 0 0 1 [[.nilptr], [.ptr k 0 0 0]])]) := rfl
theorem bs43_2 {k : Nat} {H : AHeap} {n : Nat} : bsA ti43 2 [0, 1] [.nilptr, .ptr k 0 0 0] H n = some (.rs n 0 1 0 2, [(n, .mem 0 0 1 [[.nilptr], [.ptr k 0 0 0]])]) := rfl
theorem le_up {H G : AHeap} {u : Nat} {o : AObj} (h : AHeap.le H G) (hu : H u = none) : AHeap.le H (G.set u o) := le_set_own h hu
theorem ld_two {H : AHeap} {s k : Nat} (hs : H s = some (.mem 0 0 1 [[.nilptr], [.ptr k 0 0 0]])) {j : Nat} (hj : j < 2) : ldV false 1 (.ptr s 0 j 0) H = some (if j = 0 then .nilptr else .ptr k 0 0 0) := by
  have : j = 0 ∨ j = 1 := by omega
  rcases this with rfl | rfl
  · simp only [getM_of hs, go_sem]
  · simp only [getM_of hs, go_sem]
    rfl
theorem nils_law {n : Int} {t : Tr} : CallsA Try.prog 9 [.d (.int .i64 n), t.av] noHeap fun v _ => v = .d (.bool true) := by
  apply C9
  unfold S9
  refine box_open rfl fun u G hG hle hk => ?_
  have hG : G u = some (.mem 0 0 8 [t.cells]) := hG
  simp only [getM_of hG, ti24_f7, bs_length, go_sem]
  split
  · refine awake_c ?_
    simp only [go_sem]
    exact ⟨_, hle, rfl⟩
  · simp only [bd73_0, go_sem]
    refine box_open rfl fun k G1 hG1 hle1 hk1 => ?_
    have hG1 : G1 k = some (.mem 0 0 3 [[.d (.bool false), .d (.int .i64 0), .nilmap]]) := hG1
    intro s hs
    simp only [bs29_2, go_sem]
    have g2s : (G1.set s (.mem 0 0 1 [[.nilptr], [.ptr k 0 0 0]])) s = some (.mem 0 0 1 [[.nilptr], [.ptr k 0 0 0]]) := set_self
    have hle2 : AHeap.le G1 (G1.set s (.mem 0 0 1 [[.nilptr], [.ptr k 0 0 0]])) := le_set le_refl' hs
    generalize G1.set s (.mem 0 0 1 [[.nilptr], [.ptr k 0 0 0]]) = G2 at g2s hle2 ⊢
    refine loop_ind (fun r vs G' => ∃ i : Nat, i ≤ 2 ∧ r = 2 - i ∧ vs = [.d (.int .i64 n), .ptr u 0 0 0, .rs s 0 1 0 2, .d (.int .i64 (i : Int)), .junk, .junk] ∧ AHeap.le G2 G') (n := 2) ⟨0, by omega, rfl, rfl, le_refl'⟩ ?_
    rintro X r vs G' ⟨i, hi, rfl, rfl, hG'⟩ hX
    have gu : G' u = some (.mem 0 0 8 [t.cells]) := hG' _ _ (hle2 _ _ (hle1 _ _ hG))
    simp only [List.getD_cons_succ, List.getD_cons_zero, go_sem]
    split
    · rename_i hlt
      have hi2 : i < 2 := by omega
      have hix : indexAddrA ti74 1 (.rs s 0 1 0 2) (.d (.int .i64 (i : Int))) = some (.ptr s 0 i 0) := idx_rs (e := 29) rfl (by omega) (by omega)
      have hld := ld_two (hG' _ _ g2s) hi2
      have hv : Nob G' (if i = 0 then .nilptr else .ptr k 0 0 0) := by
        split
        · exact .inl rfl
        · exact .inr ⟨k, _, _, rfl, hG' _ _ (hle2 _ _ hG1)⟩
      rw [hix, optA_some, hld, optA_some]
      generalize (if i = 0 then AV.nilptr else AV.ptr k 0 0 0) = v at hv ⊢
      simp only [frzK_nob hv, getM_of gu, ti24_f7, go_sem]
      refine nobAsk_c hv ?_
      simp only [go_sem]
      intro x hx
      simp only [getM_set, stoA_agg, stoA_get, stoM, setCells, and_self, true_and, Nat.le_refl, Nat.reduceLeDiff, List.cons_append, List.set_cons_zero, List.getElem?_cons_zero, go_sem]
      have g4x : (G'.set x (.mem 0 0 8 [[.d (.int .i64 z0.kind), .d (.int .i64 z0.id), .d (.int .i64 z0.bits), .d (.int .i64 z0.seq), .d (.bool z0.once), .d (.bool z0.fin), .d (.bool z0.ask), .d (.sl z0.nl (bs z0.data))]])) x = some (.mem 0 0 8 [[.d (.int .i64 z0.kind), .d (.int .i64 z0.id), .d (.int .i64 z0.bits), .d (.int .i64 z0.seq), .d (.bool z0.once), .d (.bool z0.fin), .d (.bool z0.ask), .d (.sl z0.nl (bs z0.data))]]) := set_self
      have hle4 : AHeap.le G' (G'.set x (.mem 0 0 8 [[.d (.int .i64 z0.kind), .d (.int .i64 z0.id), .d (.int .i64 z0.bits), .d (.int .i64 z0.seq), .d (.bool z0.once), .d (.bool z0.fin), .d (.bool z0.ask), .d (.sl z0.nl (bs z0.data))]])) := le_up le_refl' hx
      generalize G'.set x (.mem 0 0 8 [[.d (.int .i64 z0.kind), .d (.int .i64 z0.id), .d (.int .i64 z0.bits), .d (.int .i64 z0.seq), .d (.bool z0.once), .d (.bool z0.fin), .d (.bool z0.ask), .d (.sl z0.nl (bs z0.data))]]) = G4 at g4x hle4 ⊢
      have hv4 := hv.le hle4
      have gu4 : G4 u = some (.mem 0 0 8 [t.cells]) := hle4 _ _ gu
      simp only [getM_of gu4, frzK_nob hv4, go_sem]
      refine nobTake_c hv4 ?_
      simp only [frzK_nob hv4, go_sem]
      refine nobTick_c hv4 ?_
      simp only [frzK_nob hv4, go_sem]
      refine nobPieces_c hv4 ?_
      simp only [not_true_eq_false, getM_of g4x, bd24_0, if_false, go_sem]
      refine sameZ_c ?_
      simp only [Bool.not_true, not_true_eq_false, List.length_nil, Int.natCast_zero, if_false, frzK_nob hv4, go_sem]
      refine nobState_c hv4 ?_
      simp only [not_true_eq_false, if_false, frzK_nob hv4, go_sem]
      refine nobForget_c hv4 ?_
      simp only [not_true_eq_false, if_false, frzK_nob hv4, go_sem]
      refine nobCopy_c hv4 ?_
      simp only [nilN_neq, go_sem]
      rw [wrap_i64 (by omega) (by omega)]
      exact hX (2 - (i + 1)) _ _ (by omega) ⟨i + 1, by omega, rfl, rfl, fun j o hj => hle4 _ _ (hG' _ _ hj)⟩
    · rename_i hge
      clear hX
      simp only [bd89_0, go_sem]
      refine box_open rfl fun k2 G5 hG5 hle5 hk5 => ?_
      have hG5 : G5 k2 = some (.mem 0 0 2 [[.nilmap, .nilmap]]) := hG5
      intro s2 hs2
      simp only [bs43_2, go_sem]
      have g6s : (G5.set s2 (.mem 0 0 1 [[.nilptr], [.ptr k2 0 0 0]])) s2 = some (.mem 0 0 1 [[.nilptr], [.ptr k2 0 0 0]]) := set_self
      have hle6 : AHeap.le G5 (G5.set s2 (.mem 0 0 1 [[.nilptr], [.ptr k2 0 0 0]])) := le_set le_refl' hs2
      generalize G5.set s2 (.mem 0 0 1 [[.nilptr], [.ptr k2 0 0 0]]) = G6 at g6s hle6 ⊢
      refine loop_ind (fun r vs G' => ∃ q : Nat, q ≤ 2 ∧ r = 2 - q ∧ vs = [.d (.int .i64 n), .ptr u 0 0 0, .rs s 0 1 0 2, .d (.int .i64 (i : Int)), .rs s2 0 1 0 2, .d (.int .i64 (q : Int))] ∧ AHeap.le G6 G') (n := 2) ⟨0, by omega, rfl, rfl, le_refl'⟩ ?_
      rintro X r vs G7 ⟨q, hq, rfl, rfl, hG7⟩ hX
      have gu7 : G7 u = some (.mem 0 0 8 [t.cells]) := hG7 _ _ (hle6 _ _ (hle5 _ _ gu))
      simp only [List.getD_cons_succ, List.getD_cons_zero, go_sem]
      split
      · rename_i hlt
        have hq2 : q < 2 := by omega
        have hix : indexAddrA ti90 1 (.rs s2 0 1 0 2) (.d (.int .i64 (q : Int))) = some (.ptr s2 0 q 0) := idx_rs (e := 43) rfl (by omega) (by omega)
        have hld := ld_two (hG7 _ _ g6s) hq2
        have hv : Nos G7 (if q = 0 then .nilptr else .ptr k2 0 0 0) := by
          split
          · exact .inl rfl
          · exact .inr ⟨k2, _, rfl, hG7 _ _ (hle6 _ _ hG5)⟩
        simp only [hix, optA_some]
        rw [hld]
        generalize (if q = 0 then AV.nilptr else AV.ptr k2 0 0 0) = v at hv ⊢
        simp only [frzK_nos hv, getM_of gu7, go_sem]
        refine nosTake_c hv ?_
        simp only [frzK_nos hv, go_sem]
        refine nosAnswer_c hv ?_
        simp only [not_true_eq_false, List.length_nil, Int.natCast_zero, if_false, frzK_nos hv, go_sem]
        refine nosTick_c hv ?_
        simp only [not_true_eq_false, if_false, frzK_nos hv, go_sem]
        refine nosRem_c hv ?_
        simp only [not_true_eq_false, List.length_nil, Int.natCast_zero, if_false, frzK_nos hv, go_sem]
        refine nosCopy_c hv ?_
        simp only [nilN_neq, go_sem]
        rw [wrap_i64 (by omega) (by omega)]
        exact hX (2 - (q + 1)) _ _ (by omega) ⟨q + 1, by omega, rfl, rfl, hG7⟩
      · refine sameA_c ?_
        simp only [go_sem]
        refine sameS_c ?_
        simp only [go_sem]
        refine awake_c ?_
        simp only [go_sem]
        exact ⟨noHeap, fun _ _ h => (by cases h), rfl⟩
theorem nils_row (xs : List Dat) (h : DatOk Try.prog 9 3 xs) (ys : List Dat) (h2 : DatOk Try.prog 9 24 ys) : CallsA Try.prog 9 [argAV (aggT Try.prog 3) xs, argAV (aggT Try.prog 24) ys] noHeap fun v _ => v = .d (.bool true) := by
  obtain ⟨t, ht, _⟩ := tr_open h2
  rw [datOk_int Try.underlying3] at h
  obtain ⟨n, rfl, _⟩ := h
  rw [ht, show aggT Try.prog 3 = false by kernel_rfl]
  exact nils_law
end Go.Proofs.Ytofjhihigmimbaa

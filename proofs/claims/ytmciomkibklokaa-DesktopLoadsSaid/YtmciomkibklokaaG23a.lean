/- Several of my texts as one. -/
import Derived.Test.YtmciomkibklokaaM23x
set_option linter.unnecessarySimpa false
/- A desktop's programs: none, isId, the search, Delete. -/
set_option autoImplicit false
set_option maxRecDepth 100000
set_option linter.unusedVariables false
set_option linter.unusedSimpArgs false
set_option linter.unnecessarySimpa false
namespace Go.Proofs.Ytmciomkibklokaa
open Go Go.AM Go.Proofs
section
variable {H G : AHeap} {k m : Nat} {pv : AV} {zs : List Prg} {K : AV → AHeap → Prop}
theorem within_c {n a b : Int} (hk : K (.d (.bool (decide (a ≤ n ∧ n ≤ b)))) H) : CallsA Try.prog 51 [.d (.int .i64 n), .d (.int .i64 a), .d (.int .i64 b)] H K := by
  apply C51
  unfold S51
  simp only [go_sem]
  by_cases h1 : n ≥ a
  · rw [if_pos h1]
    refine ⟨_, le_refl', ?_⟩
    rw [show decide (n ≤ b) = decide (a ≤ n ∧ n ≤ b) by have : a ≤ n := h1; simp [this]]
    exact hk
  · rw [if_neg h1]
    refine ⟨_, le_refl', ?_⟩
    rw [show false = decide (a ≤ n ∧ n ≤ b) by have : ¬ a ≤ n := h1; simp [this]]
    exact hk
theorem isId_c {n : Int} (hk : K (.d (.bool (decide (1 ≤ n ∧ n ≤ 4294967295)))) H) : CallsA Try.prog 26 [.d (.int .i64 n)] H K := by
  apply C26
  unfold S26
  simp only [go_sem]
  refine within_c ?_
  exact ⟨_, le_refl', hk⟩
theorem none_c (hB : DB H k m pv zs) (hk : K (.d (.bool false)) H) : CallsA Try.prog 25 [.ptr k 0 0 0] H K := by
  apply C25
  unfold S25
  have l2 : ldV false 1 (.ptr k 0 0 2) H = some (.map m) := ldV_at hB.base rfl rfl
  simp only [nilA, isNil, nilCkA, ti55_f2, go_sem, l2]
  exact ⟨_, le_refl', hk⟩
/-- Is it the program of a creator and a file? -/
abbrev isP (c : ByteArray) (f : Int) (x : Prg) : Bool := decide (x.1 = c ∧ x.2.2 = f)
theorem prog1_c {c : ByteArray} {f : Int} {x : Prg} {u v : Nat} (hu : H u = some (.mem 0 0 1 [[.d (.str c)]])) (hv : H v = some (.mem 0 0 1 [[.d (.int .i64 f)]])) (hk : ∀ H', AHeap.le H H' → K (.d (.bool (isP c f x))) H') :
    CallsA Try.prog 58 [.agg ((pdat x).map AV.d), .ptr u 0 0 0, .ptr v 0 0 0] H K := by
  apply C58
  unfold S58
  refine box_open rfl fun n G hG hle hn => ?_
  have g0 : ldV false 1 (.ptr n 0 0 0) G = some (.d (.str x.1)) := ldV_at hG rfl rfl
  have g2 : ldV false 1 (.ptr n 0 0 2) G = some (.d (.int .i64 x.2.2)) := ldV_at hG rfl rfl
  have gu : ldV false 1 (.ptr u 0 0 0) G = some (.d (.str c)) := ldV_at (hle _ _ hu) rfl rfl
  have gv : ldV false 1 (.ptr v 0 0 0) G = some (.d (.int .i64 f)) := ldV_at (hle _ _ hv) rfl rfl
  simp only [ti62_f0, ti62_f2, Nat.zero_add, g0, g2, gu, gv, optA_some, strA_eql, intA_eql, strEq, ifA_ite, ret1_d]
  by_cases h1 : x.1 = c
  · simp only [h1, decide_true, if_true, ifA_t]
    refine ⟨_, le_refl', ?_⟩
    have := hk G hle
    simp only [isP, h1, true_and] at this
    exact this
  · simp only [h1, decide_false, Bool.false_eq_true, if_false, ifA_f]
    refine ⟨_, le_refl', ?_⟩
    have := hk G hle
    simp only [isP, h1, false_and, decide_false] at this
    exact this
end
end Go.Proofs.Ytmciomkibklokaa
/- A desktop's programs: the search, Delete, PutProgram. -/
set_option autoImplicit false
set_option maxRecDepth 100000
set_option linter.unusedVariables false
set_option linter.unusedSimpArgs false
set_option linter.unnecessarySimpa false
namespace Go.Proofs.Ytmciomkibklokaa
open Go Go.AM Go.Proofs
section
variable {H G : AHeap} {k m : Nat} {pv : AV} {zs : List Prg} {K : AV → AHeap → Prop}
/-- The place of a program, or -1. -/
def fidx (c : ByteArray) (f : Int) (zs : List Prg) : Int := match zs.findIdx? (isP c f) with | some i => i | none => -1
theorem callA_58 {u v : Nat} {x : AV} : callA (CallsA Try.prog) pol57 (.func 58 [] [.ptr u 0 0 0, .ptr v 0 0 0]) [x] H K = frzLK [x, .ptr u 0 0 0, .ptr v 0 0 0] H (fun l H' => CallsA Try.prog 58 l H' K) := rfl
theorem ldM3 {i ver j : Nat} {L : List (List AV)} {cs : List AV} (h : H i = some (.mem ver 0 3 L)) (hc : L[j]? = some cs) (h3 : cs.length = 3) : ldV true 3 (.ptr i ver j 0) H = some (.agg cs) := by
  simp only [ldV, h, if_true, hc, partV, List.drop_zero]
  rw [List.take_of_length_le (by omega), h3]
  simp
theorem Idx_c {u v : Nat} {c : ByteArray} {f : Int} (hM : Ms 3 H pv (zs.map pdat)) (hu : H u = some (.mem 0 0 1 [[.d (.str c)]])) (hv : H v = some (.mem 0 0 1 [[.d (.int .i64 f)]])) (hz : zs.length < 2 ^ 40)
    (hk : ∀ H', AHeap.le H H' → K (.d (.int .i64 (fidx c f zs))) H') : CallsA Try.prog 57 [pv, .func 58 [] [.ptr u 0 0 0, .ptr v 0 0 0]] H K := by
  apply C57
  unfold S57
  simp only [hM.len, List.length_map, optA_some]
  refine loop_ind (fun n vs G => ∃ j : Nat, j ≤ zs.length ∧ n = zs.length - j ∧ vs = [pv, .func 58 [] [.ptr u 0 0 0, .ptr v 0 0 0], .d (.int .i64 (zs.length : Int)), .d (.int .i64 (j : Int))] ∧ AHeap.le H G ∧ ∀ q, q < j → ∀ x, zs[q]? = some x → isP c f x = false) (n := zs.length) ⟨0, Nat.zero_le _, rfl, rfl, le_refl', fun q hq => by omega⟩ ?_
  rintro X n vs G ⟨j, hj, rfl, rfl, hle, hno⟩ hX
  simp only [List.getD_cons_succ, List.getD_cons_zero, intA_lss, optA_some, ifA_bool']
  by_cases hlt : j < zs.length
  · have hlt' : (j : Int) < zs.length := by omega
    rw [if_pos (by simpa using hlt')]
    have hx : zs[j]? = some zs[j] := List.getElem?_eq_getElem hlt
    obtain ⟨i, ver, L, e1, e2, e3, e4⟩ := (hM.le hle).at (ti := ti52) (et := 62) rfl (j := j) (c := pdat zs[j]) (by rw [List.getElem?_map, hx]; rfl)
    simp only [e1, optA_some, ldM3 e3 e4 rfl, callA_58]
    simp only [pdat, go_sem]
    refine prog1_c (x := zs[j]) (hle _ _ hu) (hle _ _ hv) fun G2 hle2 => ?_
    by_cases hp : isP c f zs[j] = true
    · rw [hp]
      simp only [ifA_t, ret1_d]
      refine ⟨_, le_refl', ?_⟩
      have hf : zs.findIdx? (isP c f) = some j := by
        rw [List.findIdx?_eq_some_iff_getElem]
        exact ⟨hlt, hp, fun q hq => by have := hno q hq zs[q] (List.getElem?_eq_getElem (by omega)); simp [this]⟩
      have := hk G2 (le_trans' hle hle2)
      rw [fidx, hf] at this
      exact this
    · have hp : isP c f zs[j] = false := by simpa using hp
      rw [hp]
      simp only [ifA_f]
      rw [wrap_i64 (by omega) (by omega)]
      refine hX (zs.length - (j + 1)) _ _ (by omega) ⟨j + 1, hlt, rfl, rfl, le_trans' hle hle2, fun q hq x hx' => ?_⟩
      by_cases hqj : q = j
      · subst hqj; rw [hx] at hx'; cases hx'; exact hp
      · exact hno q (by omega) x hx'
  · have hlt' : ¬ (j : Int) < zs.length := by omega
    rw [if_neg (by simpa using hlt')]
    simp only [ret1_d]
    refine ⟨_, le_refl', ?_⟩
    have hf : zs.findIdx? (isP c f) = none := by
      rw [List.findIdx?_eq_none_iff]
      intro x hx
      obtain ⟨q, hq⟩ := List.getElem?_of_mem hx
      exact hno q (by have := (List.getElem?_eq_some_iff.1 hq).1; omega) x hq
    have := hk G hle
    rw [fidx, hf] at this
    exact this
theorem program_c {c : ByteArray} {f : Int} (hB : DB H k m pv zs) (hz : zs.length < 2 ^ 40) (hk : ∀ H', AHeap.le H H' → K (.d (.int .i64 (fidx c f zs))) H') : CallsA Try.prog 27 [.ptr k 0 0 0, .d (.str c), .d (.int .i64 f)] H K := by
  apply C27
  unfold S27
  refine box_open rfl fun u G1 hG1 hle1 hu => box_open rfl fun v G2 hG2 hle2 hv => ?_
  have l1 : ldV false 1 (.ptr k 0 0 1) G2 = some pv := ldV_at (hle2 _ _ (hle1 _ _ hB.base)) rfl rfl
  simp only [nilCkA, ti55_f1, Nat.zero_add, l1, optA_some]
  refine Idx_c ((hB.prgs.le hle1).le hle2) (hle2 _ _ hG1) hG2 hz fun H' hle3 => ?_
  simp only [ret1_d]
  exact ⟨_, le_refl', hk H' (le_trans' (le_trans' hle1 hle2) hle3)⟩
/-- A slice that an object keeps, as it lies. -/
theorem Ms.pos {sz : Nat} {l : List (List Dat)} (h : Ms sz H pv l) (hl : 0 < l.length) : ∃ i ver L, pv = .rs i ver sz 0 l.length ∧ H i = some (.mem ver 0 sz L) ∧ L.take l.length = avs l ∧ l.length ≤ L.length := by
  rcases h.2 with ⟨rfl, rfl⟩ | h
  · simp at hl
  · exact h
theorem Delete_c {i : Nat} (hM : Ms 3 H pv (zs.map pdat)) (hi : i < zs.length) (hz : zs.length < 2 ^ 40)
    (hk : ∀ v' H', Ms 3 H' v' ((zs.eraseIdx i).map pdat) → (∀ j, (H j).isSome → idOf pv ≠ some j → H' j = H j) → (∀ j, idOf v' = some j → idOf pv = some j) → K v' H') :
    CallsA Try.prog 28 [pv, .d (.int .i64 (i : Int)), .d (.int .i64 ((i : Int) + 1))] H K := by
  obtain ⟨o, ver, L, rfl, h2, h3, h4⟩ := Ms.pos hM (by rw [List.length_map]; omega)
  rw [List.length_map] at h3 h4 ⊢
  apply C28m
  unfold S28m
  have hLl : (L.take zs.length) = avs (zs.map pdat) := h3
  simp only [lenSl_rs, optA_some, intA_eql, ifA_ite, drA_true]
  rw [show sliceA 3 (.rs o ver 3 0 zs.length) (some (.d (.int .i64 (i : Int)))) (some (.d (.int .i64 ((i : Int) + 1)))) (some (.d (.int .i64 (zs.length : Int)))) H = some .junk by
    simp only [sliceA, h2, if_true, bnd]
    rw [if_pos (by omega), if_pos (by omega), if_pos (by omega)]
    simp only [Int.toNat_natCast]
    rw [if_pos (by omega)]]
  rw [optA_some, if_neg (by omega)]
  rw [show sliceA 3 (.rs o ver 3 0 zs.length) none (some (.d (.int .i64 (i : Int)))) none H = some (.rs o ver 3 0 i) by
    simp only [sliceA, h2, if_true, bnd]
    rw [if_pos (by omega)]
    simp only [Int.toNat_natCast]
    rw [if_pos ⟨Nat.zero_le _, by omega, trivial⟩]
    simp]
  rw [show sliceA 3 (.rs o ver 3 0 zs.length) (some (.d (.int .i64 ((i : Int) + 1)))) none none H = some (.rs o ver 3 (i + 1) (zs.length - (i + 1))) by
    simp only [sliceA, h2, if_true, bnd]
    rw [if_pos (by omega), show ((i : Int) + 1).toNat = i + 1 by omega]
    simp only
    rw [if_pos ⟨by omega, by omega, trivial⟩]
    simp]
  simp only [optA_some]
  have hLn : (L.drop (i + 1)).take (zs.length - (i + 1)) = avs ((zs.drop (i + 1)).map pdat) := by
    have : (L.take zs.length).drop (i + 1) = (L.drop (i + 1)).take (zs.length - (i + 1)) := by rw [List.drop_take]
    rw [← this, h3, avs, avs, ← List.map_drop, ← List.map_drop]
  have hLi : L.take i = avs ((zs.take i).map pdat) := by
    have : (L.take zs.length).take i = L.take i := by rw [List.take_take, Nat.min_eq_left (by omega)]
    rw [← this, h3, avs, avs, ← List.map_take, ← List.map_take]
  have hyl : (avs ((zs.drop (i + 1)).map pdat)).length = zs.length - (i + 1) := by rw [avs_length]; simp
  intro n hn
  have happ : apA 3 32 (.rs o ver 3 0 i) (.rs o ver 3 (i + 1) (zs.length - (i + 1))) H n =
      some (.rs o ver 3 0 (zs.length - 1), [(o, .mem ver 0 3 (avs ((zs.eraseIdx i).map pdat) ++ L.drop (zs.length - 1)))]) := by
    have hel : elemsA (.rs o ver 3 (i + 1) (zs.length - (i + 1))) H = some (avs ((zs.drop (i + 1)).map pdat)) := by
      simp only [elemsA, h2, if_true, hLn, hyl]
    have hall : ((avs ((zs.drop (i + 1)).map pdat)).all fun y => y.length == 3) = true := by
      rw [List.all_eq_true]
      intro y hy
      simp only [avs, List.mem_map] at hy
      obtain ⟨_, ⟨_, _, rfl⟩, rfl⟩ := hy
      rfl
    simp only [apA, hel, hall, Nat.reduceLT, and_self, if_true, appA, h2, hyl, Nat.zero_add]
    rw [if_pos ⟨trivial, trivial, by omega, by omega⟩, hLi]
    have e1 : i + (zs.length - (i + 1)) = zs.length - 1 := by omega
    have e2 : avs ((zs.take i).map pdat) ++ avs ((zs.drop (i + 1)).map pdat) = avs ((zs.eraseIdx i).map pdat) := by
      rw [← avs_append, ← List.map_append, List.eraseIdx_eq_take_drop_succ]
    rw [e1, e2]
  show stepK (apA 3 32 (.rs o ver 3 0 i) (.rs o ver 3 (i + 1) (zs.length - (i + 1))) H n) H _
  rw [happ]
  have hel : (zs.eraseIdx i).length = zs.length - 1 := List.length_eraseIdx_of_lt hi
  simp only [stepK_some, AHeap.sets, lenSl_rs, optA_some]
  have hmem : (H.set o (.mem ver 0 3 (avs ((zs.eraseIdx i).map pdat) ++ L.drop (zs.length - 1)))) o = some (.mem ver 0 3 (avs ((zs.eraseIdx i).map pdat) ++ L.drop (zs.length - 1))) := set_self
  have hlen : (avs ((zs.eraseIdx i).map pdat) ++ L.drop (zs.length - 1)).length = L.length := by
    rw [List.length_append, avs_length, List.length_map, hel, List.length_drop]; omega
  rw [show sliceA 3 (.rs o ver 3 0 (zs.length - 1)) (some (.d (.int .i64 ((zs.length - 1 : Nat) : Int)))) (some (.d (.int .i64 (zs.length : Int)))) none (H.set o (.mem ver 0 3 (avs ((zs.eraseIdx i).map pdat) ++ L.drop (zs.length - 1)))) = some (.rs o ver 3 (zs.length - 1) 1) by
    simp only [sliceA, hmem, if_true, bnd, Int.natCast_nonneg, Int.toNat_natCast]
    rw [if_pos ⟨by omega, by rw [hlen]; omega, trivial⟩, show zs.length - (zs.length - 1) = 1 by omega]
    simp]
  simp only [optA_some]
  rw [show clA ti62 (.rs o ver 3 (zs.length - 1) 1) (H.set o (.mem ver 0 3 (avs ((zs.eraseIdx i).map pdat) ++ L.drop (zs.length - 1)))) = some (.tup [], [(o, .mem ver 0 3 ((avs ((zs.eraseIdx i).map pdat) ++ L.drop (zs.length - 1)).take (zs.length - 1) ++ repl 1 ti62.zero ++ (avs ((zs.eraseIdx i).map pdat) ++ L.drop (zs.length - 1)).drop (zs.length - 1 + 1)))]) by
    simp only [clA, clrA, hmem, Nat.succ_ne_zero, if_false]
    rw [if_pos ⟨trivial, trivial, by first | trivial | rfl, by decide, Nat.zero_le _, by rw [hlen]; omega⟩]]
  simp only [stepK_some, AHeap.sets]
  have ht : (avs ((zs.eraseIdx i).map pdat) ++ L.drop (zs.length - 1)).take (zs.length - 1) = avs ((zs.eraseIdx i).map pdat) := by
    have : (avs ((zs.eraseIdx i).map pdat)).length = zs.length - 1 := by rw [avs_length, List.length_map, hel]
    rw [← this]; exact List.take_left
  rw [ht]
  refine ⟨_, le_refl', hk _ _ ⟨?_, .inr ⟨o, ver, _, by rw [List.length_map, hel], set_self, ?_, ?_⟩⟩ ?_ ?_⟩
  · intro c hc
    obtain ⟨x, _, rfl⟩ := List.mem_map.1 hc
    rfl
  · have : (avs ((zs.eraseIdx i).map pdat)).length = ((zs.eraseIdx i).map pdat).length := avs_length
    rw [← this, List.append_assoc]; exact List.take_left
  · simp only [List.length_append, avs_length]; omega
  · intro j hj hne
    have : j ≠ o := fun he => hne (by rw [he]; rfl)
    rw [set_ne this, set_ne this]
  · intro j hj; exact hj
end
end Go.Proofs.Ytmciomkibklokaa
/- PutProgram. -/
set_option autoImplicit false
set_option maxRecDepth 100000
set_option linter.unusedVariables false
set_option linter.unusedSimpArgs false
set_option linter.unnecessarySimpa false
namespace Go.Proofs.Ytmciomkibklokaa
open Go Go.AM Go.Proofs
section
variable {H G : AHeap} {k m : Nat} {pv : AV} {zs : List Prg} {K : AV → AHeap → Prop}
theorem New_c (hk : ∀ k m H', DB H' k m (.d (.sl true [])) [] → AHeap.le H H' → K (.ptr k 0 0 0) H') : CallsA Try.prog 7 [] H K := by
  apply C7
  unfold S7
  intro n hn
  simp only [bd55, cell53, bdA, fillA, setCells, List.zip_cons_cons, List.zip_nil_right, List.zip_nil_left, Option.map_some, and_self, Nat.le_refl, Nat.reduceLeDiff, List.cons_append, go_sem]
  intro u hu
  simp only [boxA, go_sem]
  obtain ⟨h1, h2⟩ := set_none.1 hu
  refine ⟨_, le_refl', hk u n _ ⟨set_self, Ms.nil, ⟨[], 0, ?_⟩, by simp [idOf]⟩ fun i x hi => ?_⟩
  · rw [set_ne (Ne.symm h1), set_self]
  · rw [set_ne (le_ne hi h2), set_ne (le_ne hi hn)]; exact hi
theorem DB.keep {H' : AHeap} (hB : DB H k m pv zs) (hk : H' k = H k) (hm : H' m = H m) (hp : ∀ i, idOf pv = some i → H' i = H i) : DB H' k m pv zs :=
  ⟨by rw [hk]; exact hB.base, hB.prgs.keep hp, by rw [hm]; exact hB.map, hB.sep⟩
theorem DB.le {H' : AHeap} (hB : DB H k m pv zs) (hle : AHeap.le H H') : DB H' k m pv zs := by
  refine ⟨hle _ _ hB.base, hB.prgs.le hle, ?_, hB.sep⟩
  obtain ⟨es, cl, h⟩ := hB.map
  exact ⟨es, cl, hle _ _ h⟩
theorem DB.km (hB : DB H k m pv zs) : m ≠ k := by
  rintro rfl
  obtain ⟨es, cl, h⟩ := hB.map
  rw [hB.base] at h; cases h
theorem DB.pm (hB : DB H k m pv zs) : idOf pv ≠ some m := fun h => by
  obtain ⟨ver, L, h2⟩ := hB.prgs.isObj h
  obtain ⟨es, cl, h⟩ := hB.map
  rw [h2] at h; cases h
/-- Programs behind another one. -/
theorem append_c {c : ByteArray} {n f : Int} {X : AV → AHeap → Prop} (hB : DB H k m pv zs) (hz : zs.length < 2 ^ 30) (hk : ∀ pv' H', DB H' k m pv' (zs ++ [(c, n, f)]) → Fr [4] H H' → X (.d (.int .i64 0)) H') :
    optA (ldV false 1 (.ptr k 0 0 1) H) fun v35 => stepK (bdA Try.prog ti62 [0, 1, 2] [.d (.str c), .d (.int .i64 n), .d (.int .i64 f)] H) H fun v36 H37 => newK H37 (fun n40 => bsA ti62 1 [0] [v36] H37 n40) fun v38 H39 => newK H39 (fun n43 => apA 3 32 v35 v38 H39 n43) fun v41 H42 => stepK (stoA false 1 (.ptr k 0 0 1) v41 H42) H42 fun v46 H47 => retF [.d (.int .i64 0)] H47 X := by
  rw [ldV_at hB.base rfl rfl, optA_some]
  simp only [bd62, cell9, cell3, bdA, fillA, setCells, List.zip_cons_cons, List.zip_nil_right, List.zip_nil_left, Option.map_some, and_self, Nat.le_refl, Nat.reduceLeDiff, List.cons_append, go_sem]
  intro q hq
  show stepK (bsA ti62 1 [0] [.agg [.d (.str c), .d (.int .i64 n), .d (.int .i64 f)]] H q) H _
  rw [show bsA ti62 1 [0] [.agg [.d (.str c), .d (.int .i64 n), .d (.int .i64 f)]] H q = some (.lit [pdat (c, n, f)], []) from rfl]
  simp only [stepK_some, AHeap.sets]
  refine hB.prgs.app (ys := [pdat (c, n, f)]) rfl (by decide) (by decide) (by intro x hx; cases List.mem_singleton.1 hx; rfl) (by simp only [mostBytes, List.length_map, List.length_singleton]; omega) fun v' H' hM hfr hid hF => ?_
  have hk' : H' k = some (.mem 0 0 3 [[.d (.sl true []), pv, .map m]]) := (hfr k (by rw [hB.base]; rfl) hB.sep).trans hB.base
  have hsep : idOf v' ≠ some k := fun h => by
    rcases hid k h with h | h
    · exact hB.sep h
    · rw [hB.base] at h; cases h
  rw [stoA_at hk' (Nat.le_refl 0) rfl (show 1 < 3 by decide) hM.st.1 hM.st.2]
  simp only [stepK_some, AHeap.sets, finA]
  refine ⟨_, le_refl', hk v' _ ⟨set_self, ?_, ?_, hsep⟩ (hF.put hk' (by simp [osz]))⟩
  · rw [List.map_append]
    exact hM.keep fun i hi => set_ne (fun he => hsep (he ▸ hi))
  · obtain ⟨es, cl, hm⟩ := hB.map
    exact ⟨es, cl, by rw [set_ne hB.km, hfr m (by rw [hm]; rfl) hB.pm]; exact hm⟩
/-- The programs behind PutProgram. -/
def putP (c : ByteArray) (n f : Int) (zs : List Prg) : List Prg := match zs.findIdx? (isP c f) with
  | some i => zs.eraseIdx i ++ [(c, n, f)]
  | none => zs ++ [(c, n, f)]
theorem Put_c {c : ByteArray} {n f : Int} (hB : DB H k m pv zs) (hz : zs.length < 200) (hc : c.size = 4) (hf : 1 ≤ f ∧ f ≤ 4294967295) (hk : ∀ pv' H', DB H' k m pv' (putP c n f zs) → Fr [4] H H' → K (.d (.int .i64 0)) H') :
    CallsA Try.prog 8 [.ptr k 0 0 0, .d (.str c), .d (.int .i64 n), .d (.int .i64 f)] H K := by
  apply C8
  unfold S8
  simp only [frzLK_ptr, frzLK_nil]
  refine none_c hB ?_
  simp only [lenStr_d, hc, intA_neq, optA_some, ifA_f, ifA_ite]
  rw [if_neg (by decide)]
  simp only [frzLK_d, frzLK_nil]
  refine isId_c ?_
  simp only [hf, and_self, decide_true, unA_not, Bool.not_true, optA_some, ifA_f, frzLK_ptr, frzLK_d, frzLK_nil]
  refine program_c hB (by omega) fun H1 hle => ?_
  have hB1 := hB.le hle
  have e1 : nilCkA (.ptr k 0 0 0) = some (.ptr k 0 0 0) := rfl
  cases hx : zs.findIdx? (isP c f) with
  | none =>
    have hi : fidx c f zs = -1 := by simp only [fidx, hx]
    simp only [hi, intA_lss, intA_geq, optA_some, show decide ((-1 : Int) < 0) = true from rfl, show decide ((0 : Int) ≤ -1) = false from rfl, show decide ((-1 : Int) ≥ 0) = false from rfl, ifA_t, ifA_f, e1, ti55_f1, Nat.zero_add]
    rw [ldV_at hB1.base (by rfl) (by rfl : [AV.d (.sl true []), pv, .map m][1]? = some pv)]
    simp only [optA_some, hB1.prgs.len, List.length_map, intA_eql]
    rw [show decide ((zs.length : Int) = 200) = false by rw [decide_eq_false]; omega, ifA_f]
    have := append_c (X := K) (c := c) (n := n) (f := f) hB1 (by omega) fun pv' H' h1 h2 => hk pv' H' (by simpa only [putP, hx] using h1) (h2.le_left hle)
    rw [ldV_at hB1.base (by rfl) (by rfl : [AV.d (.sl true []), pv, .map m][1]? = some pv), optA_some] at this
    exact this
  | some i =>
    have hi : fidx c f zs = i := by simp only [fidx, hx]
    have hil : i < zs.length := (List.findIdx?_eq_some_iff_getElem.1 hx).1
    simp only [hi, intA_lss, intA_geq, intA_add, optA_some, show decide ((i : Int) < 0) = false by (rw [decide_eq_false]; omega), show decide ((i : Int) ≥ 0) = true by (rw [decide_eq_true]; omega), ifA_t, ifA_f, e1, ti55_f1, Nat.zero_add]
    rw [ldV_at hB1.base (by rfl) (by rfl : [AV.d (.sl true []), pv, .map m][1]? = some pv)]
    simp only [optA_some]
    rw [wrap_i64 (by omega) (by omega)]
    refine Delete_c hB1.prgs hil (by omega) fun v' H2 hM hfr hid => ?_
    have hk2 : H2 k = some (.mem 0 0 3 [[.d (.sl true []), pv, .map m]]) := (hfr k (by rw [hB1.base]; rfl) hB1.sep).trans hB1.base
    have hsep : idOf v' ≠ some k := fun h => hB1.sep (hid k h)
    rw [stoA_at hk2 (Nat.le_refl 0) rfl (show 1 < 3 by decide) hM.st.1 hM.st.2]
    simp only [stepK_some, AHeap.sets]
    have hB2 : DB (H2.set k (.mem 0 0 3 [[.d (.sl true []), v', .map m]])) k m v' (zs.eraseIdx i) := by
      refine ⟨set_self, hM.keep fun j hj => set_ne (fun he => hsep (he ▸ hj)), ?_, hsep⟩
      obtain ⟨es, cl, hm⟩ := hB1.map
      exact ⟨es, cl, by rw [set_ne hB1.km, hfr m (by rw [hm]; rfl) hB1.pm]; exact hm⟩
    have hF : Fr [4] H1 (H2.set k (.mem 0 0 3 [[.d (.sl true []), v', .map m]])) := fun j o hj ho => by
      have hjk : j ≠ k := fun he => by rw [he, hB1.base] at hj; cases hj; exact ho (by simp [osz])
      rw [set_ne hjk, hfr j (by rw [hj]; rfl) fun he => ?_]
      · exact hj
      · obtain ⟨ver, L, h2⟩ := hB1.prgs.isObj he
        rw [h2] at hj; cases hj; exact ho (by simp [osz])
    exact append_c (X := K) (c := c) (n := n) (f := f) hB2 (by rw [List.length_eraseIdx_of_lt hil]; omega) fun pv' H' h1 h2 => hk pv' H' (by simpa only [putP, hx] using h1) ((hF.trans h2).le_left hle)
end
end Go.Proofs.Ytmciomkibklokaa
/- The law: the program that was put last is found first. -/
set_option autoImplicit false
set_option maxRecDepth 100000
set_option linter.unusedVariables false
set_option linter.unusedSimpArgs false
set_option linter.unnecessarySimpa false
namespace Go.Proofs.Ytmciomkibklokaa
open Go Go.AM Go.Proofs Go.RowKit
/-! ### plain -/
def files (zs : List Prg) : List Int := zs.map (·.2.2)
structure Nice (c : ByteArray) (zs : List Prg) : Prop where
  all : ∀ x ∈ zs, x.1 = c
  nd : (files zs).Nodup
theorem findIdx_files {c : ByteArray} {f : Int} : ∀ {zs : List Prg}, (∀ x ∈ zs, x.1 = c) → zs.findIdx? (isP c f) = (files zs).findIdx? (fun y => y == f)
  | [], _ => rfl
  | x :: r, h => by
    have h1 := h x (by simp)
    have ih := findIdx_files (f := f) fun y hy => h y (List.mem_cons_of_mem _ hy)
    simp only [files, List.map_cons, List.findIdx?_cons, isP, h1, true_and] at ih ⊢
    rw [ih]
    by_cases hf : x.2.2 = f <;> simp [hf]
theorem erase_filter : ∀ {l : List Int} {f : Int} {i : Nat}, l.Nodup → l.findIdx? (fun y => y == f) = some i → l.eraseIdx i = l.filter (fun y => y != f)
  | [], f, i, _, h => by simp at h
  | x :: r, f, i, hn, h => by
    rw [List.nodup_cons] at hn
    rw [List.findIdx?_cons] at h
    by_cases hx : x = f
    · subst hx
      simp only [beq_self_eq_true, if_true, Option.some.injEq] at h
      subst h
      simp only [List.eraseIdx_zero, List.tail_cons, bne_self_eq_false, Bool.false_eq_true, not_false_eq_true, List.filter_cons_of_neg]
      rw [List.filter_eq_self.2]
      intro y hy
      simp only [bne_iff_ne]
      rintro rfl
      exact hn.1 hy
    · have hb : (x == f) = false := by simpa using hx
      rw [hb] at h
      simp only [Bool.false_eq_true, if_false, Option.map_eq_some_iff] at h
      obtain ⟨j, hj, rfl⟩ := h
      rw [List.eraseIdx_cons_succ, erase_filter hn.2 hj, List.filter_cons_of_pos (by simpa using hx)]
theorem filter_none : ∀ {l : List Int} {f : Int}, l.findIdx? (fun y => y == f) = none → l.filter (fun y => y != f) = l := by
  intro l f h
  rw [List.findIdx?_eq_none_iff] at h
  rw [List.filter_eq_self]
  intro y hy
  have := h y hy
  simpa using this
theorem files_put {c : ByteArray} {n f : Int} {zs : List Prg} (h : Nice c zs) : files (putP c n f zs) = (files zs).filter (fun y => y != f) ++ [f] := by
  unfold putP
  rw [findIdx_files h.all]
  cases hx : (files zs).findIdx? (fun y => y == f) with
  | none => rw [filter_none hx]; simp [files]
  | some i =>
    rw [← erase_filter h.nd hx]
    simp only [files, List.map_append, map_erase, List.map_cons, List.map_nil]
theorem Nice.put {c : ByteArray} {n f : Int} {zs : List Prg} (h : Nice c zs) : Nice c (putP c n f zs) := by
  refine ⟨fun x hx => ?_, ?_⟩
  · unfold putP at hx
    split at hx
    · rcases List.mem_append.1 hx with hx | hx
      · exact h.all x (List.mem_of_mem_eraseIdx hx)
      · rw [List.mem_singleton.1 hx]
    · rcases List.mem_append.1 hx with hx | hx
      · exact h.all x hx
      · rw [List.mem_singleton.1 hx]
  · rw [files_put h]
    rw [List.nodup_append]
    refine ⟨h.nd.filter _, by simp, ?_⟩
    intro a ha b hb
    rw [List.mem_singleton.1 hb]
    simp only [List.mem_filter, bne_iff_ne] at ha
    exact ha.2
theorem put_len {c : ByteArray} {n f : Int} {zs : List Prg} : (putP c n f zs).length ≤ zs.length + 1 := by
  unfold putP
  split
  · have := List.length_eraseIdx_le zs ‹Nat›
    simp; omega
  · simp
theorem wrap64_small {x : Int} (h1 : 0 ≤ x) (h2 : x < 2 ^ 40) : wrap64 x = x := by unfold wrap64; omega
theorem look_all {c : ByteArray} : ∀ {l : List Prg} {s : Nat}, (∀ x ∈ l, x.1 = c) → s < 2 ^ 40 → look c l ((s : Int) + 1) = l[s]?
  | [], s, _, _ => by simp [look]
  | x :: r, s, h, hs => by
    have h1 := h x (by simp)
    simp only [look, h1, if_true]
    rw [show (s : Int) + 1 - 1 = s by omega, wrap64_small (by omega) (by omega)]
    cases s with
    | zero => simp
    | succ s =>
      rw [if_neg (by omega)]
      have := look_all (c := c) (l := r) (s := s) (fun y hy => h y (List.mem_cons_of_mem _ hy)) (by omega)
      rw [show ((s + 1 : Nat) : Int) = (s : Int) + 1 by omega, this]
      simp
end Go.Proofs.Ytmciomkibklokaa
/- DesktopLatest: the walk. -/
set_option autoImplicit false
set_option maxRecDepth 100000
set_option linter.unusedVariables false
set_option linter.unusedSimpArgs false
set_option linter.unnecessarySimpa false
namespace Go.Proofs.Ytmciomkibklokaa
open Go Go.AM Go.Proofs Go.RowKit
theorem ite_of {c : Prop} [Decidable c] {A B : Prop} (h1 : c → A) (h2 : ¬ c → B) : if c then A else B := by
  split
  · exact h1 ‹_›
  · exact h2 ‹_›
section
variable {H G : AHeap} {k m : Nat} {pv : AV} {zs : List Prg} {K : AV → AHeap → Prop}
abbrev abcd : ByteArray := ⟨#[65, 66, 67, 68]⟩
theorem First_c (hk : ∀ H', K (.d (.bool true)) H') : CallsA Try.prog 6 [] H K := by
  apply C6
  unfold S6
  simp only [frzLK_nil]
  refine New_c fun k m H1 hB hle => ?_
  simp only [nilA, isNil, optA_some, ifA_f, frzLK_ptr, frzLK_d, frzLK_nil]
  refine Put_c hB (by decide) rfl (by decide) fun pv1 H2 hB2 hF => ?_
  simp only [intA_neq, optA_some, ifA_bool', not_true_eq_false, decide_false, Bool.false_eq_true, if_false, frzLK_ptr, frzLK_d, frzLK_nil, ne_eq]
  have e1 : putP abcd 1 5 [] = [(abcd, 1, 5)] := rfl
  rw [e1] at hB2
  refine Put_c hB2 (by decide) rfl (by decide) fun pv2 H3 hB3 hF => ?_
  have e2 : putP abcd 2 6 [(abcd, 1, 5)] = [(abcd, 1, 5), (abcd, 2, 6)] := by
    have : [((abcd, 1, 5) : Prg)].findIdx? (isP abcd 6) = none := by simp [List.findIdx?_cons, isP]
    simp only [putP, this]; rfl
  rw [e2] at hB3
  simp only [intA_neq, optA_some, ifA_bool', not_true_eq_false, decide_false, Bool.false_eq_true, if_false, frzLK_ptr, frzLK_d, frzLK_nil, ne_eq]
  refine Program_c hB3 (by simp) ?_
  have e3 : look abcd [((abcd, 1, 5) : Prg), (abcd, 2, 6)].reverse 1 = some (abcd, 2, 6) := by
    have := look_all (c := abcd) (l := [((abcd, 1, 5) : Prg), (abcd, 2, 6)].reverse) (s := 0) (by simp) (by decide)
    simpa using this
  rw [e3]
  simp only [foundA, go_sem, Int.reduceEq, Int.reduceNe, Int.reduceLT, Int.reduceLE, not_true_eq_false, not_false_eq_true, decide_true, decide_false, Int.reduceAdd, Int.reduceSub, Int.reduceMul]
  exact ⟨_, le_refl', hk _⟩
theorem first_end {H : AHeap} : CallsA Try.prog 6 [] H fun v H => retF [v] H fun v _ => v = .d (.bool true) := First_c fun H' => by simp only [ret1_d]; exact ⟨_, le_refl', rfl⟩
/-- A list of one's own, of which nothing else is known. -/
abbrev Mine (H : AHeap) (v : AV) (l : List (List Dat)) : Prop := Go.AM.Own noHeap 1 H v l
theorem no_le {H : AHeap} : AHeap.le noHeap H := fun i o h => by cases h
theorem Mine.keep {H H' : AHeap} {v : AV} {l : List (List Dat)} (h : Mine H v l) (hk : ∀ i, idOf v = some i → H' i = H i) : Mine H' v l := by
  refine ⟨no_le, h.2.1, ?_⟩
  rcases h.2.2 with h1 | h1 | ⟨i, ver, L, rfl, h2, h3⟩
  · exact .inl h1
  · exact .inr (.inl h1)
  · exact .inr (.inr ⟨i, ver, L, rfl, by rw [hk i rfl]; exact h2, h3⟩)
theorem Mine.of {H0 H : AHeap} {v : AV} {l : List (List Dat)} (h : Go.AM.Own H0 1 H v l) : Mine H v l := by
  refine ⟨no_le, h.2.1, ?_⟩
  rcases h.2.2 with h1 | h1 | ⟨i, ver, L, rfl, h2, h3, h4, _⟩
  · exact .inl h1
  · exact .inr (.inl h1)
  · exact .inr (.inr ⟨i, ver, L, rfl, h2, h3, h4, rfl⟩)
theorem Mine.obj {H : AHeap} {v : AV} {l : List (List Dat)} (h : Mine H v l) {i : Nat} (hi : idOf v = some i) : ∃ ver L, H i = some (.mem ver 0 1 L) := by
  rcases h.2.2 with ⟨rfl, _⟩ | rfl | ⟨j, ver, L, rfl, h1, _⟩
  · cases hi
  · cases hi
  · cases hi; exact ⟨ver, L, h1⟩
theorem Mine.ix {H : AHeap} {v : AV} {l : List (List Dat)} (h : Mine H v l) {ti : TI} {e j : Nat} {x : Dat} (hk : ti.k = .slice e) (hx : l[j]? = some [x]) : ∃ p, indexAddrA ti 1 v (.d (.int .i64 j)) = some p ∧ ldV false 1 p H = some (.d x) := by
  have hj : j < l.length := (List.getElem?_eq_some_iff.1 hx).1
  rcases h.2.2 with ⟨rfl, rfl⟩ | rfl | ⟨i, ver, L, rfl, h1, h2, h3, _⟩
  · simp at hj
  · exact ⟨.vptr [x] 0, by simp only [indexAddrA, hk, show (0 : Int) ≤ j by omega, if_true, Int.toNat_natCast, hx, List.length_cons, List.length_nil], rfl⟩
  · refine ⟨.ptr i ver j 0, by rw [idx_rs hk (by omega) (by omega)]; rfl, ?_⟩
    have : L[j]? = some [.d x] := by
      have h4 : (L.take l.length)[j]? = L[j]? := List.getElem?_take_of_lt hj
      rw [← h4, h2]
      simp only [avs, List.getElem?_map, hx, Option.map_some, List.map_cons, List.map_nil]
    exact ldV_at h1 this rfl
theorem Mine.fr {S : List Nat} {H H' : AHeap} {v : AV} {l : List (List Dat)} (h : Mine H v l) (hF : Fr S H H') (hS : 2 ∉ S) : Mine H' v l := h.keep fun i hi => by
  obtain ⟨ver, L, h1⟩ := h.obj hi
  rw [h1]; exact hF i _ h1 hS
def ints (l : List Int) : List (List Dat) := l.map fun n => [.int .i64 n]
theorem ints_length {l : List Int} : (ints l).length = l.length := by simp [ints]
theorem ints_get {l : List Int} {j : Nat} {x : Int} (h : l[j]? = some x) : (ints l)[j]? = some [.int .i64 x] := by simp [ints, h]
theorem bs3_1 {x : Dat} {H : AHeap} {n : Nat} : bsA ti3 1 [0] [.d x] H n = some (.lit [[x]], []) := rfl
theorem latest_law {c : ByteArray} {nl : Bool} {fs : List UInt8} : CallsA Try.prog 3 [.d (.str c), .d (.sl nl (bs fs))] noHeap fun v _ => v = .d (.bool true) := by
  apply C3
  unfold S3
  simp only [lenStr_d, optA_some, intA_neq, ifA_ite, frzLK_nil]
  refine ite_of (fun h1 => first_end) fun h1 => ?_
  have hc : c.size = 4 := by have : ¬ (c.size : Int) ≠ 4 := h1; omega
  simp only [lenSl_d, bs_length, optA_some, intA_gtr, ifA_ite]
  refine ite_of (fun h2 => first_end) fun h2 => ?_
  have hn : fs.length ≤ 100 := by omega
  refine New_c fun k m H1 hB hle => ?_
  simp only [nilA, isNil, optA_some, ifA_f]
  refine loop_ind (fun r vs G => ∃ (i : Nat) (wv pv : AV) (zs : List Prg) (x5 x6 x7 x8 : AV), i ≤ fs.length ∧ r = fs.length - i ∧ zs.length ≤ i ∧ Nice c zs ∧ DB G k m pv zs ∧ Mine G wv (ints (files zs).reverse) ∧ vs = [.d (.str c), .d (.sl nl (bs fs)), .ptr k 0 0 0, wv, .d (.int .i64 i), x5, x6, x7, x8]) (n := fs.length)
    ⟨0, _, _, [], _, _, _, _, Nat.zero_le _, rfl, Nat.le_refl _, ⟨by simp, by simp [files]⟩, hB, Go.AM.Own.nil no_le, rfl⟩ ?_
  rintro X r vs G ⟨i, wv, pv, zs, x5, x6, x7, x8, hi, rfl, hz, hN, hB, hW, rfl⟩ hX
  simp only [List.getD_cons_succ, List.getD_cons_zero, lenSl_d, bs_length, optA_some, intA_lss, ifA_ite]
  have hfl : (files zs).length = zs.length := by simp [files]
  refine ite_of (fun hlt => ?_) fun hlt => ?_
  · have hi' : i < fs.length := by omega
    have hcb := fs[i].toNat_lt
    have hix : indexAddrA ti22 1 (.d (.sl nl (bs fs))) (.d (.int .i64 i)) = some (.vptr [.int .u8 fs[i].toNat] 0) := sl_get (e := 5) rfl (by omega) (by simp [bs, hi']) rfl
    simp only [hix, optA_some, ldV_v, ldM, partV, List.drop_zero, List.take_succ_cons, List.take_zero, List.map_cons, List.map_nil, List.length_cons, List.length_nil, if_true, Bool.false_eq_true, if_false, Nat.zero_add, cvI_int, intA_add]
    rw [wrap_i64 (n := (fs[i].toNat : Int)) (by omega) (by omega), wrap_i64 (n := 1 + (fs[i].toNat : Int)) (by omega) (by omega)]
    generalize hf : 1 + (fs[i].toNat : Int) = f
    simp only [frzLK_d, frzLK_ptr, frzLK_nil]
    refine Put_c hB (by omega) hc (by omega) fun pv1 G1 hB1 hF1 => ?_
    simp only [intA_neq, optA_some, ifA_bool', not_true_eq_false, decide_false, Bool.false_eq_true, if_false, ne_eq]
    intro n0 _
    simp only [bs3_1, stepK_some, AHeap.sets]
    have hW1 : Mine G1 wv (ints (files zs).reverse) := hW.fr hF1 (by decide)
    -- the list of now
    refine loop_ind (fun r vs G2 => ∃ (j : Nat) (nv : AV), j ≤ zs.length ∧ r = zs.length - j ∧ Go.AM.Own G1 1 G2 nv (ints (f :: ((files zs).reverse.take j).filter (fun y => y != f))) ∧ vs = [.d (.str c), .d (.sl nl (bs fs)), .ptr k 0 0 0, wv, .d (.int .i64 i), .d (.int .i64 f), nv, .d (.int .i64 j), x8]) (n := zs.length)
      ⟨0, _, Nat.zero_le _, rfl, Go.AM.Own.lit le_refl' (by simp [ints]), rfl⟩ ?_
    rintro X2 r2 vs2 G2 ⟨j, nv, hj, rfl, hO, rfl⟩ hX2
    have hW2 : Mine G2 wv (ints (files zs).reverse) := hW1.fr (.of_le hO.le) (S := []) (by simp)
    simp only [List.getD_cons_succ, List.getD_cons_zero, hW2.len, ints_length, List.length_reverse, hfl, optA_some, intA_lss, ifA_ite]
    refine ite_of (fun hlt2 => ?_) fun hlt2 => ?_
    · have hj' : j < (files zs).reverse.length := by rw [List.length_reverse, hfl]; omega
      have hx : (files zs).reverse[j]? = some (files zs).reverse[j] := List.getElem?_eq_getElem hj'
      have htk : (files zs).reverse.take (j + 1) = (files zs).reverse.take j ++ [(files zs).reverse[j]] := by rw [List.take_add_one, hx]; rfl
      obtain ⟨p, e1, e2⟩ := hW2.ix (ti := ti26) rfl (ints_get hx)
      generalize hy : (files zs).reverse[j] = y at e2 htk hx
      simp only [e1, e2, optA_some, intA_neq, ifA_ite]
      refine ite_of (fun hne => ?_) fun hne => ?_
      · intro n1 _
        simp only [bs3_1, stepK_some, AHeap.sets]
        refine hO.app (ys := [[.int .i64 y]]) rfl (by decide) (by decide) (by simp) (by
          rw [ints_length]
          have : (((files zs).reverse.take j).filter (fun y => y != f)).length ≤ j := Nat.le_trans (List.length_filter_le _ _) (List.length_take_le _ _)
          simp only [List.length_cons, List.length_nil, mostBytes]; omega) fun v' H' hO' _ _ _ => ?_
        simp only [intA_add, optA_some]
        rw [wrap_i64 (by omega) (by omega)]
        refine hX2 (zs.length - (j + 1)) _ _ (by omega) ⟨j + 1, v', by omega, rfl, ?_, rfl⟩
        rw [htk, List.filter_append, List.filter_cons_of_pos (by simpa using hne), List.filter_nil]
        have : ints (f :: (((files zs).reverse.take j).filter (fun y => y != f) ++ [y])) = ints (f :: ((files zs).reverse.take j).filter (fun y => y != f)) ++ [[.int .i64 y]] := by simp [ints]
        rw [this]; exact hO'
      · simp only [intA_add, optA_some]
        rw [wrap_i64 (by omega) (by omega)]
        refine hX2 (zs.length - (j + 1)) _ _ (by omega) ⟨j + 1, nv, by omega, rfl, ?_, rfl⟩
        rw [htk, List.filter_append, List.filter_cons_of_neg (by simpa using hne), List.filter_nil, List.append_nil]
        exact hO
    · have hj' : j = zs.length := by omega
      subst hj'
      simp only [intA_add, optA_some]
      rw [wrap_i64 (by omega) (by omega)]
      have hz1 : (putP c (i : Int) f zs).length ≤ i + 1 := by have := put_len (c := c) (n := (i : Int)) (f := f) (zs := zs); omega
      have e : (files (putP c (i : Int) f zs)).reverse = f :: ((files zs).reverse.take zs.length).filter (fun y => y != f) := by
        rw [files_put hN, List.take_of_length_le (by rw [List.length_reverse, hfl]; exact Nat.le_refl _), List.filter_reverse]
        simp
      refine hX (fs.length - (i + 1)) _ _ (by omega) ⟨i + 1, nv, pv1, putP c (i : Int) f zs, _, _, _, _, by omega, rfl, hz1, hN.put, hB1.le hO.le, ?_, rfl⟩
      rw [e]; exact Mine.of hO
  · -- what is found
    have hrl : (ints (files zs).reverse).length = zs.length := by simp [ints, files]
    refine loop_ind (fun r vs G2 => ∃ (j : Nat), j ≤ zs.length ∧ r = zs.length - j ∧ G2 = G ∧ vs = [.d (.str c), .d (.sl nl (bs fs)), .ptr k 0 0 0, wv, .d (.int .i64 i), x5, x6, x7, .d (.int .i64 j)]) (n := zs.length)
      ⟨0, Nat.zero_le _, rfl, rfl, rfl⟩ ?_
    rintro X2 r2 vs2 G2 ⟨j, hj, rfl, rfl, rfl⟩ hX2
    simp only [List.getD_cons_succ, List.getD_cons_zero, hW.len, hrl, optA_some, intA_lss, ifA_ite]
    have hall : ∀ x ∈ zs.reverse, x.1 = c := fun x hx => hN.all x (List.mem_reverse.1 hx)
    refine ite_of (fun hlt2 => ?_) fun hlt2 => ?_
    · have hj' : j < zs.reverse.length := by rw [List.length_reverse]; omega
      simp only [intA_add, optA_some, frzLK_d, frzLK_ptr, frzLK_nil]
      rw [wrap_i64 (by omega) (by omega)]
      refine Program_c hB (by omega) ?_
      rw [look_all hall (by omega), List.getElem?_eq_getElem hj']
      have hx : (files zs).reverse[j]? = some zs.reverse[j].2.2 := by
        rw [files, ← List.map_reverse, List.getElem?_map, List.getElem?_eq_getElem hj']; rfl
      obtain ⟨p, e1, e2⟩ := hW.ix (ti := ti26) rfl (ints_get hx)
      simp only [foundA, extractA_0, extractA_1, extractA_2, optA_some, intA_neq, ifA_bool', not_true_eq_false, decide_false, Bool.false_eq_true, if_false, ne_eq, e1, e2]
      exact hX2 (zs.length - (j + 1)) _ _ (by omega) ⟨j + 1, by omega, rfl, rfl, rfl⟩
    · simp only [intA_add, optA_some, frzLK_d, frzLK_ptr, frzLK_nil]
      rw [wrap_i64 (by omega) (by omega)]
      refine Program_c hB (by omega) ?_
      rw [look_all hall (by omega), List.getElem?_eq_none (by simp)]
      simp only [foundA, extractA_0, extractA_1, extractA_2, optA_some, intA_eql, ifA_bool', decide_true, if_true, frzLK_nil]
      exact first_end
end
theorem bytes_open {xs : List Dat} (h : DatOk Try.prog 9 22 xs) : ∃ nl bl, argAV (aggT Try.prog 22) xs = .d (.sl nl (bs bl)) ∧ (nl = true → bl = []) ∧ bl.length ≤ 2 ^ 47 := by
  rw [datOk_slice Try.underlying22] at h
  obtain ⟨nl, l, rfl, hnl, hl, hlen⟩ := h
  obtain ⟨bl, rfl⟩ := DatOk_bytes Try.underlying5 hl
  refine ⟨nl, bl, ?_, fun h => ?_, ?_⟩
  · rw [show aggT Try.prog 22 = false by kernel_rfl]
    rfl
  · have := hnl h
    cases bl with
    | nil => rfl
    | cons b r => cases this
  · rw [show Try.prog.bytesOf 5 = 1 by kernel_rfl, bs_length] at hlen
    unfold reachBytes at hlen
    omega
theorem latest_row (xs : List Dat) (h : DatOk Try.prog 9 9 xs) (ys : List Dat) (h2 : DatOk Try.prog 9 22 ys) : CallsA Try.prog 3 [argAV (aggT Try.prog 9) xs, argAV (aggT Try.prog 22) ys] noHeap fun v _ => v = .d (.bool true) := by
  rw [datOk_str Try.underlying9] at h
  obtain ⟨s, rfl, _⟩ := h
  obtain ⟨nl, bl, hb, _⟩ := bytes_open h2
  rw [hb, show aggT Try.prog 9 = false by kernel_rfl]
  rw [show argAV false [.str s] = .d (.str s) from rfl]
  exact latest_law
end Go.Proofs.Ytmciomkibklokaa

/- A desktop's programs: the search, Delete, PutProgram. -/
import Derived.Test.YtmciomkibklokaaM23a
set_option autoImplicit false
set_option maxRecDepth 100000
set_option linter.unusedVariables false
set_option linter.unusedSimpArgs false
set_option linter.unnecessarySimpa false
namespace Go.Proofs.Ytmciomkibklokaa
open Go Go.AM Go.Proofs
section
variable {H G : AHeap} {k m : Nat} {pv : AV} {zs : List Prg} {K : AV → AHeap → Prop}
/-- The place of a program, or -1. -/
def fidx (c : ByteArray) (f : Int) (zs : List Prg) : Int := match zs.findIdx? (isP c f) with | some i => i | none => -1
theorem callA_58 {u v : Nat} {x : AV} : callA (CallsA Try.prog) pol57 (.func 58 [] [.ptr u 0 0 0, .ptr v 0 0 0]) [x] H K = frzLK [x, .ptr u 0 0 0, .ptr v 0 0 0] H (fun l H' => CallsA Try.prog 58 l H' K) := rfl
theorem ldM3 {i ver j : Nat} {L : List (List AV)} {cs : List AV} (h : H i = some (.mem ver 0 3 L)) (hc : L[j]? = some cs) (h3 : cs.length = 3) : ldV true 3 (.ptr i ver j 0) H = some (.agg cs) := by
  simp only [ldV, h, if_true, hc, partV, List.drop_zero]
  rw [List.take_of_length_le (by omega), h3]
  simp
theorem Idx_c {u v : Nat} {c : ByteArray} {f : Int} (hM : Ms 3 H pv (zs.map pdat)) (hu : H u = some (.mem 0 0 1 [[.d (.str c)]])) (hv : H v = some (.mem 0 0 1 [[.d (.int .i64 f)]])) (hz : zs.length < 2 ^ 40)
    (hk : ∀ H', AHeap.le H H' → K (.d (.int .i64 (fidx c f zs))) H') : CallsA Try.prog 57 [pv, .func 58 [] [.ptr u 0 0 0, .ptr v 0 0 0]] H K := by
  apply C57
  unfold S57
  simp only [hM.len, List.length_map, optA_some]
  refine loop_ind (fun n vs G => ∃ j : Nat, j ≤ zs.length ∧ n = zs.length - j ∧ vs = [pv, .func 58 [] [.ptr u 0 0 0, .ptr v 0 0 0], .d (.int .i64 (zs.length : Int)), .d (.int .i64 (j : Int))] ∧ AHeap.le H G ∧ ∀ q, q < j → ∀ x, zs[q]? = some x → isP c f x = false) (n := zs.length) ⟨0, Nat.zero_le _, rfl, rfl, le_refl', fun q hq => by omega⟩ ?_
  rintro X n vs G ⟨j, hj, rfl, rfl, hle, hno⟩ hX
  simp only [List.getD_cons_succ, List.getD_cons_zero, intA_lss, optA_some, ifA_bool']
  by_cases hlt : j < zs.length
  · have hlt' : (j : Int) < zs.length := by omega
    rw [if_pos (by simpa using hlt')]
    have hx : zs[j]? = some zs[j] := List.getElem?_eq_getElem hlt
    obtain ⟨i, ver, L, e1, e2, e3, e4⟩ := (hM.le hle).at (ti := ti52) (et := 62) rfl (j := j) (c := pdat zs[j]) (by rw [List.getElem?_map, hx]; rfl)
    simp only [e1, optA_some, ldM3 e3 e4 rfl, callA_58]
    simp only [pdat, go_sem]
    refine prog1_c (x := zs[j]) (hle _ _ hu) (hle _ _ hv) fun G2 hle2 => ?_
    by_cases hp : isP c f zs[j] = true
    · rw [hp]
      simp only [ifA_t, ret1_d]
      refine ⟨_, le_refl', ?_⟩
      have hf : zs.findIdx? (isP c f) = some j := by
        rw [List.findIdx?_eq_some_iff_getElem]
        exact ⟨hlt, hp, fun q hq => by have := hno q hq zs[q] (List.getElem?_eq_getElem (by omega)); simp [this]⟩
      have := hk G2 (le_trans' hle hle2)
      rw [fidx, hf] at this
      exact this
    · have hp : isP c f zs[j] = false := by simpa using hp
      rw [hp]
      simp only [ifA_f]
      rw [wrap_i64 (by omega) (by omega)]
      refine hX (zs.length - (j + 1)) _ _ (by omega) ⟨j + 1, hlt, rfl, rfl, le_trans' hle hle2, fun q hq x hx' => ?_⟩
      by_cases hqj : q = j
      · subst hqj; rw [hx] at hx'; cases hx'; exact hp
      · exact hno q (by omega) x hx'
  · have hlt' : ¬ (j : Int) < zs.length := by omega
    rw [if_neg (by simpa using hlt')]
    simp only [ret1_d]
    refine ⟨_, le_refl', ?_⟩
    have hf : zs.findIdx? (isP c f) = none := by
      rw [List.findIdx?_eq_none_iff]
      intro x hx
      obtain ⟨q, hq⟩ := List.getElem?_of_mem hx
      exact hno q (by have := (List.getElem?_eq_some_iff.1 hq).1; omega) x hq
    have := hk G hle
    rw [fidx, hf] at this
    exact this
theorem program_c {c : ByteArray} {f : Int} (hB : DB H k m pv zs) (hz : zs.length < 2 ^ 40) (hk : ∀ H', AHeap.le H H' → K (.d (.int .i64 (fidx c f zs))) H') : CallsA Try.prog 27 [.ptr k 0 0 0, .d (.str c), .d (.int .i64 f)] H K := by
  apply C27
  unfold S27
  refine box_open rfl fun u G1 hG1 hle1 hu => box_open rfl fun v G2 hG2 hle2 hv => ?_
  have l1 : ldV false 1 (.ptr k 0 0 1) G2 = some pv := ldV_at (hle2 _ _ (hle1 _ _ hB.base)) rfl rfl
  simp only [nilCkA, ti55_f1, Nat.zero_add, l1, optA_some]
  refine Idx_c ((hB.prgs.le hle1).le hle2) (hle2 _ _ hG1) hG2 hz fun H' hle3 => ?_
  simp only [ret1_d]
  exact ⟨_, le_refl', hk H' (le_trans' (le_trans' hle1 hle2) hle3)⟩
/-- A slice that an object keeps, as it lies. -/
theorem Ms.pos {sz : Nat} {l : List (List Dat)} (h : Ms sz H pv l) (hl : 0 < l.length) : ∃ i ver L, pv = .rs i ver sz 0 l.length ∧ H i = some (.mem ver 0 sz L) ∧ L.take l.length = avs l ∧ l.length ≤ L.length := by
  rcases h.2 with ⟨rfl, rfl⟩ | h
  · simp at hl
  · exact h
theorem Delete_c {i : Nat} (hM : Ms 3 H pv (zs.map pdat)) (hi : i < zs.length) (hz : zs.length < 2 ^ 40)
    (hk : ∀ v' H', Ms 3 H' v' ((zs.eraseIdx i).map pdat) → (∀ j, (H j).isSome → idOf pv ≠ some j → H' j = H j) → (∀ j, idOf v' = some j → idOf pv = some j) → K v' H') :
    CallsA Try.prog 28 [pv, .d (.int .i64 (i : Int)), .d (.int .i64 ((i : Int) + 1))] H K := by
  obtain ⟨o, ver, L, rfl, h2, h3, h4⟩ := Ms.pos hM (by rw [List.length_map]; omega)
  rw [List.length_map] at h3 h4 ⊢
  apply C28m
  unfold S28m
  have hLl : (L.take zs.length) = avs (zs.map pdat) := h3
  simp only [lenSl_rs, optA_some, intA_eql, ifA_ite, drA_true]
  rw [show sliceA 3 (.rs o ver 3 0 zs.length) (some (.d (.int .i64 (i : Int)))) (some (.d (.int .i64 ((i : Int) + 1)))) (some (.d (.int .i64 (zs.length : Int)))) H = some .junk by
    simp only [sliceA, h2, if_true, bnd]
    rw [if_pos (by omega), if_pos (by omega), if_pos (by omega)]
    simp only [Int.toNat_natCast]
    rw [if_pos (by omega)]]
  rw [optA_some, if_neg (by omega)]
  rw [show sliceA 3 (.rs o ver 3 0 zs.length) none (some (.d (.int .i64 (i : Int)))) none H = some (.rs o ver 3 0 i) by
    simp only [sliceA, h2, if_true, bnd]
    rw [if_pos (by omega)]
    simp only [Int.toNat_natCast]
    rw [if_pos ⟨Nat.zero_le _, by omega, trivial⟩]
    simp]
  rw [show sliceA 3 (.rs o ver 3 0 zs.length) (some (.d (.int .i64 ((i : Int) + 1)))) none none H = some (.rs o ver 3 (i + 1) (zs.length - (i + 1))) by
    simp only [sliceA, h2, if_true, bnd]
    rw [if_pos (by omega), show ((i : Int) + 1).toNat = i + 1 by omega]
    simp only
    rw [if_pos ⟨by omega, by omega, trivial⟩]
    simp]
  simp only [optA_some]
  have hLn : (L.drop (i + 1)).take (zs.length - (i + 1)) = avs ((zs.drop (i + 1)).map pdat) := by
    have : (L.take zs.length).drop (i + 1) = (L.drop (i + 1)).take (zs.length - (i + 1)) := by rw [List.drop_take]
    rw [← this, h3, avs, avs, ← List.map_drop, ← List.map_drop]
  have hLi : L.take i = avs ((zs.take i).map pdat) := by
    have : (L.take zs.length).take i = L.take i := by rw [List.take_take, Nat.min_eq_left (by omega)]
    rw [← this, h3, avs, avs, ← List.map_take, ← List.map_take]
  have hyl : (avs ((zs.drop (i + 1)).map pdat)).length = zs.length - (i + 1) := by rw [avs_length]; simp
  intro n hn
  have happ : apA 3 32 (.rs o ver 3 0 i) (.rs o ver 3 (i + 1) (zs.length - (i + 1))) H n =
      some (.rs o ver 3 0 (zs.length - 1), [(o, .mem ver 0 3 (avs ((zs.eraseIdx i).map pdat) ++ L.drop (zs.length - 1)))]) := by
    have hel : elemsA (.rs o ver 3 (i + 1) (zs.length - (i + 1))) H = some (avs ((zs.drop (i + 1)).map pdat)) := by
      simp only [elemsA, h2, if_true, hLn, hyl]
    have hall : ((avs ((zs.drop (i + 1)).map pdat)).all fun y => y.length == 3) = true := by
      rw [List.all_eq_true]
      intro y hy
      simp only [avs, List.mem_map] at hy
      obtain ⟨_, ⟨_, _, rfl⟩, rfl⟩ := hy
      rfl
    simp only [apA, hel, hall, Nat.reduceLT, and_self, if_true, appA, h2, hyl, Nat.zero_add]
    rw [if_pos ⟨trivial, trivial, by omega, by omega⟩, hLi]
    have e1 : i + (zs.length - (i + 1)) = zs.length - 1 := by omega
    have e2 : avs ((zs.take i).map pdat) ++ avs ((zs.drop (i + 1)).map pdat) = avs ((zs.eraseIdx i).map pdat) := by
      rw [← avs_append, ← List.map_append, List.eraseIdx_eq_take_drop_succ]
    rw [e1, e2]
  show stepK (apA 3 32 (.rs o ver 3 0 i) (.rs o ver 3 (i + 1) (zs.length - (i + 1))) H n) H _
  rw [happ]
  have hel : (zs.eraseIdx i).length = zs.length - 1 := List.length_eraseIdx_of_lt hi
  simp only [stepK_some, AHeap.sets, lenSl_rs, optA_some]
  have hmem : (H.set o (.mem ver 0 3 (avs ((zs.eraseIdx i).map pdat) ++ L.drop (zs.length - 1)))) o = some (.mem ver 0 3 (avs ((zs.eraseIdx i).map pdat) ++ L.drop (zs.length - 1))) := set_self
  have hlen : (avs ((zs.eraseIdx i).map pdat) ++ L.drop (zs.length - 1)).length = L.length := by
    rw [List.length_append, avs_length, List.length_map, hel, List.length_drop]; omega
  rw [show sliceA 3 (.rs o ver 3 0 (zs.length - 1)) (some (.d (.int .i64 ((zs.length - 1 : Nat) : Int)))) (some (.d (.int .i64 (zs.length : Int)))) none (H.set o (.mem ver 0 3 (avs ((zs.eraseIdx i).map pdat) ++ L.drop (zs.length - 1)))) = some (.rs o ver 3 (zs.length - 1) 1) by
    simp only [sliceA, hmem, if_true, bnd, Int.natCast_nonneg, Int.toNat_natCast]
    rw [if_pos ⟨by omega, by rw [hlen]; omega, trivial⟩, show zs.length - (zs.length - 1) = 1 by omega]
    simp]
  simp only [optA_some]
  rw [show clA ti62 (.rs o ver 3 (zs.length - 1) 1) (H.set o (.mem ver 0 3 (avs ((zs.eraseIdx i).map pdat) ++ L.drop (zs.length - 1)))) = some (.tup [], [(o, .mem ver 0 3 ((avs ((zs.eraseIdx i).map pdat) ++ L.drop (zs.length - 1)).take (zs.length - 1) ++ repl 1 ti62.zero ++ (avs ((zs.eraseIdx i).map pdat) ++ L.drop (zs.length - 1)).drop (zs.length - 1 + 1)))]) by
    simp only [clA, clrA, hmem, Nat.succ_ne_zero, if_false]
    rw [if_pos ⟨trivial, trivial, by first | trivial | rfl, by decide, Nat.zero_le _, by rw [hlen]; omega⟩]]
  simp only [stepK_some, AHeap.sets]
  have ht : (avs ((zs.eraseIdx i).map pdat) ++ L.drop (zs.length - 1)).take (zs.length - 1) = avs ((zs.eraseIdx i).map pdat) := by
    have : (avs ((zs.eraseIdx i).map pdat)).length = zs.length - 1 := by rw [avs_length, List.length_map, hel]
    rw [← this]; exact List.take_left
  rw [ht]
  refine ⟨_, le_refl', hk _ _ ⟨?_, .inr ⟨o, ver, _, by rw [List.length_map, hel], set_self, ?_, ?_⟩⟩ ?_ ?_⟩
  · intro c hc
    obtain ⟨x, _, rfl⟩ := List.mem_map.1 hc
    rfl
  · have : (avs ((zs.eraseIdx i).map pdat)).length = ((zs.eraseIdx i).map pdat).length := avs_length
    rw [← this, List.append_assoc]; exact List.take_left
  · simp only [List.length_append, avs_length]; omega
  · intro j hj hne
    have : j ≠ o := fun he => hne (by rw [he]; rfl)
    rw [set_ne this, set_ne this]
  · intro j hj; exact hj
end
end Go.Proofs.Ytmciomkibklokaa

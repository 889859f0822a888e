/- PutProgram. -/
import Derived.Test.YtmciomkibklokaaM23b
set_option autoImplicit false
set_option maxRecDepth 100000
set_option linter.unusedVariables false
set_option linter.unusedSimpArgs false
set_option linter.unnecessarySimpa false
namespace Go.Proofs.Ytmciomkibklokaa
open Go Go.AM Go.Proofs
section
variable {H G : AHeap} {k m : Nat} {pv : AV} {zs : List Prg} {K : AV → AHeap → Prop}
theorem New_c (hk : ∀ k m H', DB H' k m (.d (.sl true [])) [] → AHeap.le H H' → K (.ptr k 0 0 0) H') : CallsA Try.prog 7 [] H K := by
  apply C7
  unfold S7
  intro n hn
  simp only [bd55, cell53, bdA, fillA, setCells, List.zip_cons_cons, List.zip_nil_right, List.zip_nil_left, Option.map_some, and_self, Nat.le_refl, Nat.reduceLeDiff, List.cons_append, go_sem]
  intro u hu
  simp only [boxA, go_sem]
  obtain ⟨h1, h2⟩ := set_none.1 hu
  refine ⟨_, le_refl', hk u n _ ⟨set_self, Ms.nil, ⟨[], 0, ?_⟩, by simp [idOf]⟩ fun i x hi => ?_⟩
  · rw [set_ne (Ne.symm h1), set_self]
  · rw [set_ne (le_ne hi h2), set_ne (le_ne hi hn)]; exact hi
theorem DB.keep {H' : AHeap} (hB : DB H k m pv zs) (hk : H' k = H k) (hm : H' m = H m) (hp : ∀ i, idOf pv = some i → H' i = H i) : DB H' k m pv zs :=
  ⟨by rw [hk]; exact hB.base, hB.prgs.keep hp, by rw [hm]; exact hB.map, hB.sep⟩
theorem DB.le {H' : AHeap} (hB : DB H k m pv zs) (hle : AHeap.le H H') : DB H' k m pv zs := by
  refine ⟨hle _ _ hB.base, hB.prgs.le hle, ?_, hB.sep⟩
  obtain ⟨es, cl, h⟩ := hB.map
  exact ⟨es, cl, hle _ _ h⟩
theorem DB.km (hB : DB H k m pv zs) : m ≠ k := by
  rintro rfl
  obtain ⟨es, cl, h⟩ := hB.map
  rw [hB.base] at h; cases h
theorem DB.pm (hB : DB H k m pv zs) : idOf pv ≠ some m := fun h => by
  obtain ⟨ver, L, h2⟩ := hB.prgs.isObj h
  obtain ⟨es, cl, h⟩ := hB.map
  rw [h2] at h; cases h
/-- Programs behind another one. -/
theorem append_c {c : ByteArray} {n f : Int} {X : AV → AHeap → Prop} (hB : DB H k m pv zs) (hz : zs.length < 2 ^ 30) (hk : ∀ pv' H', DB H' k m pv' (zs ++ [(c, n, f)]) → Fr [4] H H' → X (.d (.int .i64 0)) H') :
    optA (ldV false 1 (.ptr k 0 0 1) H) fun v35 => stepK (bdA Try.prog ti62 [0, 1, 2] [.d (.str c), .d (.int .i64 n), .d (.int .i64 f)] H) H fun v36 H37 => newK H37 (fun n40 => bsA ti62 1 [0] [v36] H37 n40) fun v38 H39 => newK H39 (fun n43 => apA 3 32 v35 v38 H39 n43) fun v41 H42 => stepK (stoA false 1 (.ptr k 0 0 1) v41 H42) H42 fun v46 H47 => retF [.d (.int .i64 0)] H47 X := by
  rw [ldV_at hB.base rfl rfl, optA_some]
  simp only [bd62, cell9, cell3, bdA, fillA, setCells, List.zip_cons_cons, List.zip_nil_right, List.zip_nil_left, Option.map_some, and_self, Nat.le_refl, Nat.reduceLeDiff, List.cons_append, go_sem]
  intro q hq
  show stepK (bsA ti62 1 [0] [.agg [.d (.str c), .d (.int .i64 n), .d (.int .i64 f)]] H q) H _
  rw [show bsA ti62 1 [0] [.agg [.d (.str c), .d (.int .i64 n), .d (.int .i64 f)]] H q = some (.lit [pdat (c, n, f)], []) from rfl]
  simp only [stepK_some, AHeap.sets]
  refine hB.prgs.app (ys := [pdat (c, n, f)]) rfl (by decide) (by decide) (by intro x hx; cases List.mem_singleton.1 hx; rfl) (by simp only [mostBytes, List.length_map, List.length_singleton]; omega) fun v' H' hM hfr hid hF => ?_
  have hk' : H' k = some (.mem 0 0 3 [[.d (.sl true []), pv, .map m]]) := (hfr k (by rw [hB.base]; rfl) hB.sep).trans hB.base
  have hsep : idOf v' ≠ some k := fun h => by
    rcases hid k h with h | h
    · exact hB.sep h
    · rw [hB.base] at h; cases h
  rw [stoA_at hk' (Nat.le_refl 0) rfl (show 1 < 3 by decide) hM.st.1 hM.st.2]
  simp only [stepK_some, AHeap.sets, finA]
  refine ⟨_, le_refl', hk v' _ ⟨set_self, ?_, ?_, hsep⟩ (hF.put hk' (by simp [osz]))⟩
  · rw [List.map_append]
    exact hM.keep fun i hi => set_ne (fun he => hsep (he ▸ hi))
  · obtain ⟨es, cl, hm⟩ := hB.map
    exact ⟨es, cl, by rw [set_ne hB.km, hfr m (by rw [hm]; rfl) hB.pm]; exact hm⟩
/-- The programs behind PutProgram. -/
def putP (c : ByteArray) (n f : Int) (zs : List Prg) : List Prg := match zs.findIdx? (isP c f) with
  | some i => zs.eraseIdx i ++ [(c, n, f)]
  | none => zs ++ [(c, n, f)]
theorem Put_c {c : ByteArray} {n f : Int} (hB : DB H k m pv zs) (hz : zs.length < 200) (hc : c.size = 4) (hf : 1 ≤ f ∧ f ≤ 4294967295) (hk : ∀ pv' H', DB H' k m pv' (putP c n f zs) → Fr [4] H H' → K (.d (.int .i64 0)) H') :
    CallsA Try.prog 8 [.ptr k 0 0 0, .d (.str c), .d (.int .i64 n), .d (.int .i64 f)] H K := by
  apply C8
  unfold S8
  simp only [frzLK_ptr, frzLK_nil]
  refine none_c hB ?_
  simp only [lenStr_d, hc, intA_neq, optA_some, ifA_f, ifA_ite]
  rw [if_neg (by decide)]
  simp only [frzLK_d, frzLK_nil]
  refine isId_c ?_
  simp only [hf, and_self, decide_true, unA_not, Bool.not_true, optA_some, ifA_f, frzLK_ptr, frzLK_d, frzLK_nil]
  refine program_c hB (by omega) fun H1 hle => ?_
  have hB1 := hB.le hle
  have e1 : nilCkA (.ptr k 0 0 0) = some (.ptr k 0 0 0) := rfl
  cases hx : zs.findIdx? (isP c f) with
  | none =>
    have hi : fidx c f zs = -1 := by simp only [fidx, hx]
    simp only [hi, intA_lss, intA_geq, optA_some, show decide ((-1 : Int) < 0) = true from rfl, show decide ((0 : Int) ≤ -1) = false from rfl, show decide ((-1 : Int) ≥ 0) = false from rfl, ifA_t, ifA_f, e1, ti55_f1, Nat.zero_add]
    rw [ldV_at hB1.base (by rfl) (by rfl : [AV.d (.sl true []), pv, .map m][1]? = some pv)]
    simp only [optA_some, hB1.prgs.len, List.length_map, intA_eql]
    rw [show decide ((zs.length : Int) = 200) = false by rw [decide_eq_false]; omega, ifA_f]
    have := append_c (X := K) (c := c) (n := n) (f := f) hB1 (by omega) fun pv' H' h1 h2 => hk pv' H' (by simpa only [putP, hx] using h1) (h2.le_left hle)
    rw [ldV_at hB1.base (by rfl) (by rfl : [AV.d (.sl true []), pv, .map m][1]? = some pv), optA_some] at this
    exact this
  | some i =>
    have hi : fidx c f zs = i := by simp only [fidx, hx]
    have hil : i < zs.length := (List.findIdx?_eq_some_iff_getElem.1 hx).1
    simp only [hi, intA_lss, intA_geq, intA_add, optA_some, show decide ((i : Int) < 0) = false by (rw [decide_eq_false]; omega), show decide ((i : Int) ≥ 0) = true by (rw [decide_eq_true]; omega), ifA_t, ifA_f, e1, ti55_f1, Nat.zero_add]
    rw [ldV_at hB1.base (by rfl) (by rfl : [AV.d (.sl true []), pv, .map m][1]? = some pv)]
    simp only [optA_some]
    rw [wrap_i64 (by omega) (by omega)]
    refine Delete_c hB1.prgs hil (by omega) fun v' H2 hM hfr hid => ?_
    have hk2 : H2 k = some (.mem 0 0 3 [[.d (.sl true []), pv, .map m]]) := (hfr k (by rw [hB1.base]; rfl) hB1.sep).trans hB1.base
    have hsep : idOf v' ≠ some k := fun h => hB1.sep (hid k h)
    rw [stoA_at hk2 (Nat.le_refl 0) rfl (show 1 < 3 by decide) hM.st.1 hM.st.2]
    simp only [stepK_some, AHeap.sets]
    have hB2 : DB (H2.set k (.mem 0 0 3 [[.d (.sl true []), v', .map m]])) k m v' (zs.eraseIdx i) := by
      refine ⟨set_self, hM.keep fun j hj => set_ne (fun he => hsep (he ▸ hj)), ?_, hsep⟩
      obtain ⟨es, cl, hm⟩ := hB1.map
      exact ⟨es, cl, by rw [set_ne hB1.km, hfr m (by rw [hm]; rfl) hB1.pm]; exact hm⟩
    have hF : Fr [4] H1 (H2.set k (.mem 0 0 3 [[.d (.sl true []), v', .map m]])) := fun j o hj ho => by
      have hjk : j ≠ k := fun he => by rw [he, hB1.base] at hj; cases hj; exact ho (by simp [osz])
      rw [set_ne hjk, hfr j (by rw [hj]; rfl) fun he => ?_]
      · exact hj
      · obtain ⟨ver, L, h2⟩ := hB1.prgs.isObj he
        rw [h2] at hj; cases hj; exact ho (by simp [osz])
    exact append_c (X := K) (c := c) (n := n) (f := f) hB2 (by rw [List.length_eraseIdx_of_lt hil]; omega) fun pv' H' h1 h2 => hk pv' H' (by simpa only [putP, hx] using h1) ((hF.trans h2).le_left hle)
end
end Go.Proofs.Ytmciomkibklokaa

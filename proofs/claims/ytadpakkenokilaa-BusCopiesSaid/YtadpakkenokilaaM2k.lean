/- The law: no two stations are settled at one number. -/
import Derived.Test.YtadpakkenokilaaM2j
set_option autoImplicit false
set_option maxRecDepth 100000
set_option linter.unusedVariables false
set_option linter.unusedSimpArgs false
set_option linter.unnecessarySimpa false
namespace Go.Proofs.Ytadpakkenokilaa
open Go Go.AM Go.Proofs
/-- A deed to a bus. -/
structure Ac where
  do_ : Int
  st : Int
  rn : Bool
  row : List Int
abbrev Ac.dats (a : Ac) : List Dat := [.int .i64 a.do_, .int .i64 a.st, .sl a.rn (ints a.row)]
abbrev Ac.cells (a : Ac) : List AV := [.d (.int .i64 a.do_), .d (.int .i64 a.st), .d (.sl a.rn (ints a.row))]
abbrev Ac.av (a : Ac) : AV := .agg a.cells
structure Ac.Ok (a : Ac) : Prop where
  wf : ∀ x ∈ a.row, -9223372036854775808 ≤ x ∧ x ≤ 9223372036854775807
  nl : a.rn = true → a.row = []
section
variable {H G : AHeap} {k w : Nat} {sv : AV} {ids : List Nat} {sts : List St} {f : Int} {K : AV → AHeap → Prop}
theorem frzLK_Ac {a : Ac} {l : List AV} {K : List AV → AHeap → Prop} : frzLK (a.av :: l) H K = frzLK l H fun l' H' => K (a.av :: l') H' := by
  unfold frzLK
  simp only [frzAL, frzA, frzL, frz, AHeap.sets, List.append_nil]
  cases frzAL l H <;> rfl
theorem do_c (hB : BusAt H k true [] sv ids sts f) (hr : H w = some rObj0) (hwf : ¬ foot k sv ids w) (hA : Alone sts) (hf : 0 ≤ f ∧ f < 2 ^ 39) {a : Ac} (ok : a.Ok) (hl : a.row.length < 2 ^ 40)
    (hk : ∀ (b : Bool) H' sv' ids' sts' f', BusAt H' k true [] sv' ids' sts' f' → Alone sts' → 0 ≤ f' ∧ f' ≤ f + 1640 → K (.d (.bool b)) H') : CallsA Try.prog 19 [.ptr k 0 0 0, .ptr w 0 0 0, a.av] H K := by
  apply C19
  unfold S19
  refine box_open rfl fun u G hG hle hu => ?_
  have hG : G u = some (.mem 0 0 3 [a.cells]) := hG
  have l0 : ∀ G', G' u = some (.mem 0 0 3 [a.cells]) → ldV false 1 (.ptr u 0 0 0) G' = some (.d (.int .i64 a.do_)) := fun G' hh => ldV_at hh rfl rfl
  have l1 : ∀ G', G' u = some (.mem 0 0 3 [a.cells]) → ldV false 1 (.ptr u 0 0 1) G' = some (.d (.int .i64 a.st)) := fun G' hh => ldV_at hh rfl rfl
  have l2 : ∀ G', G' u = some (.mem 0 0 3 [a.cells]) → ldV false 1 (.ptr u 0 0 2) G' = some (.d (.sl a.rn (ints a.row))) := fun G' hh => ldV_at hh rfl rfl
  have hB1 := hB.le hle
  have hr1 := hle _ _ hr
  have huf : ¬ foot k sv ids u := fun hh => by
    have := hB.foot hh
    rw [hu] at this; cases this
  have hn := hB.sts.n40
  have fin : ∀ (b : Bool) G' sv' ids' sts' f', BusAt G' k true [] sv' ids' sts' f' → Alone sts' → 0 ≤ f' ∧ f' ≤ f + 1640 → retF [.d (.bool b)] G' K := fun b G' sv' ids' sts' f' h1 h2 h3 => by
    simp only [go_sem]
    exact ⟨_, le_refl', hk b G' sv' ids' sts' f' h1 h2 h3⟩
  have f0 : 0 ≤ f ∧ f ≤ f + 1640 := by omega
  -- on and off
  have turn : ∀ (b : Bool) (G2 : AHeap) (X : AV → AHeap → Prop), (∀ (n : Int) (G3 : AHeap) (sts' : List St), BusAt G3 k true [] sv ids sts' f → Alone sts' → G3 u = G u → G3 w = some rObj0 → X (.d (.int .i64 n)) G3) → CallsA Try.prog 24 [.ptr k 0 0 0, .d (.int .i64 a.st), .d (.bool b)] G X := fun b G2 X hX =>
    Turn_c hB1 (fun _ => hX 2 G sts hB1 hA rfl hr1) fun j hj _ G3 hB3 hfr => hX 0 G3 _ hB3 (hA.set hj turn_2) (hfr u huf) ((hfr w hwf).trans hr1)
  have gss : ∀ (X : AV → AHeap → Prop), (∀ (n : Int) (G3 : AHeap) (sts' : List St), BusAt G3 k true [] sv ids sts' f → Alone sts' → G3 u = G u → G3 w = some rObj0 → X (.d (.int .i64 n)) G3) → CallsA Try.prog 13 [.ptr k 0 0 0, .d (.int .i64 a.st)] G X := fun X hX =>
    GuessAny_c hB1 (fun n => hX n G sts hB1 hA rfl hr1) fun j hj _ G3 hB3 hfr => hX 0 G3 _ hB3 (hA.set hj (by
      unfold St.begin
      split
      · exact .inl rfl
      · exact .inr (by simp))) (hfr u huf) ((hfr w hwf).trans hr1)
  simp only [ti42_f0, Nat.zero_add, l0 G hG, optA_some, intA_eql, ifA_ite]
  refine ite_of (fun h0 => ?_) fun h0 => ?_
  · -- Add
    simp only [ti42_f2, Nat.zero_add, l2 G hG, optA_some, frzLK_ptr, frzLK_d, frzLK_nil]
    refine Add_c hB1 ok.wf hl ok.nl (fun _ => ?_) fun _ G1 sv1 ids1 hB2 hfr hft => ?_
    · simp only [extractA_0, extractA_1, optA_some, ti42_f2, Nat.zero_add, l2 G hG, frzLK_ptr, frzLK_d, frzLK_nil]
      refine rAdd_c hr1 hl fun x y G2 hfr2 => ?_
      have hB3 : BusAt G2 k true [] sv ids sts f := hB1.keep fun j hj => hfr2 j (hB1.foot hj) fun he => hwf (he ▸ hj)
      simp only [extractA_0, extractA_1, optA_some, intA_eql, ifA_ite]
      exact ite_of (fun _ => fin _ _ _ _ _ _ hB3 hA f0) fun _ => fin _ _ _ _ _ _ hB3 hA f0
    · have hG1 : G1 u = some (.mem 0 0 3 [a.cells]) := (hfr u (by rw [hG]; rfl) huf).trans hG
      have hr2 : G1 w = some rObj0 := (hfr w (by rw [hr1]; rfl) hwf).trans hr1
      simp only [extractA_0, extractA_1, optA_some, ti42_f2, Nat.zero_add, l2 G1 hG1, frzLK_ptr, frzLK_d, frzLK_nil]
      refine rAdd_c hr2 hl fun x y G2 hfr2 => ?_
      have hw2 : ¬ foot k sv1 ids1 w := fun hh => by
        rcases hft w hh with h1 | h1
        · exact hwf h1
        · rw [hr1] at h1; cases h1
      have hB3 : BusAt G2 k true [] sv1 ids1 (sts ++ [newSt a.rn a.row]) f := hB2.keep fun j hj => hfr2 j (hB2.foot hj) fun he => hw2 (he ▸ hj)
      have hA3 : Alone (sts ++ [newSt a.rn a.row]) := hA.more (show (0 : Int) ≠ 2 by decide)
      simp only [extractA_0, extractA_1, optA_some, intA_eql, ifA_ite]
      exact ite_of (fun _ => fin _ _ _ _ _ _ hB3 hA3 f0) fun _ => fin _ _ _ _ _ _ hB3 hA3 f0
  have last : CallsA Try.prog 43 [.ptr w 0 0 0] G fun v59 H60 => frzLK [.ptr k 0 0 0] H60 fun l65 H66 => CallsA Try.prog 15 l65 H66 fun v63 H64 => optA (intA .eql v63 (.d (.int .i64 0))) fun v67 => retF [v67] H64 K := by
    refine rStep_c hr1 fun G2 hfr2 => ?_
    have hB3 : BusAt G2 k true [] sv ids sts f := hB1.keep fun j hj => hfr2 j (hB1.foot hj) fun he => hwf (he ▸ hj)
    simp only [frzLK_ptr, frzLK_nil]
    refine Step_c hB3 rising_nil (by simp) hf fun G3 hB4 _ => ?_
    rw [lost_nil] at hB4
    simp only [intA_eql, optA_some]
    have hs := step_f (lost := never) (sts := sts) (f := f) hn
    exact fin _ _ _ _ _ _ hB4 (hA.stp hB1.sts.ok) (by omega)
  have gs : CallsA Try.prog 13 [.ptr k 0 0 0, .d (.int .i64 a.st)] G fun v50 H51 => kp (.ptr u 0 0 1) G H51 ∧ (frzLK [.ptr w 0 0 0, .d (.int .i64 a.st)] H51 fun l56 H57 => CallsA Try.prog 42 l56 H57 fun v54 H55 => optA (intA .eql v50 v54) fun v58 => retF [v58] H55 K) := by
    refine gss _ fun n G3 sts' hB3 hA3 hu3 hw3 => ⟨hu3, ?_⟩
    simp only [frzLK_ptr, frzLK_d, frzLK_nil]
    refine rGuess_c hw3 ?_
    simp only [intA_eql, optA_some]
    exact fin _ _ _ _ _ _ hB3 hA3 f0
  have tn : ∀ b : Bool, CallsA Try.prog 24 [.ptr k 0 0 0, .d (.int .i64 a.st), .d (.bool b)] G fun v36 H37 => kp (.ptr u 0 0 0) G H37 ∧ (kp (.ptr u 0 0 1) G H37 ∧ (frzLK [.ptr w 0 0 0, .d (.int .i64 a.st), .d (.bool b)] H37 fun l42 H43 => CallsA Try.prog 41 l42 H43 fun v40 H41 => optA (intA .eql v36 v40) fun v44 => retF [v44] H41 K)) := by
    intro b
    refine turn b G _ fun n G3 sts' hB3 hA3 hu3 hw3 => ⟨hu3, hu3, ?_⟩
    simp only [frzLK_ptr, frzLK_d, frzLK_nil]
    refine rTurn_c hw3 ?_
    simp only [intA_eql, optA_some]
    exact fin _ _ _ _ _ _ hB3 hA3 f0
  simp only [drA_true, ti42_f0, ti42_f1, Nat.zero_add, l0 G hG, l1 G hG, optA_some, intA_eql, ifA_ite, frzLK_ptr, frzLK_d, frzLK_nil]
  simp only [frzLK_ptr, frzLK_d, frzLK_nil] at gs tn last
  have rest : if a.do_ = 3 then _ else _ := ite_of (fun _ => gs) fun _ => last
  refine ite_of (fun h1 => ite_of (fun _ => tn _) fun _ => rest) fun h1 => ite_of (fun h2 => tn _) fun h2 => rest
theorem ix36 {nl : Bool} {l : List Ac} {j : Nat} {a : Ac} (h : l[j]? = some a) : indexAddrA ti36 3 (.d (.sl nl (l.map Ac.dats))) (.d (.int .i64 (j : Int))) = some (.vptr a.dats 0) := by
  have h1 : (l.map Ac.dats)[j]? = some a.dats := by rw [List.getElem?_map, h]; rfl
  simp only [indexAddrA, ti36, Int.natCast_nonneg, if_true, Int.toNat_natCast, h1, List.length_cons, List.length_nil, Nat.zero_add, Nat.reduceAdd]
theorem long_c {nl : Bool} {l : List Ac} (hl : l.length < 2 ^ 62) (hk : ∀ b, (b = false → l.length ≤ 300 ∧ ∀ a ∈ l, a.row.length ≤ 60) → K (.d (.bool b)) H) : CallsA Try.prog 18 [.d (.sl true []), .d (.sl nl (l.map Ac.dats))] H K := by
  apply C18
  unfold S18
  refine loop_ind (fun n vs G => ∃ j : Nat, j ≤ l.length ∧ n = l.length - j ∧ vs = [.d (.sl true []), .d (.sl nl (l.map Ac.dats)), .d (.int .i64 (j : Int))] ∧ G = H ∧ ∀ i, i < j → ∀ a, l[i]? = some a → a.row.length ≤ 60) (n := l.length) ⟨0, Nat.zero_le _, rfl, rfl, rfl, fun i hi => by omega⟩ ?_
  rintro X n vs G ⟨j, hj, rfl, rfl, rfl, hrow⟩ hX
  by_cases hjl : j = l.length
  · subst hjl
    have hall : ∀ a ∈ l, a.row.length ≤ 60 := fun a ha => by
      obtain ⟨i, hi⟩ := List.getElem?_of_mem ha
      exact hrow i (List.getElem?_eq_some_iff.1 hi).1 a hi
    have n0 : ¬ (((0 : Nat) : Int) > 300) := by decide
    simp only [List.getD_cons_succ, List.getD_cons_zero, lenSl_d, List.length_map, List.length_nil, optA_some, intA_lss, Int.lt_irrefl, decide_false, ifA_f, intA_gtr, ifA_ite, n0]
    refine ite_of (fun h => ?_) fun h => ?_
    · simp only [go_sem]; exact ⟨_, le_refl', hk _ fun h => by cases h⟩
    · simp only [go_sem]; exact ⟨_, le_refl', hk _ fun _ => ⟨by omega, hall⟩⟩
  · have hlt : (j : Int) < (l.length : Int) := by omega
    obtain ⟨a, ha⟩ : ∃ a, l[j]? = some a := ⟨_, List.getElem?_eq_getElem (by omega)⟩
    have hw : IntKind.i64.wrap ((j : Int) + 1) = ((j + 1 : Nat) : Int) := by rw [wrap_i64 (by omega) (by omega)]; omega
    have r1 : ldV false 1 (.vptr a.dats 2) G = some (.d (.sl a.rn (ints a.row))) := rfl
    simp only [List.getD_cons_succ, List.getD_cons_zero, lenSl_d, List.length_map, optA_some, intA_lss, hlt, decide_true, ifA_t, ix36 ha, ti42_v2, Nat.zero_add, r1, ints_len, intA_gtr, ifA_ite]
    refine ite_of (fun _ => ?_) fun h60 => ?_
    · simp only [go_sem]; exact ⟨_, le_refl', hk _ fun h => by cases h⟩
    simp only [intA_add, hw, optA_some]
    refine hX (l.length - (j + 1)) _ _ (by omega) ⟨j + 1, by omega, rfl, rfl, rfl, fun i hi x hx => ?_⟩
    by_cases hij : i = j
    · subst hij
      rw [ha] at hx; cases hx
      omega
    · exact hrow i (by omega) x hx
theorem alone_law {nl : Bool} {l : List Ac} {s : UInt8} (hl : l.length < 2 ^ 62) (hok : ∀ a ∈ l, a.Ok) (hk : ∀ H', K (.d (.bool true)) H') : CallsA Try.prog 5 [.d (.sl nl (l.map Ac.dats)), .d (.int .u8 s.toNat)] H K := by
  have hs := s.toNat_lt
  apply C5
  unfold S5
  simp only [frzLK_d, frzLK_nil]
  have aw : ∀ G, CallsA Try.prog 10 [] G fun v5 H6 => retF [v5] H6 K := fun G => awake_c fun H' => by simp only [go_sem]; exact ⟨_, le_refl', hk _⟩
  refine long_c hl fun b hb => ?_
  cases b
  · obtain ⟨h300, h60⟩ := hb rfl
    simp only [ifA_f]
    refine newNil_c fun k H1 hB hle hk1 => ?_
    refine loop_ind (fun n vs G => ∃ (j : Nat) (sv : AV) (ids : List Nat) (sts : List St) (f : Int), j ≤ l.length ∧ n = l.length - j ∧ vs = [.d (.sl nl (l.map Ac.dats)), .d (.int .u8 s.toNat), .ptr k 0 0 0, .d (.int .i64 (j : Int)), .junk] ∧ BusAt G k true [] sv ids sts f ∧ Alone sts ∧ 0 ≤ f ∧ f ≤ 1640 * (j : Int)) (n := l.length) ⟨0, _, _, _, _, Nat.zero_le _, rfl, rfl, hB, Alone.nil, Int.le_refl _, by simp⟩ ?_
    rintro X n vs G ⟨j, sv, ids, sts, f, hj, rfl, rfl, hG, hA, hf0, hf1⟩ hX
    by_cases hjl : j = l.length
    · subst hjl
      simp only [List.getD_cons_succ, List.getD_cons_zero, lenSl_d, List.length_map, optA_some, intA_lss, Int.lt_irrefl, decide_false, ifA_f]
      have hcv : cvI .i64 (.d (.int .u8 (s.toNat : Int))) = some (.d (.int .i64 (s.toNat : Int))) := by
        simp only [cvI_int]
        rw [wrap_i64 (by omega) (by omega)]
      have hrem : intA .rem (.d (.int .i64 (s.toNat : Int))) (.d (.int .i64 61)) = some (.d (.int .i64 ((s.toNat % 61 : Nat) : Int))) := by
        rw [intA_rem (b := 61) (by decide), Int.tmod_eq_emod_of_nonneg (by omega)]
        rfl
      generalize hq : s.toNat % 61 = q at hrem
      have hq60 : q ≤ 60 := by omega
      refine loop_ind (fun n vs G' => ∃ (i : Nat) (sts' : List St) (f' : Int), i ≤ q ∧ n = q - i ∧ vs = [.d (.sl nl (l.map Ac.dats)), .d (.int .u8 s.toNat), .ptr k 0 0 0, .d (.int .i64 (l.length : Int)), .d (.int .i64 (i : Int))] ∧ BusAt G' k true [] sv ids sts' f' ∧ Alone sts' ∧ 0 ≤ f' ∧ f' ≤ f + 1640 * (i : Int)) (n := q) ⟨0, _, _, Nat.zero_le _, rfl, rfl, hG, hA, hf0, by simp⟩ ?_
      rintro X' n vs G' ⟨i, sts', f', hi, rfl, rfl, hG', hA', hf0', hf1'⟩ hX'
      by_cases hiq : i = q
      · subst hiq
        simp only [List.getD_cons_succ, List.getD_cons_zero, hcv, hrem, optA_some, intA_lss, Int.lt_irrefl, decide_false, ifA_f, frzLK_nil]
        exact aw _
      · have hlt : (i : Int) < (q : Int) := by omega
        have hw : IntKind.i64.wrap ((i : Int) + 1) = ((i + 1 : Nat) : Int) := by rw [wrap_i64 (by omega) (by omega)]; omega
        have n0 : ¬ (((0 : Nat) : Int) > 0) := by decide
        simp only [List.getD_cons_succ, List.getD_cons_zero, hcv, hrem, optA_some, intA_lss, hlt, decide_true, ifA_t, frzLK_ptr, frzLK_nil]
        refine Step_c hG' rising_nil (by simp) ⟨hf0', by omega⟩ fun G3 hB4 _ => ?_
        rw [lost_nil] at hB4
        have hs2 := step_f (lost := never) (sts := sts') (f := f') hG'.sts.n40
        have hA4 := hA'.stp hG'.sts.ok (f := f')
        try simp only [frzLK_ptr, frzLK_nil]
        refine Clashes_c hB4 hA4 ?_
        simp only [lenSl_d, List.length_nil, optA_some, intA_gtr, n0, decide_false, ifA_f, intA_add, hw]
        exact hX' (q - (i + 1)) _ _ (by omega) ⟨i + 1, _, _, by omega, rfl, rfl, hB4, hA4, by omega, by omega⟩
    · have hlt : (j : Int) < (l.length : Int) := by omega
      obtain ⟨a, ha⟩ : ∃ a, l[j]? = some a := ⟨_, List.getElem?_eq_getElem (by omega)⟩
      have ham := List.mem_of_getElem? ha
      have hw : IntKind.i64.wrap ((j : Int) + 1) = ((j + 1 : Nat) : Int) := by rw [wrap_i64 (by omega) (by omega)]; omega
      have n0 : ¬ (((0 : Nat) : Int) > 0) := by decide
      have ra : ldV true 3 (.vptr a.dats 0) G = some a.av := rfl
      simp only [List.getD_cons_succ, List.getD_cons_zero, lenSl_d, List.length_map, optA_some, intA_lss, hlt, decide_true, ifA_t, drA_true, ix36 ha, ra, frzLK_d, frzLK_nil]
      refine newRef_c fun w G2 hw2 hle2 hwn => ⟨trivial, ?_⟩
      have hwf : ¬ foot k sv ids w := fun hh => by
        have := hG.foot hh
        rw [hwn] at this; cases this
      try simp only [frzLK_ptr, frzLK_Ac, frzLK_nil]
      refine do_c (hG.le hle2) hw2 hwf hA ⟨hf0, by omega⟩ (hok a ham) (by have := h60 a ham; omega) fun b G3 sv3 ids3 sts3 f3 hB3 hA3 hf3 => ?_
      try simp only [frzLK_ptr, frzLK_nil]
      refine Clashes_c hB3 hA3 ?_
      simp only [lenSl_d, List.length_nil, optA_some, intA_gtr, n0, decide_false, ifA_f, intA_add, hw]
      exact hX (l.length - (j + 1)) _ _ (by omega) ⟨j + 1, sv3, ids3, sts3, f3, by omega, rfl, rfl, hB3, hA3, hf3.1, by omega⟩
  · simp only [ifA_t, frzLK_nil]
    exact aw _
theorem ints_open {l : List (List Dat)} (h : ∀ c ∈ l, ∃ i, c = [Dat.int .i64 i] ∧ (Lit.int .i64 i).wf = true) : ∃ zs : List Int, l = ints zs ∧ ∀ x ∈ zs, -9223372036854775808 ≤ x ∧ x ≤ 9223372036854775807 := by
  induction l with
  | nil => exact ⟨[], rfl, by simp⟩
  | cons c l ih =>
    obtain ⟨i, rfl, hw⟩ := h c (by simp)
    obtain ⟨zs, rfl, has⟩ := ih fun x hx => h x (by simp [hx])
    refine ⟨i :: zs, rfl, fun x hx => ?_⟩
    rcases List.mem_cons.1 hx with rfl | hx
    · simp only [Lit.wf, Bool.and_eq_true, decide_eq_true_eq] at hw
      exact ⟨Int.le_trans (by decide) hw.1, Int.le_trans hw.2 (by decide)⟩
    · exact has x hx
theorem ac_open {ys : List Dat} (h : DatOk Try.prog 8 42 ys) : ∃ a : Ac, ys = a.dats ∧ a.Ok := by
  rw [datOk_struct Try.underlying42] at h
  simp only [datFs_cons, datFs_nil] at h
  obtain ⟨x0, y0, rfl, h0, x1, y1, rfl, h1, x2, y2, rfl, h2, rfl⟩ := h
  simp only [datOk_int Try.underlying3, datOk_slice Try.underlying22] at h0 h1 h2
  obtain ⟨a0, rfl, _⟩ := h0
  obtain ⟨a1, rfl, _⟩ := h1
  obtain ⟨nl, l, rfl, hnl, hl, _⟩ := h2
  obtain ⟨zs, rfl, hz⟩ := ints_open hl
  refine ⟨⟨a0, a1, nl, zs⟩, rfl, hz, fun h => ?_⟩
  have := hnl h
  cases zs with
  | nil => rfl
  | cons b r => cases this
theorem acs_open {l : List (List Dat)} (h : ∀ c ∈ l, DatOk Try.prog 8 42 c) : ∃ zs : List Ac, l = zs.map Ac.dats ∧ ∀ a ∈ zs, a.Ok := by
  induction l with
  | nil => exact ⟨[], rfl, by simp⟩
  | cons c l ih =>
    obtain ⟨a, rfl, ha⟩ := ac_open (h c (by simp))
    obtain ⟨zs, rfl, has⟩ := ih fun x hx => h x (by simp [hx])
    exact ⟨a :: zs, rfl, fun x hx => by
      rcases List.mem_cons.1 hx with rfl | hx
      · exact ha
      · exact has x hx⟩
theorem acs_len {nl : Bool} {l : List (List Dat)} (hlen : l.length * Try.prog.bytesOf 42 ≤ reachBytes) : l.length < 2 ^ 62 := by
  have : Nat.ble 1 (Try.prog.bytesOf 42) = true := by kernel_rfl
  have := Nat.le_of_ble_eq_true this
  have h3 : l.length * 1 ≤ l.length * Try.prog.bytesOf 42 := Nat.mul_le_mul_left _ this
  unfold reachBytes at hlen
  omega
theorem alone_row (xs : List Dat) (h : DatOk Try.prog 9 36 xs) (ys : List Dat) (h2 : DatOk Try.prog 9 5 ys) : CallsA Try.prog 5 [argAV (aggT Try.prog 36) xs, argAV (aggT Try.prog 5) ys] noHeap fun v _ => v = .d (.bool true) := by
  rw [datOk_slice Try.underlying36] at h
  obtain ⟨nl, l, rfl, _, hl, hlen⟩ := h
  have hb := acs_len (nl := nl) hlen
  obtain ⟨zs, rfl, hz⟩ := acs_open hl
  rw [datOk_int (show Try.prog.underlying 5 = some (.int .u8) from Try.underlying5)] at h2
  obtain ⟨s, rfl, hw⟩ := h2
  have hs := Go.bounds_u8 hw
  rw [show aggT Try.prog 36 = false by kernel_rfl, show aggT Try.prog 5 = false by kernel_rfl]
  rw [List.length_map] at hb
  have e : s = ((UInt8.ofNat s.toNat).toNat : Int) := by rw [UInt8.toNat_ofNat']; omega
  rw [e]
  exact alone_law hb hz fun _ => rfl
end
end Go.Proofs.Ytadpakkenokilaa

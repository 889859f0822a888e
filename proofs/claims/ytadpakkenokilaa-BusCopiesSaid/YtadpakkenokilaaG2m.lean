/- Several of my texts as one. -/
import Derived.Test.YtadpakkenokilaaM2c
import Derived.Test.YtadpakkenokilaaGT2c
import Derived.Test.YtadpakkenokilaaA28
set_option linter.unnecessarySimpa false
/- slices.Compact over numbers, in place; slices.Repeat of one number. -/
set_option autoImplicit false
set_option maxRecDepth 100000
set_option linter.unusedVariables false
set_option linter.unusedSimpArgs false
set_option linter.unnecessarySimpa false
namespace Go.Proofs.Ytadpakkenokilaa
open Go Go.AM Go.Proofs
theorem ite_oz {c : Prop} [Decidable c] {a b : Prop} (h1 : c → a) (h2 : ¬ c → b) : if c then a else b := by
  by_cases h : c
  · rw [if_pos h]; exact h1 h
  · rw [if_neg h]; exact h2 h
theorem idx_rs2 {ti : TI} {e sz i ver off n : Nat} {j : Int} (hk : ti.k = .slice e) (h0 : 0 ≤ j) (h : j < n) : indexAddrA ti sz (.rs i ver sz off n) (.d (.int .i64 j)) = some (.ptr i ver (off + j.toNat) 0) := by
  simp only [indexAddrA, hk, h0, h, and_self, if_true]
theorem slice_lo {sz i ver off n : Nat} {lo : Nat} {fro z : Nat} {L : List (List AV)} {H : AHeap} (hi : H i = some (.mem ver fro z L)) (h1 : lo ≤ n) (h2 : off + n ≤ L.length) :
    sliceA sz (.rs i ver sz off n) (some (.d (.int .i64 (lo : Int)))) none none H = some (.rs i ver sz (off + lo) (n - lo)) := by
  simp only [sliceA, hi, if_true, bnd, Int.natCast_nonneg, Int.toNat_natCast, h1, h2, and_self]
theorem slice_hi {sz i ver off n : Nat} {h : Nat} {fro z : Nat} {L : List (List AV)} {H : AHeap} (hi : H i = some (.mem ver fro z L)) (h2 : off + h ≤ L.length) :
    sliceA sz (.rs i ver sz off n) none (some (.d (.int .i64 (h : Int)))) none H = some (.rs i ver sz off h) := by
  simp only [sliceA, hi, if_true, bnd, Int.natCast_nonneg, Int.toNat_natCast, Nat.zero_le, h2, and_self, Nat.add_zero, Nat.sub_zero]
/-- What is kept of the first n numbers: those that differ from the one ahead. -/
def cm (l : List Int) : Nat → List Int
  | 0 => []
  | n + 1 => if 1 ≤ n ∧ l.getD n 0 = l.getD (n - 1) 0 then cm l n else cm l n ++ [l.getD n 0]
theorem take_snoc {l : List Int} {n : Nat} (h : n < l.length) : l.take (n + 1) = l.take n ++ [l.getD n 0] := by
  rw [List.take_succ_eq_append_getElem h, List.getD_eq_getElem?_getD, List.getElem?_eq_getElem h]; rfl
theorem cm_take {l : List Int} : ∀ {n : Nat}, n ≤ l.length → (∀ j, 1 ≤ j → j < n → l.getD j 0 ≠ l.getD (j - 1) 0) → cm l n = l.take n
  | 0, _, _ => rfl
  | n + 1, h, hd => by
    have : ¬ (1 ≤ n ∧ l.getD n 0 = l.getD (n - 1) 0) := fun hh => hd n hh.1 (Nat.lt_succ_self n) hh.2
    rw [cm, if_neg this, take_snoc (by omega), cm_take (by omega) fun j h1 h2 => hd j h1 (by omega)]
theorem cm_len {l : List Int} : ∀ {n : Nat}, (cm l n).length ≤ n
  | 0 => Nat.le_refl 0
  | n + 1 => by
    have := cm_len (l := l) (n := n)
    rw [cm]
    split
    · omega
    · rw [List.length_append, List.length_singleton]; omega
section
variable {H0 H : AHeap} {K : AV → AHeap → Prop}
theorem compact_c {l : List Int} (hl : l.length < 2 ^ 40) {v : AV} (h : AM.Own H0 1 H v (ints l)) (hv : isRs v = true ∨ l = []) (hK : K (.d (.sl (nilS v) (ints (cm l l.length)))) H0) : CallsA Try.prog 55 [v] H K := by
  apply C55
  unfold S55
  by_cases h2 : l.length < 2
  · have e : cm l l.length = l := by rw [cm_take (Nat.le_refl _) fun j h3 h4 => by omega, List.take_length]
    rw [e] at hK
    have : (l.length : Int) < 2 := by omega
    simp only [h.len, ints_len, optA_some, intA_lss, this, decide_true, ifA_t]
    exact h.ret le_refl' hK
  · have hnl : ¬ ((l.length : Int) < 2) := by omega
    have hne : l ≠ [] := by rintro rfl; simp at h2
    obtain ⟨i, ver, rfl, hM⟩ := h.toM (hv.resolve_right hne)
    rw [ints_len] at *
    have hK : K (.d (.sl false (ints (cm l l.length)))) H0 := hK
    simp only [lenSl_rs, optA_some, intA_lss, hnl, decide_false, ifA_f]
    refine loop_ind (fun n vs G => ∃ k : Nat, ∃ a b : AV, 1 ≤ k ∧ k ≤ l.length ∧ n = l.length - k ∧ vs = [.rs i ver 1 0 l.length, .d (.int .i64 (k : Int)), a, b] ∧ G = H ∧ ∀ j, 1 ≤ j → j < k → l.getD j 0 ≠ l.getD (j - 1) 0) (n := l.length - 1) ⟨1, _, _, Nat.le_refl 1, by omega, rfl, rfl, rfl, fun j h3 h4 => by omega⟩ ?_
    rintro X n vs G ⟨k, a, b, hk1, hk, rfl, rfl, rfl, hd⟩ hX
    by_cases hkl : k = l.length
    · subst hkl
      simp only [List.getD_cons_succ, List.getD_cons_zero, lenSl_rs, optA_some, intA_lss, Int.lt_irrefl, decide_false, ifA_f]
      rw [cm_take (Nat.le_refl _) hd, List.take_length] at hK
      exact h.ret le_refl' hK
    have hk' : k < l.length := by omega
    have hlt : (k : Int) < (l.length : Int) := by omega
    have hw1 : IntKind.i64.wrap ((k : Int) - 1) = ((k - 1 : Nat) : Int) := by rw [wrap_i64 (by omega) (by omega)]; omega
    have hw2 : IntKind.i64.wrap ((k : Int) + 1) = ((k + 1 : Nat) : Int) := by rw [wrap_i64 (by omega) (by omega)]; omega
    have i1 := idx_rs (ti := ti22) (e := 3) (sz := 1) (i := i) (ver := ver) (n := l.length) (j := (k : Int)) rfl (by omega) hlt
    have i2 := idx_rs (ti := ti22) (e := 3) (sz := 1) (i := i) (ver := ver) (n := l.length) (j := ((k - 1 : Nat) : Int)) rfl (by omega) (by omega)
    have g1 := hM.get (ints_get hk')
    have g2 := hM.get (ints_get (show k - 1 < l.length by omega))
    simp only [List.getD_cons_succ, List.getD_cons_zero, lenSl_rs, optA_some, intA_lss, hlt, decide_true, ifA_t, drA_true, i1, intA_sub, hw1, i2, Int.toNat_natCast, g1, g2, intA_eql, ifA_ite]
    refine ite_oz (fun heq => ?_) fun hne2 => ?_
    · -- the first double
      obtain ⟨L0, hL0, hL1, hL2⟩ := hM.mem
      rw [ints_len] at hL1 hL2
      have s1 := slice_lo (sz := 1) (off := 0) (n := l.length) (lo := k) hL0 (by omega) (by omega)
      simp only [s1, optA_some]
      refine loop_ind (fun n vs G => ∃ (q p : Nat) (m : List Int), 1 ≤ q ∧ q ≤ l.length - k ∧ p + 1 ≤ k + q ∧ n = l.length - k - q ∧ m.length = l.length ∧ vs = [.rs i ver 1 0 l.length, .d (.int .i64 (p : Int)), .rs i ver 1 (0 + k) (l.length - k), .d (.int .i64 (q : Int))] ∧ OwnM H0 1 G i ver (ints m) ∧ m.take p = cm l (k + q) ∧ ∀ j, p ≤ j → m.getD j 0 = l.getD j 0) (n := l.length - k - 1) ⟨1, k, l, Nat.le_refl 1, by omega, by omega, rfl, rfl, rfl, hM, ?_, fun _ _ => rfl⟩ ?_
      · rw [cm, if_pos ⟨hk1, heq⟩, cm_take hk hd]
      rintro X2 n vs G2 ⟨q, p, m, hq1, hq, hpq, rfl, hml, rfl, hM2, hmt, hmd⟩ hX2
      by_cases hql : q = l.length - k
      · subst hql
        have hp : p ≤ l.length := by omega
        obtain ⟨L, e1, e2, e3⟩ := hM2.mem
        rw [ints_len, hml] at e2 e3
        have s2 := slice_lo (sz := 1) (off := 0) (n := l.length) (lo := p) e1 hp (by omega)
        rw [show k + (l.length - k) = l.length by omega] at hmt
        have hpl : (cm l l.length).length = p := by rw [← hmt, List.length_take]; omega
        have fin : ∀ (G3 : AHeap) (L' : List (List AV)), AHeap.le H0 G3 → G3 i = some (.mem ver 0 1 L') → L'.take p = L.take p → p ≤ L'.length → optA (sliceA 1 (.rs i ver 1 0 l.length) none (some (.d (.int .i64 (p : Int)))) none G3) fun v37 => retF [v37] G3 K := by
          intro G3 L' hle hi ht hlen
          rw [slice_hi hi (by omega)]
          have ho : AM.Own H0 1 G3 (.rs i ver 1 0 (ints (cm l l.length)).length) (ints (cm l l.length)) := by
            refine Own.rs hle ints_1 hi ?_ (by rw [ints_len, hpl]; exact hlen) hM2.fresh
            rw [ints_len, hpl, ht, ← hmt]
            have := congrArg (List.take p) e2
            rw [List.take_take, Nat.min_eq_left hp] at this
            rw [this]
            simp only [avs, ints, List.map_take]
          rw [ints_len, hpl] at ho
          exact ho.ret le_refl' hK
        simp only [List.getD_cons_succ, List.getD_cons_zero, lenSl_rs, optA_some, intA_lss, Int.lt_irrefl, decide_false, ifA_f, s2]
        by_cases hp0 : l.length - p = 0
        · have c1 : clA ti3 (.rs i ver 1 (0 + p) (l.length - p)) G2 = some (.tup [], []) := by simp only [clA, clrA, hp0, if_true]
          simp only [c1, stepK_some, sets_nil']
          exact fin G2 L hM2.own.1 e1 rfl (by omega)
        · have c1 : clA ti3 (.rs i ver 1 (0 + p) (l.length - p)) G2 = some (.tup [], [(i, .mem ver 0 1 (L.take (0 + p) ++ repl (l.length - p) ti3.zero ++ L.drop (0 + p + (l.length - p))))]) := by
            simp only [clA, clrA, hp0, if_false, e1]
            rw [if_pos (by refine ⟨?_, ?_, ?_, by decide, Nat.zero_le _, by omega⟩ <;> first | trivial | rfl)]
          simp only [c1, stepK_some, sets_cons, sets_nil']
          refine fin _ (L.take (0 + p) ++ repl (l.length - p) ti3.zero ++ L.drop (0 + p + (l.length - p))) (le_set_own hM2.own.1 hM2.fresh) set_self ?_ ?_
          · rw [Nat.zero_add, List.append_assoc, List.take_append_of_le_length (by rw [List.length_take]; omega), List.take_take, Nat.min_self]
          · simp only [List.length_append, List.length_take]; omega
      · have hq' : q < l.length - k := by omega
        have hqlt : (q : Int) < ((l.length - k : Nat) : Int) := by omega
        have wq1 : IntKind.i64.wrap ((q : Int) - 1) = ((q - 1 : Nat) : Int) := by rw [wrap_i64 (by omega) (by omega)]; omega
        have wq2 : IntKind.i64.wrap ((q : Int) + 1) = ((q + 1 : Nat) : Int) := by rw [wrap_i64 (by omega) (by omega)]; omega
        have wp2 : IntKind.i64.wrap ((p : Int) + 1) = ((p + 1 : Nat) : Int) := by rw [wrap_i64 (by omega) (by omega)]; omega
        have j1 := idx_rs2 (ti := ti22) (e := 3) (sz := 1) (i := i) (ver := ver) (off := 0 + k) (n := l.length - k) (j := (q : Int)) rfl (by omega) hqlt
        have j2 := idx_rs2 (ti := ti22) (e := 3) (sz := 1) (i := i) (ver := ver) (off := 0 + k) (n := l.length - k) (j := ((q - 1 : Nat) : Int)) rfl (by omega) (by omega)
        have j3 := idx_rs (ti := ti22) (e := 3) (sz := 1) (i := i) (ver := ver) (n := l.length) (j := (p : Int)) rfl (by omega) (by omega)
        have f1 := hM2.get (j := 0 + k + q) (ints_get (show 0 + k + q < m.length by omega))
        have f2 := hM2.get (j := 0 + k + (q - 1)) (ints_get (show 0 + k + (q - 1) < m.length by omega))
        have v1 : m.getD (0 + k + q) 0 = l.getD (k + q) 0 := by rw [Nat.zero_add]; exact hmd _ (by omega)
        have v2 : m.getD (0 + k + (q - 1)) 0 = l.getD (k + q - 1) 0 := by rw [Nat.zero_add, show k + (q - 1) = k + q - 1 by omega]; exact hmd _ (by omega)
        rw [v1] at f1
        rw [v2] at f2
        simp only [List.getD_cons_succ, List.getD_cons_zero, lenSl_rs, optA_some, intA_lss, hqlt, decide_true, ifA_t, drA_true, j1, intA_sub, wq1, j2, Int.toNat_natCast, f1, f2, intA_neq, ifA_ite]
        refine ite_oz (fun hne3 => ?_) fun heq3 => ?_
        · obtain ⟨o, p1, p2⟩ := hM2.put (j := p) (y := .int .i64 (l.getD (k + q) 0)) (ints_get (show p < m.length by omega))
          simp only [j3, Int.toNat_natCast, optA_some, p1, stepK_some, sets_cons, sets_nil', intA_add, wq2, wp2]
          refine hX2 (l.length - k - (q + 1)) _ _ (by omega) ⟨q + 1, p + 1, m.set p (l.getD (k + q) 0), by omega, by omega, by omega, rfl, by rw [List.length_set]; exact hml, rfl, ?_, ?_, fun j hj => ?_⟩
          · rw [show ints (m.set p (l.getD (k + q) 0)) = (ints m).set p [.int .i64 (l.getD (k + q) 0)] by simp only [ints, List.map_set]]
            exact p2
          · rw [show k + (q + 1) = (k + q) + 1 by omega, cm, if_neg (fun hh => hne3 hh.2), ← hmt]
            rw [take_snoc (by rw [List.length_set]; omega), List.take_set_of_le (Nat.le_refl p)]
            congr 2
            rw [List.getD_eq_getElem?_getD, List.getElem?_set_self (by omega)]; rfl
          · rw [List.getD_eq_getElem?_getD, List.getElem?_set_ne (by omega), ← List.getD_eq_getElem?_getD]
            exact hmd j (by omega)
        · simp only [intA_add, wq2, optA_some]
          refine hX2 (l.length - k - (q + 1)) _ _ (by omega) ⟨q + 1, p, m, by omega, by omega, by omega, rfl, hml, rfl, hM2, ?_, hmd⟩
          rw [show k + (q + 1) = (k + q) + 1 by omega, cm, if_pos ⟨by omega, Classical.not_not.1 heq3⟩]
          exact hmt
    · simp only [intA_add, hw2, optA_some]
      refine hX (l.length - (k + 1)) _ _ (by omega) ⟨k + 1, _, _, by omega, by omega, rfl, rfl, rfl, fun j h3 h4 => ?_⟩
      by_cases hjk : j = k
      · subst hjk; exact hne2
      · exact hd j h3 (by omega)
end
end Go.Proofs.Ytadpakkenokilaa
/- slices.Clone that goes on being changed, slices.Repeat of ones, a remainder, and whether a number is negative. -/
set_option autoImplicit false
set_option maxRecDepth 100000
set_option linter.unusedVariables false
set_option linter.unusedSimpArgs false
set_option linter.unnecessarySimpa false
namespace Go.Proofs.Ytadpakkenokilaa
open Go Go.AM Go.Proofs
section
variable {H : AHeap} {K : AV → AHeap → Prop}
theorem nmin {a b : Nat} : Nat.min a b = if a ≤ b then a else b := Nat.min_def
theorem nilA_eql' {nl nl2 : Bool} {l l2 : List (List Dat)} : nilA 0 .eql (.d (.sl nl l)) (.d (.sl true l2)) = some (.d (.bool nl)) := by cases nl <;> rfl
theorem bs3_0n {H : AHeap} {n : Nat} : bsA ti3 0 [] [] H n = some (.lit [], []) := rfl
theorem Gr.mine {H0 H : AHeap} {v : AV} {l : List (List Dat)} (h : Gr H0 1 H v l) : Mine H v l := Gr.keep h no_le (fun _ _ => rfl) fun _ _ _ => rfl
theorem cloneM_c {nl : Bool} {l : List Int} (hl : l.length < 2 ^ 40) (hnl : nl = true → l = []) (h : ∀ v H', Gr H 1 H' v (ints l) → nilS v = nl → (isRs v = true ∨ l = []) → (∀ i, idOf v = some i → H i = none) → K v H') : CallsA Try.prog 32 [.d (.sl nl (ints l))] H K := by
  apply C32m
  unfold S32m
  simp only [nilA_eql' (nl2 := true), optA_some]
  cases nl with
  | true =>
    have e := hnl rfl
    subst e
    simp only [ifA_t]
    exact ⟨H, le_refl', h _ H (Gr.nil le_refl') rfl (.inr rfl) fun i hi => by cases hi⟩
  | false =>
    simp only [ifA_f]
    intro n hn
    simp only [bs3_0n, stepK_some, sets_nil']
    refine (Gr.lit le_refl').app (ys := ints l) rfl (by decide) (by decide) ints_1 (by rw [ints_len]; simp [mostBytes]; omega) fun v' H3 hv' hk2 hk3 hn3 => ?_
    rw [List.nil_append] at hv'
    refine ⟨H3, le_refl', h v' H3 hv' (by rw [hn3]; rfl) ?_ fun i hi => ?_⟩
    · rcases hv'.2.2 with ⟨h1, _⟩ | ⟨i, ver, L, rfl, _⟩
      · right; cases l with
        | nil => rfl
        | cons a b => cases h1
      · exact .inl rfl
    · rcases hk3 i hi with h4 | h4
      · cases h4
      · exact h4
theorem mul_41 (γ : Calld) : ∀ (n : Nat), n ≤ 40 → S78 γ (.d (.int .u64 1)) (.d (.int .u64 (n : Int))) H K = retF [.d (.int .u64 0), .d (.int .u64 (n : Int))] H K
  | 0, _ => rfl
  | 1, _ => rfl
  | 2, _ => rfl
  | 3, _ => rfl
  | 4, _ => rfl
  | 5, _ => rfl
  | 6, _ => rfl
  | 7, _ => rfl
  | 8, _ => rfl
  | 9, _ => rfl
  | 10, _ => rfl
  | 11, _ => rfl
  | 12, _ => rfl
  | 13, _ => rfl
  | 14, _ => rfl
  | 15, _ => rfl
  | 16, _ => rfl
  | 17, _ => rfl
  | 18, _ => rfl
  | 19, _ => rfl
  | 20, _ => rfl
  | 21, _ => rfl
  | 22, _ => rfl
  | 23, _ => rfl
  | 24, _ => rfl
  | 25, _ => rfl
  | 26, _ => rfl
  | 27, _ => rfl
  | 28, _ => rfl
  | 29, _ => rfl
  | 30, _ => rfl
  | 31, _ => rfl
  | 32, _ => rfl
  | 33, _ => rfl
  | 34, _ => rfl
  | 35, _ => rfl
  | 36, _ => rfl
  | 37, _ => rfl
  | 38, _ => rfl
  | 39, _ => rfl
  | 40, _ => rfl
  | n + 41, h => by omega
theorem mul_c {n : Nat} (hn : n ≤ 40) (h : K (.tup [.d (.int .u64 0), .d (.int .u64 (n : Int))]) H) : CallsA Try.prog 70 [.d (.int .u64 1), .d (.int .u64 (n : Int))] H K := by
  apply C70
  unfold S70
  simp only [frzLK_d, frzLK_nil]
  apply C78
  rw [mul_41 _ n hn, ret2_dd]
  refine ⟨_, le_refl', ?_⟩
  simp only [extractA_0, extractA_1, optA_some, ret2_dd]
  exact ⟨_, le_refl', h⟩
theorem wrap_u {n : Nat} (h : n ≤ 40) : IntKind.u64.wrap (n : Int) = n := wrap_u64 (by omega)
theorem make3_c {n : Nat} (h1 : n ≤ 300) (h : ∀ m, H m = none → K (.rs m 0 1 0 n) (H.set m (.mem 0 0 1 (avs (ints (List.replicate n 0)))))) : newK H (fun n5 => mkSlA ti3 (.d (.int .i64 n)) (.d (.int .i64 n)) n5) K := by
  intro m hm
  have e : mkSlA ti3 (.d (.int .i64 n)) (.d (.int .i64 n)) m = some (.rs m 0 1 0 n, [(m, .mem 0 0 1 (avs (ints (List.replicate n 0))))]) := by
    have e1 : ti3.bytes = 8 := by kernel_rfl
    have e2 : ti3.size = 1 := rfl
    have e3 : ti3.zero = [.d (.int .i64 0)] := rfl
    have hr : repl n [AV.d (.int .i64 0)] = avs (ints (List.replicate n 0)) := by simp [repl, avs, ints]
    simp only [mkSlA, e1, e2, e3]
    rw [if_pos (by unfold mostBytes; omega), Int.toNat_natCast, hr]
  simp only [e, stepK_some, sets_cons, sets_nil']
  exact h m hm
theorem elems_rs {i ver off n fro z : Nat} {L : List (List AV)} (hi : H i = some (.mem ver fro z L)) (h : off + n ≤ L.length) : elemsA (.rs i ver 1 off n) H = some ((L.drop off).take n) := by
  simp only [elemsA, hi, if_true]
  rw [if_pos (by rw [List.length_take, List.length_drop]; omega)]
theorem cpy_rs {i ver off n : Nat} {m d : List Int} {s : AV} (hi : H i = some (.mem ver 0 1 (avs (ints m)))) (hs : elemsA s H = some (avs (ints d))) (hq : Nat.min d.length n ≠ 0) (h : off + n ≤ m.length) :
    cpyA 1 (.rs i ver 1 off n) s H = some (.d (.int .i64 (Nat.min d.length n : Nat)), [(i, .mem ver 0 1 (avs (ints (m.take off ++ d.take (Nat.min d.length n) ++ m.drop (off + Nat.min d.length n)))))]) := by
  have hall : ((avs (ints d)).all fun y => y.length == 1) = true := by simp [avs, ints, List.all_map]
  have hlen : (avs (ints d)).length = d.length := by rw [avs_length, ints_len]
  have hm : (avs (ints m)).length = m.length := by rw [avs_length, ints_len]
  simp only [cpyA, hs, hall, hlen, if_neg hq, hi]
  rw [if_pos ⟨trivial, by decide⟩, if_pos (by refine ⟨?_, ?_, ?_, Nat.zero_le _, by rw [hm]; exact h⟩ <;> first | trivial | rfl)]
  simp only [avs, ints, List.map_append, List.map_take, List.map_drop]
theorem avs_part {m : List Int} {a b : Nat} : ((avs (ints m)).drop a).take b = avs (ints ((m.drop a).take b)) := by simp only [avs, ints, List.map_take, List.map_drop]
theorem repeat_c {n : Nat} (hn : n ≤ 40) {nl : Bool} (h : ∀ v H', Mine H' v (ints (List.replicate n 1)) → AHeap.le H H' → (∀ i, idOf v = some i → H i = none) → K v H') : CallsA Try.prog 51 [.d (.sl nl [[.int .i64 1]]), .d (.int .i64 (n : Int))] H K := by
  apply C51m
  unfold S51m
  have h0 : ¬ ((n : Int) < 0) := by omega
  have e1 : ((([[Dat.int .i64 1]] : List (List Dat)).length : Nat) : Int) = ((1 : Nat) : Int) := rfl
  have w1 : IntKind.u64.wrap ((1 : Nat) : Int) = 1 := rfl
  have h2 : ¬ ((0 : Int) > 0) := by omega
  simp only [intA_lss, h0, decide_false, optA_some, ifA_f, lenSl_d, e1, cvI_int, w1, wrap_u hn, frzLK_d, frzLK_nil]
  refine mul_c hn ?_
  have h3 : ¬ (9223372036854775807 < (n : Int)) := by omega
  have w2 : IntKind.i64.wrap (n : Int) = n := wrap_i64 (by omega) (by omega)
  simp only [extractA_0, extractA_1, optA_some, intA_gtr, Int.lt_irrefl, h3, decide_false, ifA_f, cvI_int, w2]
  refine make3_c (by omega) fun i hi => ?_
  generalize hG : H.set i (.mem 0 0 1 (avs (ints (List.replicate n 0)))) = G
  have hGi : G i = some (.mem 0 0 1 (avs (ints (List.replicate n 0)))) := by rw [← hG]; exact set_self
  have hle : AHeap.le H G := by rw [← hG]; exact le_set le_refl' hi
  have fin : ∀ (G' : AHeap) (m : List Int), G' i = some (.mem 0 0 1 (avs (ints m))) → m = List.replicate n 1 → AHeap.le H G' → finA (.rs i 0 1 0 n) G' K := by
    intro G' m h4 h5 h6
    subst h5
    have hl : n = (ints (List.replicate n 1)).length := by rw [ints_len, List.length_replicate]
    refine ⟨G', le_refl', h _ G' ?_ h6 fun j hj => by cases hj; exact hi⟩
    conv => arg 2; rw [hl]
    exact Gr.rs no_le ints_1 h4 (by rw [← avs_length]; exact List.take_length) (by rw [avs_length]; exact Nat.le_refl _) rfl
  have es : elemsA (.d (.sl nl [[.int .i64 1]])) G = some (avs (ints [1])) := rfl
  have loop : ∀ (p : Nat) (G1 : AHeap) (m : List Int), (p = n ∨ 1 ≤ p) → p ≤ n → G1 i = some (.mem 0 0 1 (avs (ints m))) → m.length = n → m.take p = List.replicate p 1 → AHeap.le H G1 →
      loopA (fun X25 l26 H27 => optA (lenSl (l26.getD 0 .junk)) fun v28 => optA (intA .lss (l26.getD 1 .junk) v28) fun v29 => ifA v29 (drA true (optA (sliceA 1 (l26.getD 0 .junk) (some (l26.getD 1 .junk)) none none H27) fun v30 => optA (sliceA 1 (l26.getD 0 .junk) none (some (l26.getD 1 .junk)) none H27) fun v31 => stepK (cpyA 1 v30 v31 H27) H27 fun v32 H33 => optA (intA .add (l26.getD 1 .junk) v32) fun v34 => X25 [l26.getD 0 .junk, v34] H33)) (finA (l26.getD 0 .junk) H27 K)) [.rs i 0 1 0 n, .d (.int .i64 (p : Int))] G1 := by
    intro p G1 m hp1 hp hi1 hm ht hle1
    refine loop_ind (fun r vs G => ∃ (p : Nat) (m : List Int), (p = n ∨ 1 ≤ p) ∧ p ≤ n ∧ r = n - p ∧ vs = [.rs i 0 1 0 n, .d (.int .i64 (p : Int))] ∧ G i = some (.mem 0 0 1 (avs (ints m))) ∧ m.length = n ∧ m.take p = List.replicate p 1 ∧ AHeap.le H G) (n := n - p) ⟨p, m, hp1, hp, rfl, rfl, hi1, hm, ht, hle1⟩ ?_
    rintro X r vs G2 ⟨p, m, hp1, hp, rfl, rfl, hi1, hm, ht, hle1⟩ hX
    by_cases hpn : p = n
    · subst hpn
      simp only [List.getD_cons_succ, List.getD_cons_zero, lenSl_rs, optA_some, intA_lss, Int.lt_irrefl, decide_false, ifA_f]
      exact fin G2 m hi1 (by rw [← ht, List.take_of_length_le (by omega)]) hle1
    · have hlt : (p : Int) < (n : Int) := by omega
      have hp0 : 1 ≤ p := by omega
      have hL : (avs (ints m)).length = n := by rw [avs_length, ints_len, hm]
      have s1 := slice_lo (sz := 1) (off := 0) (n := n) (lo := p) hi1 hp (by omega)
      have s2 := slice_hi (sz := 1) (off := 0) (n := n) (h := p) hi1 (by omega)
      have es : elemsA (.rs i 0 1 0 p) G2 = some (avs (ints (m.take p))) := by
        rw [elems_rs hi1 (by omega), avs_part, List.drop_zero]
      have hpl : (m.take p).length = p := by rw [List.length_take]; omega
      have c1 := cpy_rs (off := 0 + p) (n := n - p) hi1 es (by rw [hpl, nmin]; split <;> omega) (by omega)
      rw [hpl] at c1
      obtain ⟨q, hq⟩ : ∃ q, q = Nat.min p (n - p) := ⟨_, rfl⟩
      have hq1 : 1 ≤ q ∧ q ≤ p ∧ q ≤ n - p := by rw [hq, nmin]; split <;> omega
      rw [← hq] at c1
      have hw : IntKind.i64.wrap ((p : Int) + (q : Int)) = ((p + q : Nat) : Int) := by rw [wrap_i64 (by omega) (by omega)]; omega
      simp only [List.getD_cons_succ, List.getD_cons_zero, lenSl_rs, optA_some, intA_lss, hlt, decide_true, ifA_t, drA_true, s1, s2, c1, stepK_some, sets_cons, sets_nil', intA_add, hw]
      refine hX (n - (p + q)) _ _ (by omega) ⟨p + q, m.take (0 + p) ++ (m.take p).take q ++ m.drop (0 + p + q), .inr (by omega), by omega, rfl, rfl, set_self, ?_, ?_, le_set_own hle1 hi⟩
      · simp only [List.length_append, List.length_take, List.length_drop]; omega
      · rw [Nat.zero_add, ht, List.take_append_of_le_length (by simp only [List.length_append, List.length_take, List.length_replicate]; omega), List.take_replicate, Nat.min_eq_left hq1.2.1, List.take_of_length_le (by simp)]
        rw [List.replicate_append_replicate]
  by_cases hn0 : n = 0
  · subst hn0
    have c0 : cpyA 1 (.rs i 0 1 0 0) (.d (.sl nl [[.int .i64 1]])) G = some (.d (.int .i64 0), []) := rfl
    simp only [c0, stepK_some, sets_nil']
    exact loop 0 G _ (.inl rfl) (Nat.le_refl _) hGi rfl rfl hle
  · have c1 := cpy_rs (off := 0) (n := n) hGi es (by rw [nmin]; split <;> simp <;> omega) (by rw [List.length_replicate]; omega)
    rw [show Nat.min ([1] : List Int).length n = 1 by rw [nmin, if_pos (by simp; omega)]; rfl] at c1
    simp only [c1, stepK_some, sets_cons, sets_nil']
    refine loop 1 _ _ (.inr (Nat.le_refl 1)) (by omega) set_self ?_ rfl (le_set_own hle hi)
    simp only [List.length_append, List.length_take, List.length_drop, List.length_replicate, List.length_singleton]; omega
theorem rest_c {a b : Int} (hb : 1 ≤ b ∧ b ≤ 16) (h : ∀ r, 0 ≤ r → r < b → K (.d (.int .i64 r)) H) : CallsA Try.prog 52 [.d (.int .i64 a), .d (.int .i64 b)] H K := by
  apply C52
  unfold S52
  have hb0 : b ≠ 0 := by omega
  have t1 : -b < a.tmod b ∧ a.tmod b < b := by
    have g1 := Int.tmod_lt_of_pos a (show 0 < b by omega)
    have g2 := Int.lt_tmod_of_pos a (show 0 < b by omega)
    exact ⟨g2, g1⟩
  have hw : IntKind.i64.wrap (a.tmod b + b) = a.tmod b + b := wrap_i64 (by omega) (by omega)
  simp only [intA_rem hb0, optA_some, intA_add, hw, ret1_d]
  exact ⟨H, le_refl', h _ (Int.tmod_nonneg _ (by omega)) (Int.tmod_lt_of_pos _ (by omega))⟩
theorem callA_49 {args : List AV} : callA (CallsA Try.prog) pol69 (.func 49 [] []) args H K = frzLK args H (fun l H' => CallsA Try.prog 49 l H' K) := by
  show argsA pol69 49 ([] ++ args ++ []) H _ = _
  rw [List.nil_append, List.append_nil]
  rfl
theorem ixI {nl : Bool} {l : List Int} {j : Nat} (h : j < l.length) : indexAddrA ti22 1 (.d (.sl nl (ints l))) (.d (.int .i64 (j : Int))) = some (.vptr [.int .i64 (l.getD j 0)] 0) :=
  sl_get (e := 3) rfl (by omega) (by rw [Int.toNat_natCast]; exact ints_get h) rfl
theorem ldI {x : Int} : ldV false 1 (.vptr [.int .i64 x] 0) H = some (.d (.int .i64 x)) := rfl
theorem neg_c {nl : Bool} {l : List Int} (hl : l.length < 2 ^ 62) (h : ∀ b, (b = false → ∀ x ∈ l, 0 ≤ x) → K (.d (.bool b)) H) : CallsA Try.prog 50 [.d (.sl nl (ints l)), .func 49 [] []] H K := by
  apply C50
  unfold S50
  simp only [frzLK_d, frzLK_func, frzLK_nil]
  apply C69
  unfold S69
  simp only [lenSl_d, ints_len, optA_some]
  refine loop_ind (fun r vs G => G = H ∧ ∃ j : Nat, j ≤ l.length ∧ r = l.length - j ∧ (∀ i, i < j → 0 ≤ l.getD i 0) ∧ vs = [.d (.sl nl (ints l)), .func 49 [] [], .d (.int .i64 l.length), .d (.int .i64 j)]) (n := l.length) ⟨rfl, 0, by omega, by omega, by omega, rfl⟩ ?_
  rintro X r vs G ⟨rfl, j, hj, rfl, hno, rfl⟩ hX
  by_cases hjl : j = l.length
  · subst hjl
    simp only [List.getD_cons_succ, List.getD_cons_zero, optA_some, intA_lss, Int.lt_irrefl, decide_false, ifA_f, ret1_d]
    refine ⟨G, le_refl', ?_⟩
    simp only [intA_geq, optA_some, ret1_d]
    refine ⟨G, le_refl', h _ fun _ x hx => ?_⟩
    obtain ⟨i, hi, rfl⟩ := List.mem_iff_getElem.1 hx
    have := hno i hi
    rwa [List.getD_eq_getElem?_getD, List.getElem?_eq_getElem hi] at this
  · have hlt : (j : Int) < (l.length : Int) := by omega
    have hw : IntKind.i64.wrap ((j : Int) + 1) = ((j + 1 : Nat) : Int) := by rw [wrap_i64 (by omega) (by omega)]; omega
    simp only [List.getD_cons_succ, List.getD_cons_zero, optA_some, intA_lss, hlt, decide_true, ifA_t, ixI (show j < l.length by omega), ldI, callA_49, frzLK_d, frzLK_nil]
    apply C49
    unfold S49
    simp only [intA_lss, optA_some, ret1_d]
    refine ⟨G, le_refl', ?_⟩
    show ifA _ _ _
    rw [ifA_ite]
    refine ite_oz (fun hyes => ?_) fun hno' => ?_
    · try simp only [ret1_d]
      refine ⟨G, le_refl', ?_⟩
      simp only [intA_geq, optA_some, ret1_d]
      refine ⟨G, le_refl', h _ fun hf => ?_⟩
      have := of_decide_eq_false hf
      omega
    · simp only [intA_add, hw, optA_some]
      refine hX (l.length - (j + 1)) _ _ (by omega) ⟨rfl, j + 1, by omega, rfl, fun i hi => ?_, rfl⟩
      rcases Nat.lt_succ_iff_lt_or_eq.1 hi with hi | rfl
      · exact hno i hi
      · omega
end
end Go.Proofs.Ytadpakkenokilaa

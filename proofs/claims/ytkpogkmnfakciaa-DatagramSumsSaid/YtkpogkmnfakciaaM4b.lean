/- What more functions compute. -/
import Derived.Test.YtkpogkmnfakciaaM4
set_option autoImplicit false
set_option linter.unusedVariables false
set_option linter.unusedSimpArgs false
namespace Go.Proofs.Ytkpogkmnfakciaa
open Go Go.AM Go.Proofs
theorem bs_get {l : List UInt8} {i : Nat} (h : i < l.length) : (bs l)[i]? = some [.int .u8 l[i].toNat] := by simp [bs, h]
theorem u8_ne {a b : UInt8} : ((a.toNat : Int) ≠ (b.toNat : Int)) ↔ a ≠ b := by
  constructor
  · intro h he; exact h (by rw [he])
  · intro h he; exact h (UInt8.toNat_inj.1 (by omega))
theorem take_eq_succ {a b : List UInt8} {i : Nat} (ha : i < a.length) (hb : i < b.length) (h : a.take i = b.take i) (he : a[i] = b[i]) : a.take (i + 1) = b.take (i + 1) := by
  rw [List.take_add_one, List.take_add_one, h, List.getElem?_eq_getElem ha, List.getElem?_eq_getElem hb, he]
theorem sameBytes_c {n1 n2 : Bool} {a b : List UInt8} {H : AHeap} {K : AV → AHeap → Prop} (hl : a.length < 2 ^ 62) (h : K (.d (.bool (decide (a = b)))) H) : CallsA Try.prog 35 [.d (.sl n1 (bs a)), .d (.sl n2 (bs b))] H K := by
  apply C35
  unfold S35
  simp only [bs_length, go_sem]
  split
  · rename_i hne
    exact ⟨H, le_refl', k_bool h (by symm; apply decide_eq_false; intro he; apply hne; rw [he])⟩
  · rename_i hlen
    have hlen : a.length = b.length := by omega
    refine loop_ind (fun m vs H' => H' = H ∧ ∃ i : Nat, i ≤ a.length ∧ m = a.length - i ∧ a.take i = b.take i ∧ vs = [.d (.sl n1 (bs a)), .d (.sl n2 (bs b)), .d (.int .i64 i)]) (n := a.length) ⟨rfl, 0, by omega, by omega, rfl, rfl⟩ ?_
    rintro X m vs H' ⟨rfl, i, hi, rfl, ht, rfl⟩ hX
    simp only [List.getD_cons_succ, List.getD_cons_zero, bs_length, go_sem]
    split
    · rename_i hlt
      have h1 : i < a.length := by omega
      have h2 : i < b.length := by omega
      simp only [sl_get (ti := ti24) (e := 5) (esz := 1) rfl (by omega : (0 : Int) ≤ i) (by simpa using bs_get h1) rfl, sl_get (ti := ti24) (e := 5) (esz := 1) rfl (by omega : (0 : Int) ≤ i) (by simpa using bs_get h2) rfl, u8_ne, go_sem]
      split
      · rename_i hne
        exact ⟨H', le_refl', k_bool h (by symm; apply decide_eq_false; intro he; apply hne; subst he; rfl)⟩
      · rename_i he
        rw [wrap_i64 (by omega) (by omega)]
        exact hX (a.length - (i + 1)) _ _ (by omega) ⟨rfl, i + 1, by omega, rfl, take_eq_succ h1 h2 ht (Classical.not_not.1 he), by simp⟩
    · rename_i hlt
      have hi' : i = a.length := by omega
      subst hi'
      rw [List.take_length, hlen, List.take_length] at ht
      exact ⟨H', le_refl', k_bool h (by simp [ht])⟩
theorem equal_c {n1 n2 : Bool} {a b : List UInt8} {H : AHeap} {K : AV → AHeap → Prop} (hl : a.length < 2 ^ 62) (h : K (.d (.bool (decide (a = b)))) H) : CallsA Try.prog 44 [.d (.sl n1 (bs a)), .d (.sl n2 (bs b))] H K := by
  apply C44
  unfold S44
  simp only [bs_length, go_sem]
  split
  · rename_i hne
    exact ⟨H, le_refl', k_bool h (by symm; apply decide_eq_false; intro he; apply hne; rw [he])⟩
  · rename_i hlen
    have hlen : a.length = b.length := by omega
    refine loop_ind (fun m vs H' => H' = H ∧ ∃ i : Nat, i ≤ a.length ∧ m = a.length - i ∧ a.take i = b.take i ∧ vs = [.d (.sl n1 (bs a)), .d (.sl n2 (bs b)), .d (.int .i64 a.length), .d (.int .i64 i)]) (n := a.length) ⟨rfl, 0, by omega, by omega, rfl, rfl⟩ ?_
    rintro X m vs H' ⟨rfl, i, hi, rfl, ht, rfl⟩ hX
    simp only [List.getD_cons_succ, List.getD_cons_zero, bs_length, go_sem]
    split
    · rename_i hlt
      have h1 : i < a.length := by omega
      have h2 : i < b.length := by omega
      simp only [sl_get (ti := ti24) (e := 5) (esz := 1) rfl (by omega : (0 : Int) ≤ i) (by simpa using bs_get h1) rfl, sl_get (ti := ti24) (e := 5) (esz := 1) rfl (by omega : (0 : Int) ≤ i) (by simpa using bs_get h2) rfl, u8_ne, go_sem]
      split
      · rename_i hne
        exact ⟨H', le_refl', k_bool h (by symm; apply decide_eq_false; intro he; apply hne; subst he; rfl)⟩
      · rename_i he
        rw [wrap_i64 (by omega) (by omega)]
        exact hX (a.length - (i + 1)) _ _ (by omega) ⟨rfl, i + 1, by omega, rfl, take_eq_succ h1 h2 ht (Classical.not_not.1 he), by simp⟩
    · rename_i hlt
      have hi' : i = a.length := by omega
      subst hi'
      rw [List.take_length, hlen, List.take_length] at ht
      exact ⟨H', le_refl', k_bool h (by simp [ht])⟩
theorem nilA_eql {nl nl2 : Bool} {l l2 : List (List Dat)} : nilA 0 .eql (.d (.sl nl l)) (.d (.sl true l2)) = some (.d (.bool nl)) := by cases nl <;> rfl
theorem bs0 {H : AHeap} {n : Nat} : bsA ti5 0 [] [] H n = some (.lit [], []) := rfl
theorem clone_c {nl : Bool} {a : List UInt8} {H : AHeap} {K : AV → AHeap → Prop} (hl : a.length < 2 ^ 40) (hnl : nl = true → a = []) (h : K (.d (.sl nl (bs a))) H) : CallsA Try.prog 34 [.d (.sl nl (bs a))] H K := by
  apply C34
  unfold S34
  simp only [nilA_eql (nl2 := true), go_sem]
  cases nl with
  | true =>
    rw [hnl rfl] at h
    simp only [go_sem]
    exact ⟨H, le_refl', h⟩
  | false =>
    simp only [go_sem]
    intro n hn
    simp only [bs0, go_sem]
    refine (Own.lit (sz := 1) (l := []) le_refl' (by simp)).app (ys := bs a) rfl (by decide) (by decide) bs_sz (by rw [bs_length]; simp [mostBytes]; omega) fun v' H3 hv' _ _ hnl' => ?_
    refine hv'.ret le_refl' ?_
    rw [hnl']
    exact h
def sumStep (s : Int) (c : UInt8) : Int := ((s + c.toNat) % 65536) * 2 % 65536 + ((s + c.toNat) % 65536) / 32768
def sums (l : List UInt8) : Int := l.foldl sumStep 0
def osum (l : List UInt8) : Int := if sums l = 0 then 65535 else sums l
theorem sumStep_bd {s : Int} {c : UInt8} : 0 ≤ sumStep s c ∧ sumStep s c < 65536 := by unfold sumStep; omega
theorem sums_take {l : List UInt8} {i : Nat} (h : i < l.length) : sums (l.take (i + 1)) = sumStep (sums (l.take i)) l[i] := by
  unfold sums
  rw [List.take_add_one, List.getElem?_eq_getElem h, List.foldl_append]
  rfl
theorem sums_bd' : ∀ (l : List UInt8) (s : Int), 0 ≤ s ∧ s < 65536 → 0 ≤ l.foldl sumStep s ∧ l.foldl sumStep s < 65536
  | [], s, h => h
  | c :: l, s, h => sums_bd' l _ sumStep_bd
theorem sums_bd (l : List UInt8) : 0 ≤ sums l ∧ sums l < 65536 := sums_bd' l 0 (by omega)
theorem osum_bd (l : List UInt8) : 1 ≤ osum l ∧ osum l ≤ 65535 := by
  have := sums_bd l
  unfold osum
  split <;> omega
theorem rsum_c {nl : Bool} {a : List UInt8} {H : AHeap} {K : AV → AHeap → Prop} (hl : a.length < 2 ^ 62) (h : K (.d (.int .i64 (osum a))) H) : CallsA Try.prog 37 [.d (.sl nl (bs a))] H K := by
  apply C37
  unfold S37
  refine loop_ind (fun m vs H' => H' = H ∧ ∃ i : Nat, i ≤ a.length ∧ m = a.length - i ∧ vs = [.d (.sl nl (bs a)), .d (.int .i64 (sums (a.take i))), .d (.int .i64 i)]) (n := a.length) ⟨rfl, 0, by omega, by omega, rfl⟩ ?_
  rintro X m vs H' ⟨rfl, i, hi, rfl, rfl⟩ hX
  have hb := sums_bd (a.take i)
  simp only [List.getD_cons_succ, List.getD_cons_zero, bs_length, go_sem]
  split
  · rename_i hlt
    have h1 : i < a.length := by omega
    have hc := a[i].toNat_lt
    simp only [sl_get (ti := ti24) (e := 5) (esz := 1) rfl (by omega : (0 : Int) ≤ i) (by simpa using bs_get h1) rfl, go_sem]
    rw [wrap_i64 (n := (a[i].toNat : Int)) (by omega) (by omega), wrap_i64 (n := sums (a.take i) + a[i].toNat) (by omega) (by omega)]
    simp only [intA_rem (b := 65536) (by decide), intA_quo (b := 32768) (by decide), go_sem]
    rw [Int.tmod_eq_emod_of_nonneg (a := sums (a.take i) + a[i].toNat) (by omega)]
    rw [wrap_i64 (n := (sums (a.take i) + a[i].toNat) % 65536 * 2) (by omega) (by omega), Int.tmod_eq_emod_of_nonneg (by omega), Int.tdiv_eq_ediv_of_nonneg (by omega)]
    rw [wrap_i64 (n := (sums (a.take i) + a[i].toNat) % 65536 / 32768) (by omega) (by omega), wrap_i64 (by omega) (by omega), wrap_i64 (by omega) (by omega)]
    exact hX (a.length - (i + 1)) _ _ (by omega) ⟨rfl, i + 1, by omega, rfl, by rw [sums_take h1]; rfl⟩
  · rename_i hlt
    have hi' : i = a.length := by omega
    subst hi'
    rw [List.take_length]
    unfold osum at h
    split
    · rename_i h0
      rw [if_pos h0] at h
      exact ⟨H', le_refl', h⟩
    · rename_i h0
      rw [if_neg h0] at h
      exact ⟨H', le_refl', h⟩
theorem wrap_u16 {n : Int} (h1 : 0 ≤ n) (h2 : n < 65536) : IntKind.u16.wrap n = n := by
  simp [IntKind.wrap, IntKind.signed, IntKind.bits]
  omega
theorem wrap_u16' (n : Int) : IntKind.u16.wrap n = n % 65536 := by simp [IntKind.wrap, IntKind.signed, IntKind.bits]
theorem or16 {a b : Int} (ha : 0 ≤ a) (ha2 : a < 32768) (hb : 0 ≤ b) (hb2 : b < 2) : IntKind.u16.wrap (BitVec.ofInt 16 (a * 2) ||| BitVec.ofInt 16 b).toNat = a * 2 + b := by
  obtain ⟨x, rfl⟩ := Int.eq_ofNat_of_zero_le ha
  obtain ⟨y, rfl⟩ := Int.eq_ofNat_of_zero_le hb
  have e1 : (BitVec.ofInt 16 ((x : Int) * 2)).toNat = x * 2 := by
    rw [BitVec.toNat_ofInt]; simp; omega
  have e2 : (BitVec.ofInt 16 (y : Int)).toNat = y := by
    rw [BitVec.toNat_ofInt]; simp; omega
  rw [BitVec.toNat_or, e1, e2]
  have e3 : x * 2 ||| y = x * 2 + y := by
    have := Nat.shiftLeft_add_eq_or_of_lt (b := y) (i := 1) (by omega) x
    rw [Nat.shiftLeft_eq, Nat.pow_one] at this
    omega
  rw [e3, wrap_u16 (by omega) (by omega)]
  omega
theorem sum_c {nl : Bool} {a : List UInt8} {H : AHeap} {K : AV → AHeap → Prop} (hl : a.length < 2 ^ 62) (h : K (.d (.int .i64 (osum a))) H) : CallsA Try.prog 36 [.d (.sl nl (bs a))] H K := by
  apply C36
  unfold S36
  simp only [bs_length, go_sem]
  refine loop_ind (fun m vs H' => H' = H ∧ ∃ i : Nat, i ≤ a.length ∧ m = a.length - i ∧ vs = [.d (.int .u16 (sums (a.take i))), .d (.sl nl (bs a)), .d (.int .i64 a.length), .d (.int .i64 i)]) (n := a.length) ⟨rfl, 0, by omega, by omega, rfl⟩ ?_
  rintro X m vs H' ⟨rfl, i, hi, rfl, rfl⟩ hX
  have hb := sums_bd (a.take i)
  simp only [List.getD_cons_succ, List.getD_cons_zero, bs_length, go_sem]
  split
  · rename_i hlt
    have h1 : i < a.length := by omega
    have hc := a[i].toNat_lt
    simp only [sl_get (ti := ti24) (e := 5) (esz := 1) rfl (by omega : (0 : Int) ≤ i) (by simpa using bs_get h1) rfl, intA_shl (b := 1) (by decide), intA_shr (b := 15) (by decide), intA_or, go_sem]
    rw [wrap_u16 (n := (a[i].toNat : Int)) (by omega) (by omega), wrap_u16' (sums (a.take i) + a[i].toNat)]
    rw [show (2 : Int) ^ min (1 : Int).toNat 16 = 2 from rfl, show (2 : Int) ^ min (15 : Int).toNat 16 = 32768 from rfl, Int.fdiv_eq_ediv_of_nonneg _ (by decide)]
    rw [wrap_u16' ((sums (a.take i) + a[i].toNat) % 65536 * 2), show (sums (a.take i) + (a[i].toNat : Int)) % 65536 * 2 % 65536 = ((sums (a.take i) + (a[i].toNat : Int)) % 32768) * 2 by omega]
    erw [or16 (by omega) (by omega) (by omega) (by omega)]
    rw [wrap_i64 (by omega) (by omega)]
    refine hX (a.length - (i + 1)) _ _ (by omega) ⟨rfl, i + 1, by omega, rfl, ?_⟩
    rw [sums_take h1, show sumStep (sums (a.take i)) a[i] = (sums (a.take i) + a[i].toNat) % 32768 * 2 + (sums (a.take i) + a[i].toNat) % 65536 / 32768 by unfold sumStep; omega]
    simp
  · rename_i hlt
    have hi' : i = a.length := by omega
    subst hi'
    rw [List.take_length]
    rw [List.take_length] at hb
    unfold osum at h
    split
    · rename_i h0
      rw [if_pos h0] at h
      exact ⟨H', le_refl', h⟩
    · rename_i h0
      rw [if_neg h0] at h
      rw [wrap_i64 (by omega) (by omega)]
      exact ⟨H', le_refl', h⟩
end Go.Proofs.Ytkpogkmnfakciaa

/- Several of my texts as one. -/
import Derived.Test.YtmciomkibklokaaG23a
import Derived.Test.YtmciomkibklokaaM23q
import Derived.Test.YtmciomkibklokaaT23l
import Derived.Test.YtmciomkibklokaaT23k
set_option linter.unnecessarySimpa false
/- The program's reader of a desktop's bytes. -/
set_option autoImplicit false
set_option maxRecDepth 100000
set_option linter.unusedVariables false
set_option linter.unusedSimpArgs false
set_option linter.unnecessarySimpa false
namespace Go.Proofs.Ytmciomkibklokaa
open Go Go.AM Go.Proofs Go.RowKit
theorem ofInt_toNat {a : Int} : (BitVec.ofInt 64 a).toNat = (a % 18446744073709551616).toNat := by simp [BitVec.toNat_ofInt]
/-- A byte behind a number. -/
theorem or8 {a b : Int} (hb : 0 ≤ b ∧ b < 256) {x : Int} (hx : x % 18446744073709551616 = (a * 256) % 18446744073709551616) : ((BitVec.ofInt 64 x ||| BitVec.ofInt 64 b).toNat : Int) = (a * 256) % 18446744073709551616 + b := by
  rw [BitVec.toNat_or, ofInt_toNat, ofInt_toNat, hx]
  obtain ⟨m, hm⟩ : ∃ m : Nat, ((a * 256) % 18446744073709551616).toNat = 2 ^ 8 * m := ⟨((a * 256) % 18446744073709551616).toNat / 256, by omega⟩
  have hb2 : (b % 18446744073709551616).toNat = b.toNat := by omega
  rw [hm, hb2, ← Nat.two_pow_add_eq_or_of_lt (by omega)]
  omega
theorem shlor_u {v : Nat} {b : UInt8} (hv : v < 2 ^ 56) : IntKind.u64.wrap ((BitVec.ofInt 64 (IntKind.u64.wrap ((v : Int) * 2 ^ 8)) ||| BitVec.ofInt 64 (IntKind.u64.wrap (b.toNat : Int))).toNat) = ((v * 256 + b.toNat : Nat) : Int) := by
  have hb := b.toNat_lt
  have w1 : ∀ x : Int, IntKind.u64.wrap x = x % 18446744073709551616 := fun x => by simp [IntKind.wrap, IntKind.signed, IntKind.bits]
  rw [w1, w1, w1, or8 (a := (v : Int)) (b := (b.toNat : Int) % 18446744073709551616) (by omega) (by omega)]
  omega
theorem shlor_i {v : Int} {b : UInt8} : IntKind.i64.wrap ((BitVec.ofInt 64 (IntKind.i64.wrap (v * 2 ^ 8)) ||| BitVec.ofInt 64 (IntKind.i64.wrap (b.toNat : Int))).toNat) = wrap64 (v * 256 + b.toNat) := by
  have hb := b.toNat_lt
  simp only [IntKind.wrap_i64]
  rw [show ((b.toNat : Int) + 9223372036854775808) % 18446744073709551616 - 9223372036854775808 = b.toNat by omega, or8 (a := v) (by omega) (by omega)]
  unfold wrap64
  omega
/-! ### the reader's state: what is left, or its error -/
abbrev St := Except Int By
def RS (H : AHeap) (q : Nat) : St → Prop
  | .ok r => r.length < 2 ^ 50 ∧ ∃ nl, (nl = true → r = []) ∧ H q = some (.mem 0 0 2 [[.d (.sl nl (bs r)), .d (.int .i64 0)]])
  | .error e => e ≠ 0 ∧ ∃ nl l, H q = some (.mem 0 0 2 [[.d (.sl nl l), .d (.int .i64 e)]])
/-- Everything but the reader is as it was. -/
def Fq (q : Nat) (H H' : AHeap) : Prop := ∀ i o, H i = some o → i ≠ q → H' i = some o
theorem Fq.refl {q : Nat} {H : AHeap} : Fq q H H := fun _ _ h _ => h
theorem Fq.trans {q : Nat} {H H' H'' : AHeap} (h : Fq q H H') (k : Fq q H' H'') : Fq q H H'' := fun i o hi hn => k i o (h i o hi hn) hn
theorem Fq.of {q : Nat} {H H' : AHeap} (h : AHeap.le H H') : Fq q H H' := fun i o hi _ => h i o hi
theorem Fq.set {q : Nat} {H : AHeap} {o : AObj} : Fq q H (H.set q o) := fun i o hi hn => by rw [set_ne hn]; exact hi
def must (b : Bool) (e : Int) : St → St
  | .ok r => if b then .ok r else .error e
  | .error e' => .error e'
def sTk (n : Nat) : St → St
  | .ok r => if n ≤ r.length then .ok (r.drop n) else .error 6
  | .error e => .error e
section
variable {H : AHeap} {q : Nat} {st : St} {K : AV → AHeap → Prop}
theorem RS.some (h : RS H q st) : (H q).isSome := by
  cases st with
  | ok r => obtain ⟨_, nl, _, h⟩ := h; rw [h]; rfl
  | error e => obtain ⟨_, nl, l, h⟩ := h; rw [h]; rfl
theorem RS.le {H' : AHeap} (h : RS H q st) (hle : AHeap.le H H') : RS H' q st := by
  cases st with
  | ok r => obtain ⟨h0, nl, hn, h⟩ := h; exact ⟨h0, nl, hn, hle _ _ h⟩
  | error e => obtain ⟨h0, nl, l, h⟩ := h; exact ⟨h0, nl, l, hle _ _ h⟩
theorem RS.keep {H' : AHeap} (h : RS H q st) (hle : H' q = H q) : RS H' q st := by
  cases st with
  | ok r => obtain ⟨h0, nl, hn, h⟩ := h; exact ⟨h0, nl, hn, hle.trans h⟩
  | error e => obtain ⟨h0, nl, l, h⟩ := h; exact ⟨h0, nl, l, hle.trans h⟩
theorem must_c {b : Bool} {e : Int} (h : RS H q st) (he : e ≠ 0) (hk : ∀ H', RS H' q (must b e st) → Fq q H H' → K (.tup []) H') : CallsA Try.prog 33 [.ptr q 0 0 0, .d (.bool b), .d (.int .i64 e)] H K := by
  apply C33
  unfold S33
  cases st with
  | ok r =>
    obtain ⟨h0, nl, hnl, h⟩ := h
    have l1 : ldV false 1 (.ptr q 0 0 1) H = some (.d (.int .i64 0)) := ldV_at h rfl rfl
    simp only [nilCkA, ti68_f1, Nat.zero_add, l1, optA_some, intA_eql, decide_true, ifA_t, unA_not]
    cases b with
    | true =>
      simp only [Bool.not_true, ifA_f, ret0]
      exact ⟨_, le_refl', hk H ⟨h0, nl, hnl, h⟩ .refl⟩
    | false =>
      simp only [Bool.not_false, ifA_t, stoA_at h (Nat.le_refl 0) rfl (show 1 < 2 by decide) (v := .d (.int .i64 e)) rfl rfl, stepK_some, AHeap.sets, ret0]
      exact ⟨_, le_refl', hk _ ⟨he, nl, _, set_self⟩ .set⟩
  | error e' =>
    obtain ⟨h0, nl, l, h⟩ := h
    have l1 : ldV false 1 (.ptr q 0 0 1) H = some (.d (.int .i64 e')) := ldV_at h rfl rfl
    simp only [nilCkA, ti68_f1, Nat.zero_add, l1, optA_some, intA_eql, h0, decide_false, ifA_f, ret0]
    exact ⟨_, le_refl', hk H ⟨h0, nl, l, h⟩ .refl⟩
/-- take: what comes is right if the reader goes on. -/
theorem take_c {n : Nat} (h : RS H q st) (hn : n < 2 ^ 40) (hk : ∀ nl (b : By) H', RS H' q (sTk n st) → (∀ r, st = .ok r → n ≤ r.length → b = r.take n ∧ (0 < n → nl = false)) → b.length ≤ n → (nl = true → b = []) → Fq q H H' → K (.d (.sl nl (bs b))) H') : CallsA Try.prog 31 [.ptr q 0 0 0, .d (.int .i64 n)] H K := by
  apply C31
  unfold S31
  cases st with
  | error e =>
    obtain ⟨h0, nl, l, h⟩ := h
    have l0 : ldV false 1 (.ptr q 0 0 0) H = some (.d (.sl nl l)) := ldV_at h rfl rfl
    simp only [nilCkA, ti68_f0, Nat.zero_add, l0, optA_some, lenSl_d, intA_geq, frzLK_ptr, frzLK_d, frzLK_nil]
    refine must_c (st := .error e) ⟨h0, nl, l, h⟩ (by decide) fun H' hR hF => ?_
    obtain ⟨h1, nl1, l1', h2⟩ := hR
    have l1 : ldV false 1 (.ptr q 0 0 1) H' = some (.d (.int .i64 e)) := ldV_at h2 rfl rfl
    simp only [ti68_f1, Nat.zero_add, l1, optA_some, intA_neq, ne_eq, h1, not_false_eq_true, decide_true, ifA_t, ret1_d]
    exact ⟨_, le_refl', hk true [] H' ⟨h1, nl1, l1', h2⟩ (fun r hr => by cases hr) (Nat.zero_le _) (fun _ => rfl) hF⟩
  | ok r =>
    obtain ⟨h0, nl, hnl, h⟩ := h
    have l0 : ldV false 1 (.ptr q 0 0 0) H = some (.d (.sl nl (bs r))) := ldV_at h rfl rfl
    simp only [nilCkA, ti68_f0, Nat.zero_add, l0, optA_some, lenSl_d, bs_length, intA_geq, frzLK_ptr, frzLK_d, frzLK_nil]
    refine must_c (st := .ok r) ⟨h0, nl, hnl, h⟩ (by decide) fun H' hR hF => ?_
    by_cases hle : n ≤ r.length
    · have hc : decide ((r.length : Int) ≥ n) = true := by rw [decide_eq_true]; omega
      rw [hc] at hR
      obtain ⟨_, nl2, hn2, h2⟩ := hR
      have l1 : ldV false 1 (.ptr q 0 0 1) H' = some (.d (.int .i64 0)) := ldV_at h2 rfl rfl
      have l0 : ldV false 1 (.ptr q 0 0 0) H' = some (.d (.sl nl2 (bs r))) := ldV_at h2 rfl rfl
      have hhd : (n = 0 ∨ headLen 1 (bs r) = true) := by
        cases r with
        | nil => exact .inr rfl
        | cons x r => exact .inr rfl
      simp only [ti68_f0, ti68_f1, Nat.zero_add, l1, l0, optA_some, intA_neq, ne_eq, not_true_eq_false, decide_false, ifA_f]
      rw [show sliceA 1 (.d (.sl nl2 (bs r))) none (some (.d (.int .i64 (n : Int)))) none H' = some (.d (.sl nl2 (bs (r.take n)))) by
        simp only [sliceA, AM.bnd, Int.natCast_nonneg, if_true, Int.toNat_natCast, bs_length]
        rw [if_pos ⟨Nat.zero_le _, hle, .inl trivial⟩]
        simp [bs]]
      rw [optA_some, show sliceA 1 (.d (.sl nl2 (bs r))) (some (.d (.int .i64 (n : Int)))) none none H' = some (.d (.sl nl2 (bs (r.drop n)))) by
        simp only [sliceA, AM.bnd, Int.natCast_nonneg, if_true, Int.toNat_natCast, bs_length]
        rw [if_pos ⟨hle, Nat.le_refl _, hhd⟩, List.take_of_length_le (by rw [List.length_drop, bs_length]; exact Nat.le_refl _)]
        simp [bs, List.map_drop]]
      simp only [optA_some, stoA_at h2 (Nat.le_refl 0) rfl (show 0 < 2 by decide) (v := .d (.sl nl2 (bs (r.drop n)))) rfl rfl, stepK_some, AHeap.sets, ret1_d]
      refine ⟨_, le_refl', hk nl2 (r.take n) _ ?_ (fun r' hr _ => ?_) (by simp; omega) (fun hh => by rw [hn2 hh]; simp) (hF.trans .set)⟩
      · simp only [sTk]; rw [if_pos hle]
        exact ⟨by simp; omega, nl2, fun hh => by rw [hn2 hh]; simp, set_self⟩
      · cases hr
        refine ⟨rfl, fun h0n => ?_⟩
        cases nl2 with
        | false => rfl
        | true => rw [hn2 rfl] at hle; simp at hle; omega
    · have hc : decide ((r.length : Int) ≥ n) = false := by rw [decide_eq_false]; omega
      rw [hc] at hR
      obtain ⟨h1, nl1, l1', h2⟩ := hR
      have l1 : ldV false 1 (.ptr q 0 0 1) H' = some (.d (.int .i64 6)) := ldV_at h2 rfl rfl
      simp only [ti68_f1, Nat.zero_add, l1, optA_some, intA_neq, ne_eq, h1, not_false_eq_true, decide_true, ifA_t, ret1_d]
      refine ⟨_, le_refl', hk true [] H' ?_ (fun r' hr hle' => by cases hr; exact absurd hle' hle) (Nat.zero_le _) (fun _ => rfl) hF⟩
      simp only [sTk]; rw [if_neg hle]
      exact ⟨h1, nl1, l1', h2⟩
theorem be_take {b : By} {i : Nat} (h : i < b.length) : be (b.take (i + 1)) = be (b.take i) * 256 + b[i].toNat := by
  have e : b.take (i + 1) = b.take i ++ [b[i]] := by rw [List.take_add_one, List.getElem?_eq_getElem h]; rfl
  rw [e, be_snoc]
theorem width_c {n : Nat} (hn : n = 1 ∨ n = 2 ∨ n = 4) (hk : K (.d (.bool true)) H) : CallsA Try.prog 68 [.d (.int .i64 n)] H K := by
  apply C68
  unfold S68
  rcases hn with rfl | rfl | rfl <;> (simp only [go_sem]; simp; exact ⟨_, le_refl', hk⟩)
def getV (n : Nat) (b : By) : Int := if n ≤ b.length then (be (b.take n) : Nat) else 0
theorem bs_get {b : By} {i : Nat} (h : i < b.length) : (bs b)[i]? = some [.int .u8 b[i].toNat] := by simp [bs, h]
theorem get_c {n : Nat} {nl : Bool} {b : By} (hn : n = 1 ∨ n = 2 ∨ n = 4) (hb : b.length < 2 ^ 40) (hk : ∀ x y : Int, K (.tup [.d (.int .i64 (getV n b)), .d (.int .i64 x), .d (.int .i64 y)]) H) : CallsA Try.prog 60 [.d (.sl nl (bs b)), .d (.int .i64 0), .d (.int .i64 n)] H K := by
  apply C60
  unfold S60
  have hn4 : 1 ≤ n ∧ n ≤ 4 := by omega
  simp only [frzLK_d, frzLK_nil]
  refine width_c hn ?_
  simp only [unA_not, Bool.not_true, optA_some, ifA_f, intA_lss, Int.lt_irrefl, decide_false, lenSl_d, bs_length, intA_gtr, intA_sub, Int.sub_zero]
  rw [show decide ((b.length : Int) < 0) = false by rw [decide_eq_false]; omega, ifA_f, wrap_i64 (n := (b.length : Int)) (by omega) (by omega)]
  by_cases hlt : n ≤ b.length
  · rw [show decide ((b.length : Int) < n) = false by rw [decide_eq_false]; omega, ifA_f]
    simp only [intA_add, Int.zero_add, optA_some]
    rw [wrap_i64 (n := (n : Int)) (by omega) (by omega)]
    rw [show sliceA 1 (.d (.sl nl (bs b))) (some (.d (.int .i64 0))) (some (.d (.int .i64 (n : Int)))) none H = some (.d (.sl nl (bs (b.take n)))) by
      simp only [sliceA, AM.bnd, Int.natCast_nonneg, if_true, Int.toNat_natCast, bs_length, Int.le_refl, Int.toNat_zero]
      rw [if_pos ⟨Nat.zero_le _, hlt, .inl trivial⟩]
      simp [bs]]
    have hl : (b.take n).length = n := by simp; omega
    simp only [optA_some, lenSl_d, bs_length, hl]
    refine loop_ind (fun m vs G => ∃ i : Nat, i ≤ n ∧ m = n - i ∧ G = H ∧ vs = [.d (.int .i64 0), .d (.int .i64 n), .d (.int .i64 (be (b.take i) : Nat)), .d (.sl nl (bs (b.take n))), .d (.int .i64 n), .d (.int .i64 i)]) (n := n) ⟨0, Nat.zero_le _, rfl, rfl, by simp [be]⟩ ?_
    rintro X m vs G ⟨i, hi, rfl, rfl, rfl⟩ hX
    simp only [List.getD_cons_succ, List.getD_cons_zero, intA_lss, optA_some, ifA_ite]
    by_cases hin : i < n
    · rw [if_pos (by omega)]
      have hbi : i < b.length := by omega
      have hix : indexAddrA ti22 1 (.d (.sl nl (bs (b.take n)))) (.d (.int .i64 i)) = some (.vptr [.int .u8 b[i].toNat] 0) := by
        refine sl_get (e := 5) rfl (by omega) ?_ rfl
        rw [Int.toNat_natCast, bs_get (by rw [hl]; exact hin)]
        simp
      have hlt1 := be_lt (b.take i)
      have hlti : (b.take i).length = i := by simp; omega
      rw [hlti] at hlt1
      have h3 : 256 ^ i ≤ 256 ^ 3 := Nat.pow_le_pow_right (by decide) (by omega)
      have hbb := b[i].toNat_lt
      simp only [hix, optA_some, ldV_v, ldM, partV, List.drop_zero, List.take_succ_cons, List.take_zero, List.map_cons, List.map_nil, List.length_cons, List.length_nil, if_true, Bool.false_eq_true, if_false, Nat.zero_add, cvI_int, intA_add]
      rw [intA_shl (by decide), optA_some, intA_or, optA_some]
      erw [shlor_i]
      rw [show wrap64 (((be (b.take i) : Nat) : Int) * 256 + (b[i].toNat : Int)) = ((be (b.take (i + 1)) : Nat) : Int) by rw [be_take hbi]; unfold wrap64; omega]
      rw [wrap_i64 (by omega) (by omega)]
      exact hX (n - (i + 1)) _ _ (by omega) ⟨i + 1, by omega, rfl, rfl, rfl⟩
    · rw [if_neg (by omega)]
      have hin' : i = n := by omega
      subst hin'
      simp only [intA_add, optA_some, go_sem]
      refine ⟨_, le_refl', ?_⟩
      have := hk (IntKind.i64.wrap (0 + (i : Int))) 0
      simp only [getV, hlt, if_true] at this
      simpa using this
  · rw [show decide ((b.length : Int) < n) = true by rw [decide_eq_true]; omega, ifA_t]
    simp only [go_sem]
    refine ⟨_, le_refl', ?_⟩
    have := hk 0 6
    simp only [getV, hlt, if_false] at this
    exact this
def sNum (n : Nat) (lo hi : Int) : St → St
  | .ok r => if n ≤ r.length then (if lo ≤ be (r.take n) ∧ (be (r.take n) : Int) ≤ hi then .ok (r.drop n) else .error 3) else .error 6
  | .error e => .error e
theorem number_c {n : Nat} {lo hi : Int} (h : RS H q st) (hn : n = 1 ∨ n = 2 ∨ n = 4) (hlo : 0 ≤ lo) (hk : ∀ (v : Int) H', RS H' q (sNum n lo hi st) → (∀ r, st = .ok r → n ≤ r.length → lo ≤ be (r.take n) → (be (r.take n) : Int) ≤ hi → v = be (r.take n)) → 0 ≤ v ∧ v < 2 ^ 39 → Fq q H H' → K (.d (.int .i64 v)) H') :
    CallsA Try.prog 32 [.ptr q 0 0 0, .d (.int .i64 n), .d (.int .i64 lo), .d (.int .i64 hi)] H K := by
  apply C32
  unfold S32
  simp only [frzLK_ptr, frzLK_d, frzLK_nil]
  refine take_c h (by omega) fun nl b H1 hR1 hb hbl hnl hF1 => ?_
  simp only [frzLK_d, frzLK_nil]
  refine get_c hn (by omega) fun x y => ?_
  simp only [extractA_0, extractA_1, extractA_2, optA_some, frzLK_d, frzLK_nil]
  refine within_c ?_
  simp only [frzLK_ptr, frzLK_d, frzLK_nil]
  refine must_c hR1 (by decide) fun H2 hR2 hF2 => ?_
  have hv : 0 ≤ getV n b ∧ getV n b < 2 ^ 39 := by
    unfold getV
    split
    · have := be_lt (b.take n)
      have hl : (b.take n).length = n := by simp; omega
      rw [hl] at this
      have h3 : 256 ^ n ≤ 256 ^ 4 := Nat.pow_le_pow_right (by decide) (by omega)
      omega
    · omega
  have e : must (decide (lo ≤ getV n b ∧ getV n b ≤ hi)) 3 (sTk n st) = sNum n lo hi st ∧ ∀ r, st = .ok r → n ≤ r.length → getV n b = be (r.take n) := by
    cases st with
    | error e => exact ⟨rfl, fun r hr => by cases hr⟩
    | ok r =>
      by_cases hle : n ≤ r.length
      · obtain ⟨rfl, _⟩ := hb r rfl hle
        have hg : getV n (r.take n) = be (r.take n) := by
          unfold getV
          rw [if_pos (by simp; omega), List.take_take, Nat.min_self]
        refine ⟨?_, fun r' hr _ => by cases hr; exact hg⟩
        rw [hg]
        simp only [sTk, sNum, hle, if_true, must, decide_eq_true_eq]
      · refine ⟨?_, fun r' hr hle' => by cases hr; exact absurd hle' hle⟩
        simp only [sTk, sNum, hle, if_false, must]
  rw [e.1] at hR2
  cases hs : sNum n lo hi st with
  | ok r' =>
    rw [hs] at hR2
    obtain ⟨h0, nl2, hn2, h2⟩ := hR2
    have l1 : ldV false 1 (.ptr q 0 0 1) H2 = some (.d (.int .i64 0)) := ldV_at h2 rfl rfl
    simp only [nilCkA, ti68_f1, Nat.zero_add, l1, optA_some, intA_neq, ne_eq, not_true_eq_false, decide_false, ifA_f, ret1_d]
    exact ⟨_, le_refl', hk _ H2 (by rw [hs]; exact ⟨h0, nl2, hn2, h2⟩) (fun r hr hle _ _ => e.2 r hr hle) hv (hF1.trans hF2)⟩
  | error e' =>
    rw [hs] at hR2
    obtain ⟨h0, nl2, l2, h2⟩ := hR2
    have l1 : ldV false 1 (.ptr q 0 0 1) H2 = some (.d (.int .i64 e')) := ldV_at h2 rfl rfl
    simp only [nilCkA, ti68_f1, Nat.zero_add, l1, optA_some, intA_neq, ne_eq, h0, not_false_eq_true, decide_true, ifA_t, ret1_d]
    refine ⟨_, le_refl', hk 0 H2 (by rw [hs]; exact ⟨h0, nl2, l2, h2⟩) (fun r hr hle h1 h3 => ?_) (by decide) (hF1.trans hF2)⟩
    subst hr
    simp only [sNum, hle, h1, h3, and_self, if_true] at hs
    cases hs
theorem whole_c (h : RS H q st) (hk : ∀ (v : Int) H', RS H' q (sTk 8 st) → (∀ r, st = .ok r → 8 ≤ r.length → v = wrap64 (be (r.take 8))) → -9223372036854775808 ≤ v ∧ v ≤ 9223372036854775807 → Fq q H H' → K (.d (.int .i64 v)) H') : CallsA Try.prog 35 [.ptr q 0 0 0] H K := by
  apply C35
  unfold S35
  simp only [frzLK_ptr, frzLK_d, frzLK_nil]
  refine take_c (n := 8) h (by omega) fun nl b H1 hR1 hb hbl hnl hF1 => ?_
  simp only [lenSl_d, bs_length, optA_some]
  refine loop_ind (fun m vs G => ∃ i : Nat, i ≤ b.length ∧ m = b.length - i ∧ G = H1 ∧ vs = [.d (.int .u64 (be (b.take i) : Nat)), .d (.sl nl (bs b)), .d (.int .i64 b.length), .d (.int .i64 i)]) (n := b.length) ⟨0, Nat.zero_le _, rfl, rfl, by simp [be]⟩ ?_
  rintro X m vs G ⟨i, hi, rfl, rfl, rfl⟩ hX
  simp only [List.getD_cons_succ, List.getD_cons_zero, intA_lss, optA_some, ifA_ite]
  by_cases hbi : i < b.length
  · rw [if_pos (by omega)]
    have hix : indexAddrA ti22 1 (.d (.sl nl (bs b))) (.d (.int .i64 i)) = some (.vptr [.int .u8 b[i].toNat] 0) := sl_get (e := 5) rfl (by omega) (by rw [Int.toNat_natCast, bs_get hbi]) rfl
    have hlt1 := be_lt (b.take i)
    have hlti : (b.take i).length = i := by simp; omega
    rw [hlti] at hlt1
    have h3 : 256 ^ i ≤ 256 ^ 7 := Nat.pow_le_pow_right (by decide) (by omega)
    have hbb := b[i].toNat_lt
    simp only [hix, optA_some, ldV_v, ldM, partV, List.drop_zero, List.take_succ_cons, List.take_zero, List.map_cons, List.map_nil, List.length_cons, List.length_nil, if_true, Bool.false_eq_true, if_false, Nat.zero_add, cvI_int, intA_add]
    rw [intA_shl (by decide), optA_some, intA_or, optA_some]
    erw [shlor_u (by omega)]
    rw [← be_take hbi, wrap_i64 (by omega) (by omega)]
    exact hX (b.length - (i + 1)) _ _ (by omega) ⟨i + 1, by omega, rfl, rfl, rfl⟩
  · rw [if_neg (by omega)]
    have hin : i = b.length := by omega
    subst hin
    simp only [cvI_int, optA_some, ret1_d, List.take_length]
    refine ⟨_, le_refl', ?_⟩
    have e : IntKind.i64.wrap ((be b : Nat) : Int) = wrap64 (be b) := by rw [IntKind.wrap_i64, wrap64]
    rw [e]
    refine hk _ _ hR1 (fun r hr hle => ?_) (by unfold wrap64; omega) hF1
    rw [(hb r hr hle).1]
def sCnt : St → St
  | .ok r => if 2 ≤ r.length then (if be (r.take 2) ≤ 200 then .ok (r.drop 2) else .error 4) else .error 6
  | .error e => .error e
theorem count_c (h : RS H q st) (hk : ∀ (n : Nat) H', RS H' q (sCnt st) → (∀ r, st = .ok r → 2 ≤ r.length → be (r.take 2) ≤ 200 → n = be (r.take 2)) → n ≤ 200 → Fq q H H' → K (.d (.int .i64 n)) H') : CallsA Try.prog 30 [.ptr q 0 0 0] H K := by
  apply C30
  unfold S30
  simp only [frzLK_ptr, frzLK_d, frzLK_nil]
  refine number_c (n := 2) h (by omega) (by omega) fun v H1 hR1 hv1 hv2 hF1 => ?_
  simp only [intA_leq, optA_some, frzLK_ptr, frzLK_d, frzLK_nil]
  refine must_c hR1 (by decide) fun H2 hR2 hF2 => ?_
  obtain ⟨m, rfl⟩ : ∃ m : Nat, v = m := ⟨v.toNat, by omega⟩
  have e : foldA min2A [.d (.int .i64 (m : Int)), .d (.int .i64 200)] = some (.d (.int .i64 ((min m 200 : Nat) : Int))) := by
    simp only [foldA, List.foldl_cons, List.foldl_nil, min2A]
    by_cases hm : m ≤ 200
    · rw [if_neg (by omega), Nat.min_eq_left hm]
    · rw [if_pos (by omega), Nat.min_eq_right (by omega)]; rfl
  rw [e]
  simp only [optA_some, ret1_d]
  refine ⟨_, le_refl', hk _ H2 ?_ (fun r hr hle h3 => ?_) (Nat.min_le_right _ _) (hF1.trans hF2)⟩
  · have : must (decide ((m : Int) ≤ 200)) 4 (sNum 2 0 65535 st) = sCnt st := by
      cases st with
      | error e => rfl
      | ok r =>
        simp only [sNum, sCnt]
        by_cases hle : 2 ≤ r.length
        · have hlt := be_lt (r.take 2)
          have hl : (r.take 2).length = 2 := by simp; omega
          rw [hl] at hlt
          have hc : (0 : Int) ≤ be (r.take 2) ∧ (be (r.take 2) : Int) ≤ 65535 := by omega
          have := hv1 r rfl hle hc.1 hc.2
          rw [if_pos hle, if_pos hc, if_pos hle]
          have hm : m = be (r.take 2) := by omega
          subst hm
          by_cases h2 : be (r.take 2) ≤ 200
          · rw [if_pos h2]; simp only [must]; rw [if_pos (by rw [decide_eq_true]; omega)]
          · rw [if_neg h2]; simp only [must]; rw [if_neg (by rw [decide_eq_true_eq]; omega)]
        · rw [if_neg hle, if_neg hle]; rfl
    rw [← this]; exact hR2
  · have hlt := be_lt (r.take 2)
    have hl : (r.take 2).length = 2 := by simp; omega
    rw [hl] at hlt
    have := hv1 r hr hle (by omega) (by omega)
    have hm : m = be (r.take 2) := by omega
    rw [hm, Nat.min_eq_left h3]
theorem bs_sz {a : By} : ∀ c ∈ bs a, c.length = 1 := by intro c hc; obtain ⟨b, _, rfl⟩ := List.mem_map.1 hc; rfl
theorem nilA_eql {nl nl2 : Bool} {l l2 : List (List Dat)} : nilA 0 .eql (.d (.sl nl l)) (.d (.sl true l2)) = some (.d (.bool nl)) := by cases nl <;> rfl
theorem bs0 {H : AHeap} {n : Nat} : bsA ti5 0 [] [] H n = some (.lit [], []) := rfl
theorem clone_c {nl : Bool} {a : By} (hl : a.length < 2 ^ 40) (hnl : nl = true → a = []) (h : K (.d (.sl nl (bs a))) H) : CallsA Try.prog 36 [.d (.sl nl (bs a))] H K := by
  apply C36
  unfold S36
  simp only [nilA_eql (nl2 := true), go_sem]
  cases nl with
  | true =>
    rw [hnl rfl] at h
    simp only [go_sem]
    exact ⟨H, le_refl', h⟩
  | false =>
    simp only [go_sem]
    intro n hn
    simp only [bs0, go_sem]
    refine (Go.AM.Own.lit (sz := 1) (l := []) le_refl' (by simp)).app (ys := bs a) rfl (by decide) (by decide) bs_sz (by rw [bs_length]; simp [mostBytes]; omega) fun v' H3 hv' _ _ hnl' => ?_
    refine hv'.ret le_refl' ?_
    rw [hnl']
    exact h
end
end Go.Proofs.Ytmciomkibklokaa
/- Load, by the program: icons. -/
set_option autoImplicit false
set_option maxRecDepth 100000
set_option linter.unusedVariables false
set_option linter.unusedSimpArgs false
set_option linter.unnecessarySimpa false
namespace Go.Proofs.Ytmciomkibklokaa
open Go Go.AM Go.Proofs Go.RowKit
abbrev bytes (l : By) : ByteArray := ⟨l.toArray⟩
theorem bytes_inj {a b : By} : (bytes a = bytes b) = (a = b) := by
  apply propext
  refine ⟨fun h => ?_, fun h => by rw [h]⟩
  have := congrArg (fun x : ByteArray => x.data.toList) h
  simpa using this
abbrev idat (x : Ic × Bool) : List Dat := [.str (bytes x.1.c), .str (bytes x.1.k), .int .i64 x.1.s, .int .i64 x.1.t, .sl x.2 (bs x.1.b)]
abbrev gdat (x : Pg) : List Dat := [.str (bytes x.c), .int .i64 x.n, .int .i64 x.f]
/-- A base that is being read: its icons, programs and comments. -/
structure LB (H : AHeap) (k m q : Nat) (iv pv : AV) (il : List (Ic × Bool)) (pl : List Pg) (cl : List (Int × AV)) : Prop where
  base : H k = some (.mem 0 0 3 [[iv, pv, .map m]])
  ics : Ms 5 H iv (il.map idat)
  pgs : Ms 3 H pv (pl.map gdat)
  map : ∃ es c, H m = some (.map es c) ∧ Kv es cl ∧ (cl.map (·.1)).Nodup ∧ (∀ e ∈ es, e.born < c) ∧ (es.map (·.born)).Nodup
  kq : k ≠ q
  mq : m ≠ q
  iq : idOf iv ≠ some q
  pq : idOf pv ≠ some q
  pk : idOf pv ≠ some k
theorem LB.fq {H H' : AHeap} {k m q : Nat} {iv pv : AV} {il : List (Ic × Bool)} {pl : List Pg} {cl : List (Int × AV)} (h : LB H k m q iv pv il pl cl) (hF : Fq q H H') : LB H' k m q iv pv il pl cl := by
  refine ⟨hF _ _ h.base h.kq, h.ics.keep fun i hi => ?_, h.pgs.keep fun i hi => ?_, ?_, h.kq, h.mq, h.iq, h.pq, h.pk⟩
  · obtain ⟨ver, L, h2⟩ := h.ics.isObj hi
    rw [h2]; exact hF _ _ h2 fun he => h.iq (he ▸ hi)
  · obtain ⟨ver, L, h2⟩ := h.pgs.isObj hi
    rw [h2]; exact hF _ _ h2 fun he => h.pq (he ▸ hi)
  · obtain ⟨es, c, h2, h3⟩ := h.map
    exact ⟨es, c, hF _ _ h2 h.mq, h3⟩
theorem Fq.new {q u : Nat} {H G : AHeap} {o : AObj} (h : Fq q H G) (hu : H u = none) : Fq q H (G.set u o) := fun i x hi hn => by
  have : i ≠ u := fun he => by rw [he, hu] at hi; cases hi
  rw [set_ne this]; exact h i x hi hn
theorem Fq.none {q u : Nat} {H G : AHeap} (h : Fq q H G) (hu : G u = Option.none) (hq : (G q).isSome) : H u = Option.none := by
  cases hx : H u with
  | none => rfl
  | some o =>
    by_cases he : u = q
    · rw [he] at hu; rw [hu] at hq; cases hq
    · rw [h u o hx he] at hu; cases hu
section
variable {H G : AHeap} {k m q : Nat} {iv pv : AV} {il : List (Ic × Bool)} {pl : List Pg} {cl : List (Int × AV)} {st : St} {K : AV → AHeap → Prop}
/-! ### the search -/
abbrev isI (c d : By) (s : Int) (x : Ic × Bool) : Bool := decide (x.1.c = c ∧ x.1.k = d ∧ x.1.s = s)
theorem icon1_c {c d : By} {s : Int} {x : Ic × Bool} {u v w : Nat} (hu : H u = some (.mem 0 0 1 [[.d (.str (bytes c))]])) (hv : H v = some (.mem 0 0 1 [[.d (.str (bytes d))]])) (hw : H w = some (.mem 0 0 1 [[.d (.int .i64 s)]])) (hk : ∀ H', AHeap.le H H' → K (.d (.bool (isI c d s x))) H') :
    CallsA Try.prog 62 [.agg ((idat x).map AV.d), .ptr u 0 0 0, .ptr v 0 0 0, .ptr w 0 0 0] H K := by
  apply C62
  unfold S62
  refine box_open rfl fun n G hG hle hn => ?_
  have g0 : ldV false 1 (.ptr n 0 0 0) G = some (.d (.str (bytes x.1.c))) := ldV_at hG rfl rfl
  have g1 : ldV false 1 (.ptr n 0 0 1) G = some (.d (.str (bytes x.1.k))) := ldV_at hG rfl rfl
  have g2 : ldV false 1 (.ptr n 0 0 2) G = some (.d (.int .i64 x.1.s)) := ldV_at hG rfl rfl
  have gu : ldV false 1 (.ptr u 0 0 0) G = some (.d (.str (bytes c))) := ldV_at (hle _ _ hu) rfl rfl
  have gv : ldV false 1 (.ptr v 0 0 0) G = some (.d (.str (bytes d))) := ldV_at (hle _ _ hv) rfl rfl
  have gw : ldV false 1 (.ptr w 0 0 0) G = some (.d (.int .i64 s)) := ldV_at (hle _ _ hw) rfl rfl
  have hk' := hk G hle
  simp only [ti72_f0, ti72_f1, ti72_f2, Nat.zero_add, g0, g1, g2, gu, gv, gw, optA_some, strA_eql, intA_eql, strEq, bytes_inj, ret1_d]
  by_cases h1 : x.1.c = c
  · by_cases h2 : x.1.k = d
    · simp only [h1, h2, decide_true, ifA_t]
      simp only [isI, h1, h2, true_and] at hk'
      exact ⟨_, le_refl', hk'⟩
    · simp only [h1, h2, decide_true, decide_false, ifA_t, ifA_f]
      simp only [isI, h2, false_and, and_false, decide_false] at hk'
      exact ⟨_, le_refl', hk'⟩
  · simp only [h1, decide_false, ifA_f]
    simp only [isI, h1, false_and, decide_false] at hk'
    exact ⟨_, le_refl', hk'⟩
theorem callA_62 {u v w : Nat} {x : AV} : callA (CallsA Try.prog) pol61 (.func 62 [] [.ptr u 0 0 0, .ptr v 0 0 0, .ptr w 0 0 0]) [x] H K = frzLK [x, .ptr u 0 0 0, .ptr v 0 0 0, .ptr w 0 0 0] H (fun l H' => CallsA Try.prog 62 l H' K) := rfl
theorem ldM5 {i ver j : Nat} {L : List (List AV)} {cs : List AV} (h : H i = some (.mem ver 0 5 L)) (hc : L[j]? = some cs) (h3 : cs.length = 5) : ldV true 5 (.ptr i ver j 0) H = some (.agg cs) := by
  simp only [ldV, h, if_true, hc, partV, List.drop_zero]
  rw [List.take_of_length_le (by omega), h3]
  simp
theorem IdxI_c {u v w : Nat} {c d : By} {s : Int} (hM : Ms 5 H iv (il.map idat)) (hu : H u = some (.mem 0 0 1 [[.d (.str (bytes c))]])) (hv : H v = some (.mem 0 0 1 [[.d (.str (bytes d))]])) (hw : H w = some (.mem 0 0 1 [[.d (.int .i64 s)]])) (hz : il.length < 2 ^ 40)
    (hk : ∀ (i : Int) H', AHeap.le H H' → (i < 0 ↔ dupI (il.map (·.1)) c d s = false) → K (.d (.int .i64 i)) H') : CallsA Try.prog 61 [iv, .func 62 [] [.ptr u 0 0 0, .ptr v 0 0 0, .ptr w 0 0 0]] H K := by
  apply C61
  unfold S61
  simp only [hM.len, List.length_map, optA_some]
  refine loop_ind (fun n vs G => ∃ j : Nat, j ≤ il.length ∧ n = il.length - j ∧ vs = [iv, .func 62 [] [.ptr u 0 0 0, .ptr v 0 0 0, .ptr w 0 0 0], .d (.int .i64 (il.length : Int)), .d (.int .i64 (j : Int))] ∧ AHeap.le H G ∧ ∀ q, q < j → ∀ x, il[q]? = some x → isI c d s x = false) (n := il.length) ⟨0, Nat.zero_le _, rfl, rfl, le_refl', fun q hq => by omega⟩ ?_
  rintro X n vs G ⟨j, hj, rfl, rfl, hle, hno⟩ hX
  simp only [List.getD_cons_succ, List.getD_cons_zero, intA_lss, optA_some, ifA_bool']
  by_cases hlt : j < il.length
  · have hlt' : (j : Int) < il.length := by omega
    rw [if_pos (by simpa using hlt')]
    have hx : il[j]? = some il[j] := List.getElem?_eq_getElem hlt
    obtain ⟨i, ver, L, e1, e2, e3, e4⟩ := (hM.le hle).at (ti := ti51) (et := 72) rfl (j := j) (c := idat il[j]) (by rw [List.getElem?_map, hx]; rfl)
    simp only [e1, optA_some, ldM5 e3 e4 rfl, callA_62]
    simp only [idat, go_sem]
    refine icon1_c (x := il[j]) (hle _ _ hu) (hle _ _ hv) (hle _ _ hw) fun G2 hle2 => ?_
    by_cases hp : isI c d s il[j] = true
    · rw [hp]
      simp only [ifA_t, ret1_d]
      refine ⟨_, le_refl', hk j G2 (le_trans' hle hle2) ⟨fun h => by omega, fun h => ?_⟩⟩
      simp only [dupI, List.any_eq_false, List.mem_map, decide_eq_true_eq] at h
      exact absurd (by simpa [isI] using hp) (h il[j].1 ⟨il[j], List.getElem_mem hlt, rfl⟩)
    · have hp : isI c d s il[j] = false := by simpa using hp
      rw [hp]
      simp only [ifA_f]
      rw [wrap_i64 (by omega) (by omega)]
      refine hX (il.length - (j + 1)) _ _ (by omega) ⟨j + 1, hlt, rfl, rfl, le_trans' hle hle2, fun q hq x hx' => ?_⟩
      by_cases hqj : q = j
      · subst hqj; rw [hx] at hx'; cases hx'; exact hp
      · exact hno q (by omega) x hx'
  · have hlt' : ¬ (j : Int) < il.length := by omega
    rw [if_neg (by simpa using hlt')]
    simp only [ret1_d]
    refine ⟨_, le_refl', hk (-1) G hle ⟨fun _ => ?_, fun _ => by omega⟩⟩
    simp only [dupI, List.any_eq_false, List.mem_map, decide_eq_true_eq]
    rintro y ⟨x, hx, rfl⟩ hc
    obtain ⟨q, hq⟩ := List.getElem?_of_mem hx
    have := hno q (by have := (List.getElem?_eq_some_iff.1 hq).1; omega) x hq
    simp only [isI, decide_eq_false_iff_not] at this
    exact this hc
theorem icon_c {c d : By} {s : Int} (hB : H k = some (.mem 0 0 3 [[iv, pv, .map m]])) (hM : Ms 5 H iv (il.map idat)) (hz : il.length < 2 ^ 40) (hk : ∀ (i : Int) H', AHeap.le H H' → (i < 0 ↔ dupI (il.map (·.1)) c d s = false) → K (.d (.int .i64 i)) H') :
    CallsA Try.prog 34 [.ptr k 0 0 0, .d (.str (bytes c)), .d (.str (bytes d)), .d (.int .i64 s)] H K := by
  apply C34
  unfold S34
  refine box_open rfl fun u G1 hG1 hle1 hu => box_open rfl fun v G2 hG2 hle2 hv => box_open rfl fun w G3 hG3 hle3 hw => ?_
  have l1 : ldV false 1 (.ptr k 0 0 0) G3 = some iv := ldV_at (hle3 _ _ (hle2 _ _ (hle1 _ _ hB))) rfl rfl
  simp only [nilCkA, ti55_f0, Nat.zero_add, l1, optA_some]
  refine IdxI_c (((hM.le hle1).le hle2).le hle3) (hle3 _ _ (hle2 _ _ hG1)) (hle3 _ _ hG2) hG3 hz fun i H' hle4 hi => ?_
  simp only [ret1_d]
  exact ⟨_, le_refl', hk i H' (le_trans' (le_trans' (le_trans' hle1 hle2) hle3) hle4) hi⟩
end
end Go.Proofs.Ytmciomkibklokaa
/- Load, by the program. -/
set_option autoImplicit false
set_option maxRecDepth 100000
set_option linter.unusedVariables false
set_option linter.unusedSimpArgs false
set_option linter.unnecessarySimpa false
namespace Go.Proofs.Ytmciomkibklokaa
open Go Go.AM Go.Proofs Go.RowKit
/-- The rest of a reading, from a reader's state on. -/
def run {β : Type} (st : St) (g : By → Rd β) : Rd β := match st with | .ok r => g r | .error e => .error e
section
variable {α β : Type}
theorem bnd_assoc {γ : Type} {x : Rd α} {f : α → By → Rd β} {g : β → By → Rd γ} : bnd (bnd x f) g = bnd x fun a r => bnd (f a r) g := by
  cases x with
  | error e => rfl
  | ok y => rfl
theorem bnd_err {c : Prop} [Decidable c] {e : Int} {y : Rd α} {g : α → By → Rd β} : bnd (if c then .error e else y) g = if c then .error e else bnd y g := by split <;> rfl
theorem bnd_err' {c : Prop} [Decidable c] {e : Int} {y : Rd α} {g : α → By → Rd β} : bnd (if c then y else .error e) g = if c then bnd y g else .error e := by split <;> rfl
theorem run_tk {st : St} {n : Nat} {v : By} {f : By → By → Rd β} (h : ∀ r, st = .ok r → n ≤ r.length → v = r.take n) : run st (fun r => bnd (tk n r) f) = run (sTk n st) (f v) := by
  cases st with
  | error e => rfl
  | ok r =>
    simp only [run, tk, sTk]
    by_cases hn : n ≤ r.length
    · rw [if_pos hn, if_pos hn, h r rfl hn]; rfl
    · rw [if_neg hn, if_neg hn]; rfl
theorem run_whole {st : St} {t : Int} {f : Int → By → Rd β} (h : ∀ r, st = .ok r → 8 ≤ r.length → t = wrap64 (be (r.take 8))) : run st (fun r => bnd (tk 8 r) fun b r => f (wrap64 (be b)) r) = run (sTk 8 st) (f t) := by
  cases st with
  | error e => rfl
  | ok r =>
    simp only [run, tk, sTk]
    by_cases hn : 8 ≤ r.length
    · rw [if_pos hn, if_pos hn, h r rfl hn]; rfl
    · rw [if_neg hn, if_neg hn]; rfl
theorem run_num {st : St} {n : Nat} {lo hi v : Int} {f : Int → By → Rd β} (h : ∀ r, st = .ok r → n ≤ r.length → lo ≤ be (r.take n) → (be (r.take n) : Int) ≤ hi → v = be (r.take n)) : run st (fun r => bnd (num n lo hi r) f) = run (sNum n lo hi st) (f v) := by
  cases st with
  | error e => rfl
  | ok r =>
    simp only [run, num, tk, sNum]
    by_cases hn : n ≤ r.length
    · rw [if_pos hn, if_pos hn]
      simp only [bnd]
      by_cases hc : lo ≤ be (r.take n) ∧ (be (r.take n) : Int) ≤ hi
      · rw [if_pos hc, if_pos hc, h r rfl hn hc.1 hc.2]
      · rw [if_neg hc, if_neg hc]
    · rw [if_neg hn, if_neg hn]; rfl
theorem run_cnt {st : St} {n : Nat} {f : Nat → By → Rd β} (h : ∀ r, st = .ok r → 2 ≤ r.length → be (r.take 2) ≤ 200 → n = be (r.take 2)) : run st (fun r => bnd (cnt r) f) = run (sCnt st) (f n) := by
  cases st with
  | error e => rfl
  | ok r =>
    simp only [run, cnt, tk, sCnt]
    by_cases hn : 2 ≤ r.length
    · rw [if_pos hn, if_pos hn]
      simp only [bnd]
      by_cases hc : be (r.take 2) ≤ 200
      · rw [if_pos hc, if_pos hc, h r rfl hn hc]
      · rw [if_neg hc, if_neg hc]
    · rw [if_neg hn, if_neg hn]; rfl
theorem run_must {st : St} {b : Bool} {c : Prop} [Decidable c] {e : Int} {g : By → Rd β} (h : b = true ↔ ¬ c) : run st (fun r => if c then .error e else g r) = run (must b e st) g := by
  cases st with
  | error e => rfl
  | ok r =>
    simp only [run, must]
    by_cases hc : c
    · rw [if_pos hc, if_neg (fun hb => (h.1 hb) hc)]
    · rw [if_neg hc, if_pos (h.2 hc)]
theorem run_must' {st : St} {b : Bool} {c : Prop} [Decidable c] {e : Int} {g : By → Rd β} (h : b = true ↔ c) : run st (fun r => if c then g r else .error e) = run (must b e st) g := by
  cases st with
  | error e => rfl
  | ok r =>
    simp only [run, must]
    by_cases hc : c
    · rw [if_pos hc, if_pos (h.2 hc)]
    · rw [if_neg hc, if_neg (fun hb => hc (h.1 hb))]
theorem run_bnd {st : St} {x : By → Rd α} {g : α → By → Rd β} : bnd (run st x) g = run st fun r => bnd (x r) g := by
  cases st <;> rfl
end
/-- What an icon's reading comes to, by the reader's states. -/
theorem icon_step {β : Type} {l : List Ic} {n : Nat} {st : St} {c d b : By} {s t mm : Int} {i : Int} {g : List Ic → By → Rd β}
    (h1 : ∀ r, st = .ok r → 4 ≤ r.length → c = r.take 4)
    (h2 : ∀ r, sTk 4 st = .ok r → 4 ≤ r.length → d = r.take 4)
    (h3 : ∀ r, sTk 4 (sTk 4 st) = .ok r → 1 ≤ r.length → (1 : Int) ≤ be (r.take 1) → (be (r.take 1) : Int) ≤ 6 → s = be (r.take 1))
    (hi : i < 0 ↔ dupI l c d s = false)
    (h4 : ∀ r, must (decide (i < 0)) 3 (sNum 1 1 6 (sTk 4 (sTk 4 st))) = .ok r → 8 ≤ r.length → t = wrap64 (be (r.take 8)))
    (h5 : ∀ r, sTk 8 (must (decide (i < 0)) 3 (sNum 1 1 6 (sTk 4 (sTk 4 st)))) = .ok r → 2 ≤ r.length → (1 : Int) ≤ be (r.take 2) → (be (r.take 2) : Int) ≤ 500 → mm = be (r.take 2))
    (h6 : ∀ r, sNum 2 1 500 (sTk 8 (must (decide (i < 0)) 3 (sNum 1 1 6 (sTk 4 (sTk 4 st))))) = .ok r → mm.toNat ≤ r.length → b = r.take mm.toNat) :
    run st (fun r => bnd (icons (n + 1) l r) g) = run (sTk mm.toNat (sNum 2 1 500 (sTk 8 (must (decide (i < 0)) 3 (sNum 1 1 6 (sTk 4 (sTk 4 st))))))) (fun r => bnd (icons n (l ++ [⟨c, d, s, t, b⟩]) r) g) := by
  simp only [icons, icon1, bnd_assoc, bnd_err]
  rw [run_tk h1, run_tk h2, run_num h3, run_must (b := decide (i < 0)) (by rw [decide_eq_true_eq, hi]; simp), run_whole (f := fun t r => bnd (num 2 1 500 r) fun m r => bnd (tk m.toNat r) fun b r => bnd (Except.ok ((⟨c, d, s, t, b⟩ : Ic), r)) fun a r => bnd (icons n (l ++ [a]) r) g) h4, run_num h5, run_tk h6]
  rfl
theorem prog_step {β : Type} {l : List Pg} {n : Nat} {st : St} {c : By} {f t : Int} {i : Int} {g : List Pg → By → Rd β}
    (h1 : ∀ r, st = .ok r → 4 ≤ r.length → c = r.take 4)
    (h2 : ∀ r, sTk 4 st = .ok r → 8 ≤ r.length → t = wrap64 (be (r.take 8)))
    (h3 : ∀ r, sTk 8 (sTk 4 st) = .ok r → 4 ≤ r.length → (1 : Int) ≤ be (r.take 4) → (be (r.take 4) : Int) ≤ 4294967295 → f = be (r.take 4))
    (hi : i < 0 ↔ dupP l c f = false) :
    run st (fun r => bnd (progs (n + 1) l r) g) = run (must (decide (i < 0)) 3 (sNum 4 1 4294967295 (sTk 8 (sTk 4 st)))) (fun r => bnd (progs n (l ++ [⟨c, t, f⟩]) r) g) := by
  simp only [progs, prog1, bnd_assoc, bnd_err]
  rw [run_tk h1, run_whole (f := fun t r => bnd (num 4 1 4294967295 r) fun f r => if dupP l c f = true then .error 3 else bnd (Except.ok ((⟨c, t, f⟩ : Pg), r)) fun a r => bnd (progs n (l ++ [a]) r) g) h2, run_num h3, run_must (b := decide (i < 0)) (by rw [decide_eq_true_eq, hi]; simp)]
  rfl
theorem com_step {β : Type} {l : List Cm} {n : Nat} {st : St} {s : By} {i mm : Int} {g : List Cm → By → Rd β}
    (h1 : ∀ r, st = .ok r → 4 ≤ r.length → (1 : Int) ≤ be (r.take 4) → (be (r.take 4) : Int) ≤ 4294967295 → i = be (r.take 4))
    (h2 : ∀ r, must (decide (i > lastI l)) 3 (sNum 4 1 4294967295 st) = .ok r → 1 ≤ r.length → (1 : Int) ≤ be (r.take 1) → (be (r.take 1) : Int) ≤ 199 → mm = be (r.take 1))
    (h3 : ∀ r, sNum 1 1 199 (must (decide (i > lastI l)) 3 (sNum 4 1 4294967295 st)) = .ok r → mm.toNat ≤ r.length → s = r.take mm.toNat) :
    run st (fun r => bnd (coms (n + 1) l r) g) = run (sTk mm.toNat (sNum 1 1 199 (must (decide (i > lastI l)) 3 (sNum 4 1 4294967295 st)))) (fun r => bnd (coms n (l ++ [⟨i, s⟩]) r) g) := by
  simp only [coms, com1, bnd_assoc, bnd_err']
  rw [run_num h1, run_must' (b := decide (i > lastI l)) (by rw [decide_eq_true_eq]), run_num h2, run_tk h3]
  rfl
end Go.Proofs.Ytmciomkibklokaa
/- Load, by the program: the walk. -/
set_option autoImplicit false
set_option maxRecDepth 100000
set_option linter.unusedVariables false
set_option linter.unusedSimpArgs false
set_option linter.unnecessarySimpa false
namespace Go.Proofs.Ytmciomkibklokaa
open Go Go.AM Go.Proofs Go.RowKit
theorem ite_of' {c : Prop} [Decidable c] {A B : Prop} (h1 : c → A) (h2 : ¬ c → B) : if c then A else B := by
  split
  · exact h1 ‹_›
  · exact h2 ‹_›
section
variable {H G : AHeap} {k m q : Nat} {iv pv : AV} {il : List (Ic × Bool)} {pl : List Pg} {cl : List (Int × AV)} {st : St} {K : AV → AHeap → Prop}
theorem New2_c (hk : ∀ k m H', H' k = some (.mem 0 0 3 [[.d (.sl true []), .d (.sl true []), .map m]]) → H' m = some (.map [] 0) → AHeap.le H H' → K (.ptr k 0 0 0) H') : CallsA Try.prog 7 [] H K := by
  apply C7
  unfold S7
  intro n hn
  simp only [bd55, cell53, bdA, fillA, setCells, List.zip_cons_cons, List.zip_nil_right, List.zip_nil_left, Option.map_some, and_self, Nat.le_refl, Nat.reduceLeDiff, List.cons_append, go_sem]
  intro u hu
  simp only [boxA, go_sem]
  obtain ⟨h1, h2⟩ := set_none.1 hu
  refine ⟨_, le_refl', hk u n _ set_self ?_ fun i x hi => ?_⟩
  · rw [set_ne (Ne.symm h1), set_self]
  · rw [set_ne (le_ne hi h2), set_ne (le_ne hi hn)]; exact hi
theorem Ms.no {sz : Nat} {v : AV} {l : List (List Dat)} (h : Ms sz H v l) : aggL v = [] := by
  rcases h.2 with ⟨rfl, _⟩ | ⟨i, ver, L, rfl, _⟩ <;> rfl
abbrev toPrg (x : Pg) : Prg := (bytes x.c, x.n, x.f)
theorem fidx_neg {c : By} {f : Int} {pl : List Pg} : fidx (bytes c) f (pl.map toPrg) < 0 ↔ dupP pl c f = false := by
  have e : ∀ x : Pg, isP (bytes c) f (toPrg x) = decide (x.c = c ∧ x.f = f) := fun x => by simp only [isP, toPrg, bytes_inj]
  unfold fidx
  cases hx : (pl.map toPrg).findIdx? (isP (bytes c) f) with
  | none =>
    rw [List.findIdx?_eq_none_iff] at hx
    refine ⟨fun _ => ?_, fun _ => by decide⟩
    simp only [dupP, List.any_eq_false]
    intro y hy
    have := hx (toPrg y) (List.mem_map.2 ⟨y, hy, rfl⟩)
    rw [e] at this
    simpa using this
  | some i =>
    refine ⟨fun h => by simp only at h; omega, fun h => ?_⟩
    obtain ⟨h1, h2, _⟩ := List.findIdx?_eq_some_iff_getElem.1 hx
    simp only [dupP, List.any_eq_false] at h
    rw [List.getElem_map, e] at h2
    exact absurd h2 (h _ (List.getElem_mem _))
theorem prog2_c {c : By} {f : Int} (hB : LB H k m q iv pv il pl cl) (hz : pl.length < 2 ^ 40) (hk : ∀ (i : Int) H', AHeap.le H H' → (i < 0 ↔ dupP pl c f = false) → K (.d (.int .i64 i)) H') : CallsA Try.prog 27 [.ptr k 0 0 0, .d (.str (bytes c)), .d (.int .i64 f)] H K := by
  apply C27
  unfold S27
  refine box_open rfl fun u G1 hG1 hle1 hu => box_open rfl fun v G2 hG2 hle2 hv => ?_
  have l1 : ldV false 1 (.ptr k 0 0 1) G2 = some pv := ldV_at (hle2 _ _ (hle1 _ _ hB.base)) rfl rfl
  simp only [nilCkA, ti55_f1, Nat.zero_add, l1, optA_some]
  have hM : Ms 3 H pv ((pl.map toPrg).map pdat) := by
    have e : (pl.map toPrg).map pdat = pl.map gdat := by rw [List.map_map]; rfl
    rw [e]; exact hB.pgs
  refine Idx_c ((hM.le hle1).le hle2) (hle2 _ _ hG1) hG2 (by rw [List.length_map]; exact hz) fun H' hle3 => ?_
  simp only [ret1_d]
  exact ⟨_, le_refl', hk _ H' (le_trans' (le_trans' hle1 hle2) hle3) fidx_neg⟩
theorem pushP {u : Nat} {x : Pg} {X : AHeap → Prop} (hB : LB H k m q iv pv il pl cl) (hz : pl.length < 2 ^ 30) (hU : H u = some (.mem 0 0 3 [(gdat x).map AV.d])) (hq : (H q).isSome) (hk : ∀ pv' H', LB H' k m q iv pv' il (pl ++ [x]) cl → H' q = H q → X H') :
    (drA true (optA (nilCkA (.ptr k 0 0 0)) fun v82 => optA (fieldA ti55 v82 1) fun v83 => optA (ldV false 1 v83 H) fun v84 => optA (ldV true 3 (.ptr u 0 0 0) H) fun v85 => apart (rsOf v85) v83 ∧ (noRsA (aggL v85) (newK H (fun n88 => bsA ti62 1 [0] [v85] H n88) fun v86 H87 => newK H87 (fun n91 => apA 3 32 v84 v86 H87 n91) fun v89 H90 => optA (nilCkA (.ptr k 0 0 0)) fun v92 => optA (fieldA ti55 v92 1) fun v93 => noRsA (aggL v89) (stepK (stoA false 1 v93 v89 H90) H90 fun v94 H95 => X H95))))) := by
  have l0 : ldV false 1 (.ptr k 0 0 1) H = some pv := ldV_at hB.base rfl rfl
  have e5 : ldV true 3 (.ptr u 0 0 0) H = some (.agg ((gdat x).map AV.d)) := ldM3 hU rfl rfl
  simp only [drA_true, nilCkA, optA_some, ti55_f1, Nat.zero_add, l0, e5]
  refine ⟨?_, ?_⟩
  · simp only [gdat, List.map_cons, List.map_nil, rsOf, apart]
  simp only [gdat, List.map_cons, List.map_nil, aggL_agg, noRsA_cons, noRsA_nil, noRs_d, true_and]
  intro n hn
  show stepK (bsA ti62 1 [0] [.agg ((gdat x).map AV.d)] H n) H _
  rw [show bsA ti62 1 [0] [.agg ((gdat x).map AV.d)] H n = some (.lit [gdat x], []) from rfl]
  simp only [stepK_some, AHeap.sets]
  refine hB.pgs.app (ys := [gdat x]) rfl (by decide) (by decide) (by intro y hy; cases List.mem_singleton.1 hy; rfl) (by simp only [mostBytes, List.length_map, List.length_singleton]; omega) fun v' H' hM hfr hid hF => ?_
  have hik : ∀ {j : Nat} {ver : Nat} {L : List (List AV)}, idOf pv = some j → H j ≠ some (.mem ver 0 5 L) := fun {j ver L} hj hh => by
    obtain ⟨ver', L', h2⟩ := hB.pgs.isObj hj
    rw [h2] at hh; cases hh
  have hk' : H' k = some (.mem 0 0 3 [[iv, pv, .map m]]) := (hfr k (by rw [hB.base]; rfl) hB.pk).trans hB.base
  have hsep : idOf v' ≠ some k := fun h => by
    rcases hid k h with h | h
    · exact hB.pk h
    · rw [hB.base] at h; cases h
  rw [Ms.no hM, stoA_at hk' (Nat.le_refl 0) rfl (show 1 < 3 by decide) hM.st.1 hM.st.2]
  simp only [noRsA_nil, stepK_some, AHeap.sets]
  obtain ⟨es, c, hm, hkv⟩ := hB.map
  have hmk : m ≠ k := fun he => by rw [he, hB.base] at hm; cases hm
  have him : idOf pv ≠ some m := fun h => by
    obtain ⟨ver', L', h2⟩ := hB.pgs.isObj h
    rw [h2] at hm; cases hm
  refine hk v' _ ⟨set_self, ?_, ?_, ⟨es, c, ?_, hkv⟩, hB.kq, hB.mq, hB.iq, ?_, hsep⟩ ?_
  · refine hB.ics.keep fun i hi => ?_
    obtain ⟨ver, L, h2⟩ := hB.ics.isObj hi
    have hik' : i ≠ k := fun he => by rw [he, hB.base] at h2; cases h2
    rw [set_ne hik', hfr i (by rw [h2]; rfl) (fun h => hik h h2)]
  · rw [List.map_append]
    exact hM.keep fun i hi => set_ne (fun he => hsep (he ▸ hi))
  · rw [set_ne hmk, hfr m (by rw [hm]; rfl) him]; exact hm
  · intro h
    rcases hid q h with h | h
    · exact hB.pq h
    · rw [h] at hq; cases hq
  · rw [set_ne (Ne.symm hB.kq)]
    exact hfr q hq hB.pq
/-- An object of one's own: cells written. -/
theorem put_u {u j sz : Nat} {cs : List AV} {v : AV} (hu : G u = some (.mem 0 0 sz [cs])) (hj : j < cs.length) (hv : v.storable = true) (hc : v.cells = [v]) : stoA false 1 (.ptr u 0 0 j) v G = some (.junk, [(u, .mem 0 0 sz [cs.set j v])]) := by
  rw [stoA_at hu (Nat.le_refl 0) rfl hj hv hc]
  rfl
theorem stoAgg {u sz : Nat} {cs vs : List AV} (hu : G u = some (.mem 0 0 sz [cs])) (hl : vs.length = cs.length) (hsz : sz = cs.length) (hf : frzL vs G = some (vs, [])) : stoA true sz (.ptr u 0 0 0) (.agg vs) G = some (.junk, [(u, .mem 0 0 sz [vs])]) := by
  subst hsz
  have e : vs ++ cs.drop cs.length = vs := by rw [List.drop_length, List.append_nil]
  simp only [stoA, if_true, hf, AHeap.sets, stA, hu, AV.storable, AV.cells, hl, Nat.le_refl, and_self, List.getElem?_cons_zero, Nat.zero_add, List.nil_append, setCells, List.take_zero, List.set_cons_zero]
  rw [e]
theorem pushI {u : Nat} {x : Ic × Bool} {X : AHeap → Prop} (hB : LB H k m q iv pv il pl cl) (hz : il.length < 2 ^ 30) (hU : H u = some (.mem 0 0 5 [(idat x).map AV.d])) (hq : (H q).isSome) (hk : ∀ iv' H', LB H' k m q iv' pv (il ++ [x]) pl cl → H' q = H q → X H') :
    (drA true (optA (nilCkA (.ptr k 0 0 0)) fun v82 => optA (fieldA ti55 v82 0) fun v83 => optA (ldV false 1 v83 H) fun v84 => optA (ldV true 5 (.ptr u 0 0 0) H) fun v85 => apart (rsOf v85) v83 ∧ (noRsA (aggL v85) (newK H (fun n88 => bsA ti72 1 [0] [v85] H n88) fun v86 H87 => newK H87 (fun n91 => apA 5 72 v84 v86 H87 n91) fun v89 H90 => optA (nilCkA (.ptr k 0 0 0)) fun v92 => optA (fieldA ti55 v92 0) fun v93 => noRsA (aggL v89) (stepK (stoA false 1 v93 v89 H90) H90 fun v94 H95 => X H95))))) := by
  have l0 : ldV false 1 (.ptr k 0 0 0) H = some iv := ldV_at hB.base rfl rfl
  have e5 : ldV true 5 (.ptr u 0 0 0) H = some (.agg ((idat x).map AV.d)) := ldM5 hU rfl rfl
  simp only [drA_true, nilCkA, optA_some, ti55_f0, Nat.zero_add, l0, e5]
  refine ⟨?_, ?_⟩
  · simp only [idat, List.map_cons, List.map_nil, rsOf, apart]
  simp only [idat, List.map_cons, List.map_nil, aggL_agg, noRsA_cons, noRsA_nil, noRs_d, true_and]
  intro n hn
  show stepK (bsA ti72 1 [0] [.agg ((idat x).map AV.d)] H n) H _
  rw [show bsA ti72 1 [0] [.agg ((idat x).map AV.d)] H n = some (.lit [idat x], []) from rfl]
  simp only [stepK_some, AHeap.sets]
  refine hB.ics.app (ys := [idat x]) rfl (by decide) (by decide) (by intro y hy; cases List.mem_singleton.1 hy; rfl) (by simp only [mostBytes, List.length_map, List.length_singleton]; omega) fun v' H' hM hfr hid hF => ?_
  have hik : ∀ {j : Nat} {ver : Nat} {L : List (List AV)}, idOf iv = some j → H j ≠ some (.mem ver 0 3 L) := fun {j ver L} hj hh => by
    obtain ⟨ver', L', h2⟩ := hB.ics.isObj hj
    rw [h2] at hh; cases hh
  have hk' : H' k = some (.mem 0 0 3 [[iv, pv, .map m]]) := (hfr k (by rw [hB.base]; rfl) (fun h => hik h hB.base)).trans hB.base
  have hsep : idOf v' ≠ some k := fun h => by
    rcases hid k h with h | h
    · exact hik h hB.base
    · rw [hB.base] at h; cases h
  rw [Ms.no hM, stoA_at hk' (Nat.le_refl 0) rfl (show 0 < 3 by decide) hM.st.1 hM.st.2]
  simp only [noRsA_nil, stepK_some, AHeap.sets]
  obtain ⟨es, c, hm, hkv⟩ := hB.map
  have hmk : m ≠ k := fun he => by rw [he, hB.base] at hm; cases hm
  have him : idOf iv ≠ some m := fun h => by
    obtain ⟨ver', L', h2⟩ := hB.ics.isObj h
    rw [h2] at hm; cases hm
  refine hk v' _ ⟨set_self, ?_, ?_, ⟨es, c, ?_, hkv⟩, hB.kq, hB.mq, ?_, hB.pq, hB.pk⟩ ?_
  · rw [List.map_append]
    exact hM.keep fun i hi => set_ne (fun he => hsep (he ▸ hi))
  · refine hB.pgs.keep fun i hi => ?_
    obtain ⟨ver, L, h2⟩ := hB.pgs.isObj hi
    rw [set_ne (show i ≠ k from fun he => hB.pk (he ▸ hi)), hfr i (by rw [h2]; rfl) (fun h => hik h h2)]
  · rw [set_ne hmk, hfr m (by rw [hm]; rfl) him]; exact hm
  · intro h
    rcases hid q h with h | h
    · exact hB.iq h
    · rw [h] at hq; cases hq
  · rw [set_ne (Ne.symm hB.kq)]
    exact hfr q hq hB.iq
theorem must_ok {b : Bool} {e : Int} {r : By} (h : must b e st = .ok r) : st = .ok r ∧ b = true := by
  cases st with
  | error e => cases h
  | ok r' =>
    simp only [must] at h
    split at h
    · exact ⟨h, ‹_›⟩
    · cases h
theorem sTk_ok {n : Nat} {r : By} (h : sTk n st = .ok r) : ∃ r0, st = .ok r0 ∧ n ≤ r0.length := by
  cases st with
  | error e => cases h
  | ok r' =>
    simp only [sTk] at h
    split at h
    · exact ⟨r', rfl, ‹_›⟩
    · cases h
theorem sNum_ok {n : Nat} {lo hi : Int} {r : By} (h : sNum n lo hi st = .ok r) : ∃ r0, st = .ok r0 ∧ n ≤ r0.length ∧ lo ≤ be (r0.take n) ∧ (be (r0.take n) : Int) ≤ hi := by
  cases st with
  | error e => cases h
  | ok r' =>
    simp only [sNum] at h
    split at h
    · split at h
      · rename_i h1 h2; exact ⟨r', rfl, h1, h2⟩
      · cases h
    · cases h
abbrev comAV (x : Cm) : Int × AV := (x.i, .d (.str (bytes x.s)))
theorem modify_borns {es : List MEnt} {j : Nat} {k : Dat} {v : AV} : ((es.modify j fun e => { e with key := k, val := v }).map (·.born)) = es.map (·.born) := by
  apply List.ext_getElem?
  intro x
  simp only [List.getElem?_map, List.getElem?_modify]
  split
  · cases es[x]? <;> rfl
  · cases es[x]? <;> rfl
theorem modify_born {es : List MEnt} {j : Nat} {k : Dat} {v : AV} {e : MEnt} (h : e ∈ es.modify j fun e => { e with key := k, val := v }) : ∃ y ∈ es, e.born = y.born := by
  have h1 : e.born ∈ (es.modify j fun e => { e with key := k, val := v }).map (·.born) := List.mem_map.2 ⟨e, h, rfl⟩
  rw [modify_borns] at h1
  obtain ⟨y, hy, hyb⟩ := List.mem_map.1 h1
  exact ⟨y, hy, hyb.symm⟩
theorem putC {i : Int} {s : ByteArray} (hB : LB H k m q iv pv il pl cl) : ∃ es c cl', muA Try.prog 3 (.map m) (.d (.int .i64 i)) (.d (.str s)) H = some (.junk, [(m, .map es c)]) ∧ LB (H.set m (.map es c)) k m q iv pv il pl cl' ∧ (i ∉ cl.map (·.1) → cl' = cl ++ [(i, .d (.str s))]) := by
  obtain ⟨es, c, hm, hkv, hnd, hb1, hb2⟩ := hB.map
  have hmk : m ≠ k := fun he => by rw [he, hB.base] at hm; cases hm
  have him : idOf iv ≠ some m := fun h => by obtain ⟨_, _, h2⟩ := hB.ics.isObj h; rw [h2] at hm; cases hm
  have hpm : idOf pv ≠ some m := fun h => by obtain ⟨_, _, h2⟩ := hB.pgs.isObj h; rw [h2] at hm; cases hm
  have fin : ∀ es' c' cl', Kv es' cl' → (cl'.map (·.1)).Nodup → (∀ e ∈ es', e.born < c') ∧ (es'.map (·.born)).Nodup → LB (H.set m (.map es' c')) k m q iv pv il pl cl' := fun es' c' cl' h1 h2 h3 =>
    ⟨by rw [set_ne (Ne.symm hmk)]; exact hB.base, hB.ics.keep fun j hj => set_ne (fun he => him (he ▸ hj)), hB.pgs.keep fun j hj => set_ne (fun he => hpm (he ▸ hj)), ⟨es', c', set_self, h1, h2, h3⟩, hB.kq, hB.mq, hB.iq, hB.pq, hB.pk⟩
  by_cases hin : i ∈ cl.map (·.1)
  · obtain ⟨j, hj⟩ := List.getElem?_of_mem hin
    rw [List.getElem?_map, Option.map_eq_some_iff] at hj
    obtain ⟨⟨i', v⟩, hj, rfl⟩ := hj
    have hf := findE_kv 0 j hkv hnd hj
    rw [Nat.zero_add] at hf
    refine ⟨es.modify j fun e => { e with key := .int .i64 i', val := .d (.str s) }, c, cl.set j (i', .d (.str s)), ?_, fin _ _ _ ?_ ?_ ⟨?_, ?_⟩, fun h => absurd hin h⟩
    · simp only [muA, Try.underlying3, keyOk, AV.storable, decide_true, and_self, if_true, mapSetA, hm, hf]
    · have hlen := hkv.len
      unfold Kv at hkv ⊢
      have hjl : j < es.length := by rw [hlen]; exact (List.getElem?_eq_some_iff.1 hj).1
      rw [List.map_set, ← hkv]
      apply List.ext_getElem?
      intro x
      rw [List.getElem?_map, List.getElem?_modify, List.getElem?_set]
      by_cases hx : j = x
      · subst hx
        simp [hjl]
      · simp [hx]
    · have e := map_set_same (f := fun x : Int × AV => x.1) (y := (i', AV.d (.str s))) hj rfl
      rw [e]; exact hnd
    · intro e he
      obtain ⟨y, hy, hyb⟩ := modify_born he
      rw [hyb]; exact hb1 y hy
    · rw [modify_borns]; exact hb2
  · have hf := findE_kv_no 0 hkv hin
    refine ⟨es ++ [⟨.int .i64 i, .d (.str s), c⟩], c + 1, cl ++ [(i, .d (.str s))], ?_, fin _ _ _ (hkv.add _ _ _) ?_ ⟨?_, ?_⟩, fun _ => rfl⟩
    · simp only [muA, Try.underlying3, keyOk, AV.storable, decide_true, and_self, if_true, mapSetA, hm, hf]
    · rw [List.map_append, List.nodup_append]
      refine ⟨hnd, by simp, ?_⟩
      intro a ha b hb
      simp only [List.map_cons, List.map_nil, List.mem_singleton] at hb
      subst hb
      rintro rfl
      exact hin ha
    · intro e he
      rcases List.mem_append.1 he with he | he
      · have := hb1 e he; omega
      · cases List.mem_singleton.1 he; exact Nat.lt_succ_self c
    · rw [List.map_append, List.nodup_append]
      refine ⟨hb2, by simp, ?_⟩
      intro a ha b hb
      simp only [List.map_cons, List.map_nil, List.mem_singleton] at hb
      subst hb
      obtain ⟨e, he, rfl⟩ := List.mem_map.1 ha
      have := hb1 e he; omega
theorem rising_new {cs : List Cm} {i : Int} (h : Rising cs) (hp : ∀ y ∈ cs, 1 ≤ y.i) (hx : lastI cs < i) : i ∉ cs.map (·.i) := fun hm => by
  have := rising_snoc (x := ⟨i, []⟩) h hp hx
  unfold Rising at this
  rw [List.map_append, List.pairwise_append] at this
  have := this.2.2 i hm i (by simp)
  omega
theorem cu_put {A : AHeap} {u j sz : Nat} {cs cs' : List AV} {v : AV} (F : Fq q G A) (R : RS A q st) (U : A u = some (.mem 0 0 sz [cs])) (hGu : G u = none) (hqu : q ≠ u) (hj : j < cs.length) (hv : v.storable = true) (hc : v.cells = [v]) (he : cs.set j v = cs') :
    ∃ A', stoA false 1 (.ptr u 0 0 j) v A = some (.junk, [(u, .mem 0 0 sz [cs'])]) ∧ A.set u (.mem 0 0 sz [cs']) = A' ∧ Fq q G A' ∧ RS A' q st ∧ A' u = some (.mem 0 0 sz [cs']) := by
  subst he
  exact ⟨_, put_u U hj hv hc, rfl, F.new hGu, R.keep (set_ne hqu), set_self⟩
theorem Load_c {nl : Bool} {b : By} (hnl : nl = true → b = []) (hl : b.length < 2 ^ 50)
    (hke : ∀ e H', parse b = .error e → e ≠ 0 → K (.tup [.nilptr, .d (.int .i64 e)]) H')
    (hk : ∀ k m q iv pv il pl cs H', parse b = .ok (il.map (·.1), pl, cs) → LB H' k m q iv pv il pl (cs.map fun x => (x.i, .d (.str (bytes x.s)))) → K (.tup [.ptr k 0 0 0, .d (.int .i64 0)]) H') : CallsA Try.prog 10 [.d (.sl nl (bs b))] H K := by
  apply C10
  unfold S10
  simp only [frzLK_nil]
  refine New2_c fun k m H1 hk1 hm1 hle1 => ?_
  rw [show bdA Try.prog ti68 [0] [.d (.sl nl (bs b))] H1 = some (.agg [.d (.sl nl (bs b)), .d (.int .i64 0)], []) from rfl]
  simp only [stepK_some, AHeap.sets]
  refine box_open rfl fun q G1 hG1 hle2 hq => ?_
  have hR1 : RS G1 q (.ok b) := ⟨by omega, nl, hnl, hG1⟩
  have hkq : k ≠ q := fun he => by rw [he, hq] at hk1; cases hk1
  have hmq : m ≠ q := fun he => by rw [he, hq] at hm1; cases hm1
  have hB1 : LB G1 k m q (.d (.sl true [])) (.d (.sl true [])) [] [] [] := ⟨hle2 _ _ hk1, Ms.nil, Ms.nil, ⟨[], 0, hle2 _ _ hm1, Kv.nil, by simp⟩, hkq, hmq, by simp [idOf], by simp [idOf], by simp [idOf]⟩
  simp only [frzLK_ptr, frzLK_nil]
  refine count_c hR1 fun n1 H2 hR2 hn1 h200 hF2 => ?_
  have hB2 := hB1.fq hF2
  obtain ⟨W, hW⟩ : ∃ W, pG0 b = W := ⟨_, rfl⟩
  have hP : parse b = toE W := by rw [← hW]; rfl
  have hW1 : run (sCnt (.ok b)) (fun r => bnd (icons n1 [] r) pG1) = W := by
    rw [← run_cnt (st := .ok b) (f := fun n r => bnd (icons n [] r) pG1) hn1]; exact hW
  clear hW hn1
  -- the icons
  refine loop_ind (fun r vs G => ∃ (i : Nat) (st : St) (iv : AV) (il : List (Ic × Bool)) (x2 x5 x6 x7 x8 : AV), i ≤ n1 ∧ r = n1 - i ∧ RS G q st ∧ LB G k m q iv (.d (.sl true [])) il [] [] ∧ il.length = i ∧ run st (fun r => bnd (icons (n1 - i) (il.map (·.1)) r) pG1) = W ∧ vs = [.ptr k 0 0 0, .ptr q 0 0 0, x2, .d (.int .i64 n1), .d (.int .i64 i), x5, x6, x7, x8]) (n := n1)
    ⟨0, sCnt (.ok b), _, [], _, _, _, _, _, Nat.zero_le _, rfl, hR2, hB2, rfl, hW1, rfl⟩ ?_
  clear hR2 hB2 hR1 hB1 hF2 hG1 hle2 hq hk1 hm1 hle1 hW1
  rintro X r vs G ⟨i, st, iv, il, x2, x5, x6, x7, x8, hi, rfl, hR, hB, hil, hrun, rfl⟩ hX
  simp only [List.getD_cons_succ, List.getD_cons_zero, intA_lss, optA_some, ifA_ite]
  refine ite_of' (fun hlt => ?_) fun hlt => ?_
  · have hin : i < n1 := by omega
    simp only [frzLK_ptr, frzLK_d, frzLK_nil]
    refine take_c (n := 4) hR (by omega) fun nl1 b1 A1 R1 e1 l1 w1 F1 => ?_
    simp only [cvBS_bs, optA_some]
    rw [show bdA Try.prog ti72 [0] [.d (.str ⟨b1.toArray⟩)] A1 = some (.agg [.d (.str (bytes b1)), .d (.str ⟨#[]⟩), .d (.int .i64 0), .d (.int .i64 0), .d (.sl true [])], []) from rfl]
    simp only [stepK_some, AHeap.sets]
    refine alloc_open fun u A2 U2 le2 hu => ?_
    have F2 : Fq q G A2 := F1.trans (Fq.of le2)
    have R2 := R1.le le2
    have hGu : G u = none := F1.none hu R1.some
    rw [stoAgg (vs := [.d (.str (bytes b1)), .d (.str ⟨#[]⟩), .d (.int .i64 0), .d (.int .i64 0), .d (.sl true [])]) U2 rfl rfl rfl]
    simp only [stepK_some, AHeap.sets]
    have hqu : q ≠ u := fun he => by have := R1.some; rw [he, hu] at this; cases this
    have F3 := F2.new (o := .mem 0 0 5 [[.d (.str (bytes b1)), .d (.str ⟨#[]⟩), .d (.int .i64 0), .d (.int .i64 0), .d (.sl true [])]]) hGu
    have R3 := R2.keep (H' := A2.set u (.mem 0 0 5 [[.d (.str (bytes b1)), .d (.str ⟨#[]⟩), .d (.int .i64 0), .d (.int .i64 0), .d (.sl true [])]])) (set_ne hqu)
    have U3 : (A2.set u (.mem 0 0 5 [[.d (.str (bytes b1)), .d (.str ⟨#[]⟩), .d (.int .i64 0), .d (.int .i64 0), .d (.sl true [])]])) u = some (.mem 0 0 5 [[.d (.str (bytes b1)), .d (.str ⟨#[]⟩), .d (.int .i64 0), .d (.int .i64 0), .d (.sl true [])]]) := set_self
    generalize A2.set u (.mem 0 0 5 [[.d (.str (bytes b1)), .d (.str ⟨#[]⟩), .d (.int .i64 0), .d (.int .i64 0), .d (.sl true [])]]) = A3 at F3 R3 U3 ⊢
    clear U2 F2 R2 le2 hu F1 R1
    refine take_c (n := 4) R3 (by omega) fun nl2 b2 A4 R4 e2 l2 w2 F4 => ?_
    simp only [cvBS_bs, optA_some, ti72_f1, Nat.zero_add]
    rw [put_u (F4 _ _ U3 (Ne.symm hqu)) (show 1 < 5 by decide) (v := .d (.str ⟨b2.toArray⟩)) rfl rfl]
    simp only [stepK_some, AHeap.sets]
    have F5 := (F3.trans F4).new (o := .mem 0 0 5 [[.d (.str (bytes b1)), .d (.str (bytes b2)), .d (.int .i64 0), .d (.int .i64 0), .d (.sl true [])]]) hGu
    have R5 := R4.keep (H' := A4.set u (.mem 0 0 5 [[.d (.str (bytes b1)), .d (.str (bytes b2)), .d (.int .i64 0), .d (.int .i64 0), .d (.sl true [])]])) (set_ne hqu)
    have U5 : (A4.set u (.mem 0 0 5 [[.d (.str (bytes b1)), .d (.str (bytes b2)), .d (.int .i64 0), .d (.int .i64 0), .d (.sl true [])]])) u = some (.mem 0 0 5 [[.d (.str (bytes b1)), .d (.str (bytes b2)), .d (.int .i64 0), .d (.int .i64 0), .d (.sl true [])]]) := set_self
    rw [show [AV.d (.str (bytes b1)), .d (.str ⟨#[]⟩), .d (.int .i64 0), .d (.int .i64 0), .d (.sl true [])].set 1 (.d (.str ⟨b2.toArray⟩)) = [.d (.str (bytes b1)), .d (.str (bytes b2)), .d (.int .i64 0), .d (.int .i64 0), .d (.sl true [])] from rfl]
    generalize A4.set u (.mem 0 0 5 [[.d (.str (bytes b1)), .d (.str (bytes b2)), .d (.int .i64 0), .d (.int .i64 0), .d (.sl true [])]]) = A5 at F5 R5 U5 ⊢
    clear F4 R4 F3 R3 U3
    refine number_c (n := 1) R5 (by omega) (by omega) fun s A6 R6 e3 l3 F6 => ?_
    simp only [optA_some, ti72_f2, Nat.zero_add]
    rw [put_u (F6 _ _ U5 (Ne.symm hqu)) (show 2 < 5 by decide) (v := .d (.int .i64 s)) rfl rfl]
    simp only [stepK_some, AHeap.sets]
    have F7 := (F5.trans F6).new (o := .mem 0 0 5 [[.d (.str (bytes b1)), .d (.str (bytes b2)), .d (.int .i64 s), .d (.int .i64 0), .d (.sl true [])]]) hGu
    have R7 := R6.keep (H' := A6.set u (.mem 0 0 5 [[.d (.str (bytes b1)), .d (.str (bytes b2)), .d (.int .i64 s), .d (.int .i64 0), .d (.sl true [])]])) (set_ne hqu)
    have U7 : (A6.set u (.mem 0 0 5 [[.d (.str (bytes b1)), .d (.str (bytes b2)), .d (.int .i64 s), .d (.int .i64 0), .d (.sl true [])]])) u = some (.mem 0 0 5 [[.d (.str (bytes b1)), .d (.str (bytes b2)), .d (.int .i64 s), .d (.int .i64 0), .d (.sl true [])]]) := set_self
    rw [show [AV.d (.str (bytes b1)), .d (.str (bytes b2)), .d (.int .i64 0), .d (.int .i64 0), .d (.sl true [])].set 2 (.d (.int .i64 s)) = [.d (.str (bytes b1)), .d (.str (bytes b2)), .d (.int .i64 s), .d (.int .i64 0), .d (.sl true [])] from rfl]
    generalize A6.set u (.mem 0 0 5 [[.d (.str (bytes b1)), .d (.str (bytes b2)), .d (.int .i64 s), .d (.int .i64 0), .d (.sl true [])]]) = A7 at F7 R7 U7 ⊢
    clear F6 R6 F5 R5 U5
    have B7 := hB.fq F7
    simp only [ti72_f0, Nat.zero_add, optA_some, ldV_at U7 (e := 0) (off := 0) rfl rfl, ldV_at U7 (e := 0) (off := 1) rfl rfl, ldV_at U7 (e := 0) (off := 2) rfl rfl, frzLK_d, frzLK_nil]
    refine icon_c B7.base B7.ics (by omega) fun ix A8 le8 hix => ?_
    simp only [intA_lss, optA_some, frzLK_d, frzLK_nil]
    refine must_c (R7.le le8) (by decide) fun A9 R9 F9 => ?_
    refine whole_c R9 fun t A10 R10 e4 l4 F10 => ?_
    have U10 : A10 u = _ := F10 _ _ (F9 _ _ (le8 _ _ U7) (Ne.symm hqu)) (Ne.symm hqu)
    simp only [optA_some, ti72_f3, Nat.zero_add]
    obtain ⟨A11, p1, p2, F11, R11, U11⟩ := cu_put (((F7.trans (Fq.of le8)).trans F9).trans F10) R10 U10 hGu hqu (show 3 < 5 by decide) (v := .d (.int .i64 t)) rfl rfl rfl
    rw [p1]
    simp only [stepK_some, AHeap.sets, p2]
    clear p1 p2 U10
    refine number_c (n := 2) R11 (by omega) (by omega) fun mm A12 R12 e5 l5 F12 => ?_
    obtain ⟨mn, rfl⟩ : ∃ mn : Nat, mm = mn := ⟨mm.toNat, by omega⟩
    simp only [frzLK_d, frzLK_nil]
    refine take_c (n := mn) R12 (by omega) fun nl3 b3 A13 R13 e6 l6 w6 F13 => ?_
    simp only [frzLK_d, frzLK_nil]
    refine clone_c (by omega) w6 ?_
    simp only [optA_some, ti72_f4, Nat.zero_add]
    obtain ⟨A14, p1, p2, F14, R14, U14⟩ := cu_put ((F11.trans F12).trans F13) R13 (F13 _ _ (F12 _ _ U11 (Ne.symm hqu)) (Ne.symm hqu)) hGu hqu (show 4 < 5 by decide) (v := .d (.sl nl3 (bs b3))) rfl rfl rfl
    rw [p1]
    simp only [stepK_some, AHeap.sets, p2]
    refine pushI (x := (⟨b1, b2, s, t, b3⟩, nl3)) (hB.fq F14) (by omega) U14 R14.some fun iv' H' hB' hq' => ?_
    simp only [intA_add, optA_some]
    rw [wrap_i64 (by omega) (by omega)]
    have hdec : n1 - i = (n1 - (i + 1)) + 1 := by omega
    rw [hdec] at hrun
    refine hX (n1 - (i + 1)) _ _ (by omega) ⟨i + 1, _, iv', il ++ [(⟨b1, b2, s, t, b3⟩, nl3)], _, _, _, _, _, by omega, rfl, R14.keep hq', hB', by simp [hil], ?_, rfl⟩
    rw [← hrun, List.map_append]
    refine (icon_step (n := n1 - (i + 1)) (i := ix) (mm := (mn : Int)) (fun r h1 h2 => (e1 r h1 h2).1) (fun r h1 h2 => (e2 r h1 h2).1) e3 hix e4 e5 (fun r h1 h2 => (e6 r h1 h2).1)).symm
  -- the programs
  have hin : i = n1 := by omega
  subst hin
  rw [Nat.sub_self] at hrun
  have hrun1 : run st (fun r => pG1 (il.map (·.1)) r) = W := hrun
  simp only [frzLK_ptr, frzLK_nil]
  refine count_c hR fun n2 A2 R2 hn2 h200b F2 => ?_
  have B2 := hB.fq F2
  have hW2 : run (sCnt st) (fun r => bnd (progs n2 [] r) (pG2 (il.map (·.1)))) = W := by
    rw [← run_cnt (f := fun n r => bnd (progs n [] r) (pG2 (il.map (·.1)))) hn2]; exact hrun1
  clear hrun hrun1 hn2 hB hR F2 hX hlt hil
  refine loop_ind (fun r vs G => ∃ (j : Nat) (st : St) (pv : AV) (pl : List Pg) (x2 x4 x7 x8 : AV), j ≤ n2 ∧ r = n2 - j ∧ RS G q st ∧ LB G k m q iv pv il pl [] ∧ pl.length = j ∧ run st (fun r => bnd (progs (n2 - j) pl r) (pG2 (il.map (·.1)))) = W ∧ vs = [.ptr k 0 0 0, .ptr q 0 0 0, x2, .d (.int .i64 i), x4, .d (.int .i64 n2), .d (.int .i64 j), x7, x8]) (n := n2)
    ⟨0, _, _, [], _, _, _, _, Nat.zero_le _, rfl, R2, B2, rfl, hW2, rfl⟩ ?_
  clear R2 B2 hW2
  rintro X r vs G ⟨j, st, pv, pl, x2, x4, x7, x8, hj, rfl, hR, hB, hpl, hrun, rfl⟩ hX
  simp only [List.getD_cons_succ, List.getD_cons_zero, intA_lss, optA_some, ifA_ite]
  refine ite_of' (fun hlt => ?_) fun hlt => ?_
  · simp only [frzLK_ptr, frzLK_d, frzLK_nil]
    refine take_c (n := 4) hR (by omega) fun nl1 b1 A1 R1 e1 l1 w1 F1 => ?_
    simp only [cvBS_bs, optA_some]
    rw [show bdA Try.prog ti62 [0] [.d (.str ⟨b1.toArray⟩)] A1 = some (.agg [.d (.str (bytes b1)), .d (.int .i64 0), .d (.int .i64 0)], []) from rfl]
    simp only [stepK_some, AHeap.sets]
    refine alloc_open fun u A2 U2 le2 hu => ?_
    have F2 : Fq q G A2 := F1.trans (Fq.of le2)
    have R2 := R1.le le2
    have hGu : G u = none := F1.none hu R1.some
    have hqu : q ≠ u := fun he => by have := R1.some; rw [he, hu] at this; cases this
    rw [stoAgg (vs := [.d (.str (bytes b1)), .d (.int .i64 0), .d (.int .i64 0)]) U2 rfl rfl rfl]
    simp only [stepK_some, AHeap.sets]
    have F3 := F2.new (o := .mem 0 0 3 [[.d (.str (bytes b1)), .d (.int .i64 0), .d (.int .i64 0)]]) hGu
    have R3 := R2.keep (H' := A2.set u (.mem 0 0 3 [[.d (.str (bytes b1)), .d (.int .i64 0), .d (.int .i64 0)]])) (set_ne hqu)
    have U3 : (A2.set u (.mem 0 0 3 [[.d (.str (bytes b1)), .d (.int .i64 0), .d (.int .i64 0)]])) u = some (.mem 0 0 3 [[.d (.str (bytes b1)), .d (.int .i64 0), .d (.int .i64 0)]]) := set_self
    generalize A2.set u (.mem 0 0 3 [[.d (.str (bytes b1)), .d (.int .i64 0), .d (.int .i64 0)]]) = A3 at F3 R3 U3 ⊢
    clear U2 F2 R2 le2 hu F1 R1
    refine whole_c R3 fun t A4 R4 e2 l2 F4 => ?_
    simp only [optA_some, ti62_f1, Nat.zero_add]
    obtain ⟨A5, p1, p2, F5, R5, U5⟩ := cu_put (F3.trans F4) R4 (F4 _ _ U3 (Ne.symm hqu)) hGu hqu (show 1 < 3 by decide) (v := .d (.int .i64 t)) rfl rfl rfl
    rw [p1]
    simp only [stepK_some, AHeap.sets, p2]
    clear p1 p2 F4 R4 U3 F3 R3
    refine number_c (n := 4) R5 (by omega) (by omega) fun f A6 R6 e3 l3 F6 => ?_
    simp only [optA_some, ti62_f2, Nat.zero_add]
    obtain ⟨A7, p1, p2, F7, R7, U7⟩ := cu_put (F5.trans F6) R6 (F6 _ _ U5 (Ne.symm hqu)) hGu hqu (show 2 < 3 by decide) (v := .d (.int .i64 f)) rfl rfl rfl
    rw [p1]
    simp only [stepK_some, AHeap.sets, p2]
    clear p1 p2 F6 R6 U5 F5 R5
    have B7 := hB.fq F7
    have g0 : ldV false 1 (.ptr u 0 0 0) A7 = some (.d (.str (bytes b1))) := ldV_at U7 rfl rfl
    have g2 : ldV false 1 (.ptr u 0 0 2) A7 = some (.d (.int .i64 f)) := ldV_at U7 rfl rfl
    simp only [ti62_f0, Nat.zero_add, optA_some, g0, g2, frzLK_d, frzLK_nil]
    refine prog2_c B7 (by omega) fun ix A8 le8 hix => ?_
    simp only [intA_lss, optA_some, frzLK_d, frzLK_nil]
    refine must_c (R7.le le8) (by decide) fun A9 R9 F9 => ?_
    have F9' := (F7.trans (Fq.of le8)).trans F9
    refine pushP (x := ⟨b1, t, f⟩) (hB.fq F9') (by omega) (F9 _ _ (le8 _ _ U7) (Ne.symm hqu)) R9.some fun pv' H' hB' hq' => ?_
    simp only [intA_add, optA_some]
    rw [wrap_i64 (by omega) (by omega)]
    have hdec : n2 - j = (n2 - (j + 1)) + 1 := by omega
    rw [hdec] at hrun
    refine hX (n2 - (j + 1)) _ _ (by omega) ⟨j + 1, _, pv', pl ++ [⟨b1, t, f⟩], _, _, _, _, by omega, rfl, R9.keep hq', hB', by simp [hpl], ?_, rfl⟩
    rw [← hrun]
    exact (prog_step (n := n2 - (j + 1)) (i := ix) (fun r h1 h2 => (e1 r h1 h2).1) e2 e3 hix).symm
  -- the comments
  have hjn : j = n2 := by omega
  subst hjn
  rw [Nat.sub_self] at hrun
  have hrun1 : run st (fun r => pG2 (il.map (·.1)) pl r) = W := hrun
  simp only [frzLK_ptr, frzLK_nil]
  refine count_c hR fun n3 A2 R2 hn3 h200c F2 => ?_
  have B2 := hB.fq F2
  have hW2 : run (sCnt st) (fun r => bnd (coms n3 [] r) (pG3 (il.map (·.1)) pl)) = W := by
    rw [← run_cnt (f := fun n r => bnd (coms n [] r) (pG3 (il.map (·.1)) pl)) hn3]; exact hrun1
  clear hrun hrun1 hn3 hB hR F2 hX hlt hpl
  refine loop_ind (fun r vs G => ∃ (t : Nat) (st : St) (cs : List Cm) (cl : List (Int × AV)) (x4 x5 x6 : AV), t ≤ n3 ∧ r = n3 - t ∧ RS G q st ∧ LB G k m q iv pv il pl cl ∧ (∀ r, st = .ok r → cl = cs.map comAV ∧ Rising cs ∧ ∀ x ∈ cs, 1 ≤ x.i) ∧ run st (fun r => bnd (coms (n3 - t) cs r) (pG3 (il.map (·.1)) pl)) = W ∧ vs = [.ptr k 0 0 0, .ptr q 0 0 0, .d (.int .i64 (lastI cs)), .d (.int .i64 i), x4, x5, x6, .d (.int .i64 n3), .d (.int .i64 t)]) (n := n3)
    ⟨0, _, [], [], _, _, _, Nat.zero_le _, rfl, R2, B2, fun _ _ => ⟨rfl, by simp [Rising], by simp⟩, hW2, rfl⟩ ?_
  clear R2 B2 hW2
  rintro X r vs G ⟨t, st, cs, cl, x4, x5, x6, ht, rfl, hR, hB, hcs, hrun, rfl⟩ hX
  simp only [List.getD_cons_succ, List.getD_cons_zero, intA_lss, optA_some, ifA_ite]
  refine ite_of' (fun hlt => ?_) fun hlt => ?_
  · simp only [frzLK_ptr, frzLK_d, frzLK_nil]
    refine number_c (n := 4) hR (by omega) (by omega) fun id A1 R1 e1 l1 F1 => ?_
    simp only [intA_gtr, optA_some, frzLK_ptr, frzLK_d, frzLK_nil]
    refine must_c R1 (by decide) fun A2 R2 F2 => ?_
    refine number_c (n := 1) R2 (by omega) (by omega) fun mm A3 R3 e2 l2 F3 => ?_
    obtain ⟨mn, rfl⟩ : ∃ mn : Nat, mm = mn := ⟨mm.toNat, by omega⟩
    simp only [frzLK_d, frzLK_nil]
    refine take_c (n := mn) R3 (by omega) fun nl1 b1 A4 R4 e3 l3 w3 F4 => ?_
    have F := ((F1.trans F2).trans F3).trans F4
    have B4 := hB.fq F
    have g2 : ldV false 1 (.ptr k 0 0 2) A4 = some (.map m) := ldV_at B4.base rfl rfl
    obtain ⟨es, c, cl', p1, B5, p3⟩ := putC (i := id) (s := ⟨b1.toArray⟩) B4
    simp only [cvBS_bs, optA_some, nilCkA, ti55_f2, Nat.zero_add, g2, p1, stepK_some, AHeap.sets, intA_add]
    rw [wrap_i64 (by omega) (by omega)]
    have hdec : n3 - t = (n3 - (t + 1)) + 1 := by omega
    rw [hdec] at hrun
    have hl : lastI (cs ++ [⟨id, b1⟩]) = id := by simp [lastI]
    refine hX (n3 - (t + 1)) _ _ (by omega) ⟨t + 1, _, cs ++ [⟨id, b1⟩], cl', _, _, _, by omega, rfl, R4.keep (set_ne (Ne.symm hmq)), B5, fun r hr => ?_, ?_, by rw [hl]; rfl⟩
    · obtain ⟨r3, hr3, _⟩ := sTk_ok hr
      obtain ⟨r2, hr2, _⟩ := sNum_ok hr3
      obtain ⟨hr1, hgt⟩ := must_ok hr2
      obtain ⟨r0, hr0, q1, q2, q3⟩ := sNum_ok hr1
      obtain ⟨a1, a2, a3⟩ := hcs r0 hr0
      have hid := e1 r0 hr0 q1 q2 q3
      have hgt' : lastI cs < id := by simpa using hgt
      have hi1 : 1 ≤ id := by omega
      have hnin := rising_new a2 a3 hgt'
      refine ⟨?_, rising_snoc a2 a3 hgt', fun x hx => (List.mem_append.1 hx).elim (a3 x) fun hx => by cases List.mem_singleton.1 hx; exact hi1⟩
      rw [p3 ?_, a1, List.map_append]
      · rfl
      · rw [a1, List.map_map]
        exact hnin
    · rw [← hrun]
      exact (com_step (n := n3 - (t + 1)) (i := id) (mm := (mn : Int)) e1 e2 (fun r h1 h2 => (e3 r h1 h2).1)).symm
  have htn : t = n3 := by omega
  subst htn
  rw [Nat.sub_self] at hrun
  have hrun1 : run st (fun r => pG3 (il.map (·.1)) pl cs r) = W := hrun
  cases st with
  | error e =>
    have hW : W = .error e := hrun1.symm
    obtain ⟨h0, nl2, l2, h2⟩ := hR
    have g0 : ldV false 1 (.ptr q 0 0 0) G = some (.d (.sl nl2 l2)) := ldV_at h2 rfl rfl
    simp only [nilCkA, ti68_f0, Nat.zero_add, g0, optA_some, lenSl_d, intA_eql, frzLK_ptr, frzLK_d, frzLK_nil]
    refine must_c (st := .error e) ⟨h0, nl2, l2, h2⟩ (by decide) fun A1 R1 F1 => ?_
    obtain ⟨h0, nl2, l2, h2⟩ := R1
    have g1 : ldV false 1 (.ptr q 0 0 1) A1 = some (.d (.int .i64 e)) := ldV_at h2 rfl rfl
    simp only [ti68_f1, Nat.zero_add, g1, optA_some, intA_neq, ne_eq, h0, not_false_eq_true, decide_true, ifA_t, drA_true, ret2_nilptrd]
    exact ⟨_, le_refl', hke e A1 (by rw [hP, hW]; rfl) h0⟩
  | ok r =>
    obtain ⟨hr0, nl2, hn2, h2⟩ := hR
    obtain ⟨a1, a2, a3⟩ := hcs r rfl
    subst a1
    have hW : W = if r = [] then .ok ((il.map (·.1), pl, cs), r) else .error 3 := by rw [← hrun1]; rfl
    have g0 : ldV false 1 (.ptr q 0 0 0) G = some (.d (.sl nl2 (bs r))) := ldV_at h2 rfl rfl
    simp only [nilCkA, ti68_f0, Nat.zero_add, g0, optA_some, lenSl_d, bs_length, intA_eql, frzLK_ptr, frzLK_d, frzLK_nil]
    refine must_c (st := .ok r) ⟨hr0, nl2, hn2, h2⟩ (by decide) fun A1 R1 F1 => ?_
    by_cases hr : r = []
    · subst hr
      rw [if_pos rfl] at hW
      obtain ⟨_, nl3, _, h3⟩ := R1
      have g1 : ldV false 1 (.ptr q 0 0 1) A1 = some (.d (.int .i64 0)) := ldV_at h3 rfl rfl
      simp only [ti68_f1, Nat.zero_add, g1, optA_some, intA_neq, ne_eq, not_true_eq_false, decide_false, ifA_f, ret2_ptrd]
      exact ⟨_, le_refl', hk k m q iv pv il pl cs A1 (by rw [hP, hW]; rfl) (hB.fq F1)⟩
    · rw [if_neg hr] at hW
      have hlen : decide ((r.length : Int) = 0) = false := by
        rw [decide_eq_false]
        intro h
        exact hr (List.eq_nil_of_length_eq_zero (by omega))
      rw [hlen] at R1
      obtain ⟨h0, nl3, l3, h3⟩ := R1
      have g1 : ldV false 1 (.ptr q 0 0 1) A1 = some (.d (.int .i64 3)) := ldV_at h3 rfl rfl
      simp only [ti68_f1, Nat.zero_add, g1, optA_some, intA_neq, ne_eq, h0, not_false_eq_true, decide_true, ifA_t, drA_true, ret2_nilptrd]
      exact ⟨_, le_refl', hke 3 A1 (by rw [hP, hW]; rfl) (by decide)⟩
end
end Go.Proofs.Ytmciomkibklokaa
/- The document's reader of a desktop's bytes. -/
set_option autoImplicit false
set_option maxRecDepth 100000
set_option linter.unusedVariables false
set_option linter.unusedSimpArgs false
set_option linter.unnecessarySimpa false
namespace Go.Proofs.Ytmciomkibklokaa
open Go Go.AM Go.Proofs Go.RowKit
/-- The document's reader. -/
def RD (all : By) (H : AHeap) (q : Nat) : St → Prop
  | .ok r => all.length < 2 ^ 50 ∧ ∃ (nl : Bool) (at' : Nat), at' ≤ all.length ∧ r = all.drop at' ∧ H q = some (.mem 0 0 3 [[.d (.sl nl (bs all)), .d (.int .i64 at'), .d (.int .i64 0)]])
  | .error e => all.length < 2 ^ 50 ∧ e ≠ 0 ∧ ∃ (nl : Bool) (at' : Nat), at' ≤ all.length ∧ H q = some (.mem 0 0 3 [[.d (.sl nl (bs all)), .d (.int .i64 at'), .d (.int .i64 e)]])
section
variable {all : By} {H G : AHeap} {q : Nat} {st : St} {K : AV → AHeap → Prop}
theorem RD.isS (h : RD all H q st) : (H q).isSome := by
  cases st with
  | ok r => obtain ⟨_, nl, a, _, _, h⟩ := h; rw [h]; rfl
  | error e => obtain ⟨_, _, nl, a, _, h⟩ := h; rw [h]; rfl
theorem RD.keep {H' : AHeap} (h : RD all H q st) (hle : H' q = H q) : RD all H' q st := by
  cases st with
  | ok r => obtain ⟨h0, nl, a, h1, h2, h⟩ := h; exact ⟨h0, nl, a, h1, h2, hle.trans h⟩
  | error e => obtain ⟨h0, h1, nl, a, h2, h⟩ := h; exact ⟨h0, h1, nl, a, h2, hle.trans h⟩
theorem RD.le {H' : AHeap} (h : RD all H q st) (hle : AHeap.le H H') : RD all H' q st := h.keep (by
  cases hq : H q with
  | none => have := h.isS; rw [hq] at this; cases this
  | some o => exact hle _ _ hq)
theorem RD.err (h : RD all H q st) : ∃ e, ldV false 1 (.ptr q 0 0 2) H = some (.d (.int .i64 e)) ∧ (e = 0 ↔ ∃ r, st = .ok r) ∧ ∀ e', st = .error e' → e = e' := by
  cases st with
  | ok r => obtain ⟨h0, nl, a, h1, h2, h⟩ := h; exact ⟨0, ldV_at h rfl rfl, ⟨fun _ => ⟨r, rfl⟩, fun _ => rfl⟩, fun e' he => by cases he⟩
  | error e => obtain ⟨h0, h1, nl, a, h2, h⟩ := h; exact ⟨e, ldV_at h rfl rfl, ⟨fun he => absurd he h1, fun ⟨r, hr⟩ => by cases hr⟩, fun e' he => by cases he; rfl⟩
theorem check_c {b : Bool} {e : Int} (h : RD all H q st) (he : e ≠ 0) (hk : ∀ H', RD all H' q (must b e st) → Fq q H H' → K (.tup []) H') : CallsA Try.prog 41 [.ptr q 0 0 0, .d (.bool b), .d (.int .i64 e)] H K := by
  apply C41
  unfold S41
  cases st with
  | ok r =>
    obtain ⟨h0, nl, a, ha, hr, h⟩ := h
    have l1 : ldV false 1 (.ptr q 0 0 2) H = some (.d (.int .i64 0)) := ldV_at h rfl rfl
    simp only [nilCkA, ti79_f2, Nat.zero_add, l1, optA_some, intA_eql, decide_true, ifA_t, unA_not]
    cases b with
    | true =>
      simp only [Bool.not_true, ifA_f, ret0]
      exact ⟨_, le_refl', hk H ⟨h0, nl, a, ha, hr, h⟩ .refl⟩
    | false =>
      simp only [Bool.not_false, ifA_t, stoA_at h (Nat.le_refl 0) rfl (show 2 < 3 by decide) (v := .d (.int .i64 e)) rfl rfl, stepK_some, AHeap.sets, ret0]
      exact ⟨_, le_refl', hk _ ⟨h0, he, nl, a, ha, set_self⟩ .set⟩
  | error e' =>
    obtain ⟨h0, h1, nl, a, ha, h⟩ := h
    have l1 : ldV false 1 (.ptr q 0 0 2) H = some (.d (.int .i64 e')) := ldV_at h rfl rfl
    simp only [nilCkA, ti79_f2, Nat.zero_add, l1, optA_some, intA_eql, h1, decide_false, ifA_f, ret0]
    exact ⟨_, le_refl', hk H ⟨h0, h1, nl, a, ha, h⟩ .refl⟩
theorem repl_bs {n : Nat} : toDatss ((repl n [AV.d (.int .u8 0)]).take n) = some (bs (List.replicate n (0 : UInt8))) := by
  have : (repl n [AV.d (.int .u8 0)]).take n = (bs (List.replicate n (0 : UInt8))).map (·.map AV.d) := by
    rw [List.take_of_length_le (by simp [repl])]
    simp [repl, bs]
  rw [this]
  exact toDatss_avs
theorem zeros_ret {n : Nat} (hn : n < 2 ^ 40) (hk : ∀ H', AHeap.le H H' → K (.d (.sl false (bs (List.replicate n (0 : UInt8))))) H') : newK H (fun n20 => mkSlA ti5 (.d (.int .i64 n)) (.d (.int .i64 n)) n20) fun v18 H19 => retF [v18] H19 K := by
  intro u hu
  have e : mkSlA ti5 (.d (.int .i64 (n : Int))) (.d (.int .i64 (n : Int))) u = some (.rs u 0 1 0 n, [(u, .mem 0 0 1 (repl n [.d (.int .u8 0)]))]) := by
    simp only [mkSlA, Int.natCast_nonneg, Int.le_refl, Int.toNat_natCast, true_and, ti5]
    rw [if_pos ⟨by simp only [mostBytes]; omega, by decide, by decide⟩]
  show stepK (mkSlA ti5 (.d (.int .i64 (n : Int))) (.d (.int .i64 (n : Int))) u) H _
  rw [e]
  simp only [stepK_some, AHeap.sets, retF, frzLK, frzAL, frzA, frz, set_self, if_true, List.drop_zero, repl_bs, bs_length, List.length_replicate, optA_some, List.append_nil, one1]
  refine ⟨H, fun i o hi => ?_, hk H le_refl'⟩
  have hne : i ≠ u := fun he => by rw [he, hu] at hi; cases hi
  simp only [AHeap.set, hne, if_false]
  exact hi
theorem rtake_c {n : Nat} (h : RD all H q st) (hn : n < 2 ^ 40) (hk : ∀ nl (b : By) H', RD all H' q (sTk n st) → (∀ r, st = .ok r → n ≤ r.length → b = r.take n) → b.length = n → Fq q H H' → K (.d (.sl nl (bs b))) H') : CallsA Try.prog 39 [.ptr q 0 0 0, .d (.int .i64 n)] H K := by
  apply C39
  unfold S39
  have key : ∀ (nl : Bool) (a : Nat) (e : Int), all.length < 2 ^ 50 → a ≤ all.length → H q = some (.mem 0 0 3 [[.d (.sl nl (bs all)), .d (.int .i64 a), .d (.int .i64 e)]]) → ∀ X : AHeap → Prop, (∀ H', RD all H' q (must (decide ((n : Int) ≤ all.length - a)) 6 st) → Fq q H H' → X H') →
      (optA (nilCkA (.ptr q 0 0 0)) fun v1 => optA (fieldA ti79 v1 0) fun v2 => optA (ldV false 1 v2 H) fun v3 => optA (lenSl v3) fun v4 => optA (nilCkA (.ptr q 0 0 0)) fun v5 => optA (fieldA ti79 v5 1) fun v6 => optA (ldV false 1 v6 H) fun v7 => optA (intA .sub v4 v7) fun v8 => optA (intA .leq (.d (.int .i64 n)) v8) fun v9 => frzLK [.ptr q 0 0 0, v9, .d (.int .i64 6)] H fun l12 H13 => CallsA Try.prog 41 l12 H13 fun v10 H11 => X H11) := fun nl a e h0 ha hq X hX => by
    have g0 : ldV false 1 (.ptr q 0 0 0) H = some (.d (.sl nl (bs all))) := ldV_at hq rfl rfl
    have g1 : ldV false 1 (.ptr q 0 0 1) H = some (.d (.int .i64 a)) := ldV_at hq rfl rfl
    simp only [nilCkA, ti79_f0, ti79_f1, Nat.zero_add, g0, g1, optA_some, lenSl_d, bs_length, intA_sub, intA_leq, frzLK_ptr, frzLK_d, frzLK_nil]
    rw [wrap_i64 (by omega) (by omega)]
    exact check_c h (by decide) fun H' h1 h2 => hX H' h1 h2
  have err : ∀ (e : Int) (H' : AHeap), RD all H' q (.error e) → sTk n st = .error e → (∀ r, st = .ok r → ¬ n ≤ r.length) → Fq q H H' → optA (nilCkA (.ptr q 0 0 0)) fun v14 => optA (fieldA ti79 v14 2) fun v15 => optA (ldV false 1 v15 H') fun v16 => optA (intA .neq v16 (.d (.int .i64 0))) fun v17 => ifA v17 (newK H' (fun n20 => mkSlA ti5 (.d (.int .i64 n)) (.d (.int .i64 n)) n20) fun v18 H19 => retF [v18] H19 K) (optA (nilCkA (.ptr q 0 0 0)) fun v21 => optA (fieldA ti79 v21 1) fun v22 => optA (ldV false 1 v22 H') fun v23 => optA (intA .add v23 (.d (.int .i64 n))) fun v24 => optA (nilCkA (.ptr q 0 0 0)) fun v25 => optA (fieldA ti79 v25 1) fun v26 => stepK (stoA false 1 v26 v24 H') H' fun v27 H28 => drA true (optA (nilCkA (.ptr q 0 0 0)) fun v29 => optA (fieldA ti79 v29 0) fun v30 => optA (ldV false 1 v30 H28) fun v31 => optA (nilCkA (.ptr q 0 0 0)) fun v32 => optA (fieldA ti79 v32 1) fun v33 => optA (ldV false 1 v33 H28) fun v34 => optA (intA .sub v34 (.d (.int .i64 n))) fun v35 => optA (nilCkA (.ptr q 0 0 0)) fun v36 => optA (fieldA ti79 v36 1) fun v37 => optA (ldV false 1 v37 H28) fun v38 => optA (sliceA 1 v31 (some v35) (some v38) none H28) fun v39 => retF [v39] H28 K)) := fun e H' hR hs hno hF => by
    obtain ⟨e', g1, g2, g3⟩ := hR.err
    obtain rfl := g3 e rfl
    have hne : ¬ e' = 0 := fun h0 => by obtain ⟨r, hr⟩ := g2.1 h0; cases hr
    simp only [nilCkA, ti79_f2, Nat.zero_add, g1, optA_some, intA_neq, ne_eq, hne, not_false_eq_true, decide_true, ifA_t]
    refine zeros_ret hn fun H2 hle => hk false _ H2 (by rw [hs]; exact hR.le hle) (fun r hr hle' => absurd hle' (hno r hr)) (by simp) (hF.trans (Fq.of hle))
  cases st with
  | error e =>
    obtain ⟨h0, h1, nl, a, ha, hq⟩ := h
    refine ⟨rfl, key nl a e h0 ha hq _ fun H' hR hF => ?_⟩
    exact err e H' hR rfl (fun r hr => by cases hr) hF
  | ok r =>
    obtain ⟨h0, nl, a, ha, hr, hq⟩ := h
    refine ⟨rfl, key nl a 0 h0 ha hq _ fun H' hR hF => ?_⟩
    have hrl : r.length = all.length - a := by rw [hr, List.length_drop]
    by_cases hle : n ≤ r.length
    · rw [show decide ((n : Int) ≤ all.length - a) = true by rw [decide_eq_true]; omega] at hR
      obtain ⟨_, nl2, a2, ha2, hr2, hq2⟩ := hR
      have hrl2 : r.length = all.length - a2 := by rw [hr2, List.length_drop]
      have g2 : ldV false 1 (.ptr q 0 0 2) H' = some (.d (.int .i64 0)) := ldV_at hq2 rfl rfl
      have g1 : ldV false 1 (.ptr q 0 0 1) H' = some (.d (.int .i64 a2)) := ldV_at hq2 rfl rfl
      simp only [nilCkA, ti79_f1, ti79_f2, Nat.zero_add, g1, g2, optA_some, intA_neq, ne_eq, not_true_eq_false, decide_false, ifA_f, intA_add]
      rw [wrap_i64 (by omega) (by omega), stoA_at hq2 (Nat.le_refl 0) rfl (show 1 < 3 by decide) (v := .d (.int .i64 ((a2 : Int) + n))) rfl rfl]
      simp only [stepK_some, AHeap.sets]
      have hs : (H'.set q (.mem 0 0 3 ([[AV.d (.sl nl2 (bs all)), .d (.int .i64 a2), .d (.int .i64 0)]].set 0 ([AV.d (.sl nl2 (bs all)), .d (.int .i64 a2), .d (.int .i64 0)].set 1 (.d (.int .i64 ((a2 : Int) + n))))))) q = some (.mem 0 0 3 [[.d (.sl nl2 (bs all)), .d (.int .i64 ((a2 : Int) + n)), .d (.int .i64 0)]]) := set_self
      have k0 := ldV_at hs (e := 0) (off := 0) rfl rfl
      have k1 := ldV_at hs (e := 0) (off := 1) rfl rfl
      have hF2 : Fq q H (H'.set q (.mem 0 0 3 ([[AV.d (.sl nl2 (bs all)), .d (.int .i64 a2), .d (.int .i64 0)]].set 0 ([AV.d (.sl nl2 (bs all)), .d (.int .i64 a2), .d (.int .i64 0)].set 1 (.d (.int .i64 ((a2 : Int) + n))))))) := hF.trans .set
      generalize (H'.set q (.mem 0 0 3 ([[AV.d (.sl nl2 (bs all)), .d (.int .i64 a2), .d (.int .i64 0)]].set 0 ([AV.d (.sl nl2 (bs all)), .d (.int .i64 a2), .d (.int .i64 0)].set 1 (.d (.int .i64 ((a2 : Int) + n))))))) = H3 at hs k0 k1 hF2 ⊢
      simp only [drA_true, ti79_f0, Nat.zero_add, k0, k1, optA_some, intA_sub]
      rw [show (a2 : Int) + n - n = a2 by omega, wrap_i64 (n := (a2 : Int)) (by omega) (by omega)]
      rw [show sliceA 1 (.d (.sl nl2 (bs all))) (some (.d (.int .i64 (a2 : Int)))) (some (.d (.int .i64 ((a2 : Int) + n)))) none H3 = some (.d (.sl nl2 (bs (r.take n)))) by
        have hhd : headLen 1 (bs all) = true := by cases all <;> rfl
        simp only [sliceA, AM.bnd, Int.natCast_nonneg, if_true, Int.toNat_natCast, bs_length]
        rw [if_pos (by omega), show ((a2 : Int) + n).toNat = a2 + n by omega]
        simp only
        rw [if_pos ⟨by omega, by omega, .inr hhd⟩, hr2, Nat.add_sub_cancel_left]
        simp [bs, List.map_take, List.map_drop]]
      simp only [optA_some, ret1_d]
      refine ⟨_, le_refl', hk nl2 (r.take n) H3 ?_ (fun r' hr' _ => by cases hr'; rfl) (by simp; omega) hF2⟩
      simp only [sTk]; rw [if_pos hle]
      exact ⟨h0, nl2, a2 + n, by omega, by rw [hr2, List.drop_drop], by rw [hs]; rfl⟩
    · rw [show decide ((n : Int) ≤ all.length - a) = false by rw [decide_eq_false]; omega] at hR
      refine err 6 H' hR (by simp only [sTk]; rw [if_neg hle]) (fun r' hr' => by cases hr'; exact hle) hF
end
end Go.Proofs.Ytmciomkibklokaa
/- The document's reader: numbers, searches. -/
set_option autoImplicit false
set_option maxRecDepth 100000
set_option linter.unusedVariables false
set_option linter.unusedSimpArgs false
set_option linter.unnecessarySimpa false
namespace Go.Proofs.Ytmciomkibklokaa
open Go Go.AM Go.Proofs Go.RowKit
section
variable {all : By} {H G : AHeap} {q k : Nat} {st : St} {iv pv cv : AV} {il : List (Ic × Bool)} {pl : List Pg} {K : AV → AHeap → Prop}
theorem wrap_step {x : Int} {b : Nat} : wrap64 (wrap64 x * 256 + b) = wrap64 (x * 256 + b) := by unfold wrap64; omega
theorem rnum_c {n : Nat} (h : RD all H q st) (hn : n < 2 ^ 30) (hk : ∀ (v : Int) H', RD all H' q (sTk n st) → (∀ r, st = .ok r → n ≤ r.length → v = wrap64 (be (r.take n))) → -9223372036854775808 ≤ v ∧ v ≤ 9223372036854775807 → Fq q H H' → K (.d (.int .i64 v)) H') : CallsA Try.prog 40 [.ptr q 0 0 0, .d (.int .i64 n)] H K := by
  apply C40
  unfold S40
  simp only [frzLK_ptr, frzLK_d, frzLK_nil]
  refine rtake_c h (by omega) fun nl b H1 hR1 hb hbl hF1 => ?_
  refine loop_ind (fun m vs G => ∃ i : Nat, i ≤ n ∧ m = n - i ∧ G = H1 ∧ vs = [.d (.int .i64 n), .d (.sl nl (bs b)), .d (.int .i64 (wrap64 (be (b.take i)))), .d (.int .i64 i)]) (n := n) ⟨0, Nat.zero_le _, rfl, rfl, by simp [be, wrap64]⟩ ?_
  rintro X m vs G ⟨i, hi, rfl, rfl, rfl⟩ hX
  simp only [List.getD_cons_succ, List.getD_cons_zero, intA_lss, optA_some, ifA_ite]
  by_cases hbi : i < n
  · rw [if_pos (by omega)]
    have hbi' : i < b.length := by omega
    have hix : indexAddrA ti22 1 (.d (.sl nl (bs b))) (.d (.int .i64 i)) = some (.vptr [.int .u8 b[i].toNat] 0) := sl_get (e := 5) rfl (by omega) (by rw [Int.toNat_natCast, bs_get hbi']) rfl
    rw [intA_shl (by decide)]
    simp only [hix, optA_some, ldV_v, ldM, partV, List.drop_zero, List.take_succ_cons, List.take_zero, List.map_cons, List.map_nil, List.length_cons, List.length_nil, if_true, Bool.false_eq_true, if_false, Nat.zero_add, cvI_int, intA_add]
    rw [intA_or, optA_some]
    erw [shlor_i]
    rw [wrap_step, wrap_i64 (by omega) (by omega)]
    refine hX (n - (i + 1)) _ _ (by omega) ⟨i + 1, by omega, rfl, rfl, ?_⟩
    rw [be_take hbi']
    push_cast
    rfl
  · rw [if_neg (by omega)]
    have hin : i = n := by omega
    subst hin
    simp only [ret1_d]
    refine ⟨_, le_refl', hk _ _ hR1 (fun r hr hle => ?_) (by unfold wrap64; omega) hF1⟩
    rw [hb r hr hle, List.take_take, Nat.min_self]
theorem rnum_small {n : Nat} (hn : n ≤ 4) {r : By} (hle : n ≤ r.length) : wrap64 (be (r.take n)) = be (r.take n) := by
  have hlt := be_lt (r.take n)
  have hl : (r.take n).length = n := by simp; omega
  rw [hl] at hlt
  have h3 : 256 ^ n ≤ 256 ^ 4 := Nat.pow_le_pow_right (by decide) hn
  unfold wrap64; omega
/-- A number in its range: read, then checked. -/
theorem must_num {n : Nat} {lo hi v : Int} {b : Bool} (hv : ∀ r, st = .ok r → n ≤ r.length → v = be (r.take n)) (hb : ∀ r, st = .ok r → n ≤ r.length → (b = true ↔ lo ≤ v ∧ v ≤ hi)) : must b 3 (sTk n st) = sNum n lo hi st := by
  cases st with
  | error e => rfl
  | ok r =>
    simp only [sTk, sNum]
    by_cases hle : n ≤ r.length
    · have := hv r rfl hle
      have hb := hb r rfl hle
      subst this
      rw [if_pos hle, if_pos hle]
      by_cases hc : lo ≤ be (r.take n) ∧ (be (r.take n) : Int) ≤ hi
      · rw [if_pos hc, hb.2 hc]; rfl
      · rw [if_neg hc]
        have : b = false := by
          cases b with
          | false => rfl
          | true => exact absurd (hb.1 rfl) hc
        rw [this]; rfl
    · rw [if_neg hle, if_neg hle]; rfl
theorem isSize_c {n : Int} (hk : K (.d (.bool (decide (1 ≤ n ∧ n ≤ 6)))) H) : CallsA Try.prog 42 [.d (.int .i64 n)] H K := by
  apply C42
  unfold S42
  simp only [go_sem]
  by_cases h1 : n ≥ 1
  · rw [if_pos h1]
    refine ⟨_, le_refl', ?_⟩
    rw [show decide (n ≤ 6) = decide (1 ≤ n ∧ n ≤ 6) by have : 1 ≤ n := h1; simp [this]]
    exact hk
  · rw [if_neg h1]
    refine ⟨_, le_refl', ?_⟩
    rw [show false = decide (1 ≤ n ∧ n ≤ 6) by have : ¬ 1 ≤ n := h1; simp [this]]
    exact hk
theorem rcount_c (h : RD all H q st) (hk : ∀ (v : Int) H', RD all H' q (sCnt st) → (∀ r, st = .ok r → 2 ≤ r.length → be (r.take 2) ≤ 200 → v = be (r.take 2)) → -9223372036854775808 ≤ v ∧ v ≤ 9223372036854775807 → Fq q H H' → K (.d (.int .i64 v)) H') : CallsA Try.prog 38 [.ptr q 0 0 0] H K := by
  apply C38
  unfold S38
  simp only [frzLK_ptr, frzLK_d, frzLK_nil]
  refine rnum_c (n := 2) h (by omega) fun v H1 hR1 hv1 hvb hF1 => ?_
  have hv2 : ∀ r, st = .ok r → 2 ≤ r.length → v = be (r.take 2) := fun r hr hle => by rw [hv1 r hr hle, rnum_small (by omega) hle]
  simp only [intA_leq, optA_some, frzLK_ptr, frzLK_d, frzLK_nil]
  refine check_c hR1 (by decide) fun H2 hR2 hF2 => ?_
  simp only [ret1_d]
  have e : must (decide (v ≤ 200)) 4 (sTk 2 st) = sCnt st := by
    cases st with
    | error e => rfl
    | ok r =>
      simp only [sTk, sCnt]
      by_cases hle : 2 ≤ r.length
      · have := hv2 r rfl hle
        subst this
        rw [if_pos hle, if_pos hle]
        by_cases h2 : be (r.take 2) ≤ 200
        · rw [if_pos h2]; simp only [must]; rw [if_pos (by rw [decide_eq_true]; omega)]
        · rw [if_neg h2]; simp only [must]; rw [if_neg (by rw [decide_eq_true_eq]; omega)]
      · rw [if_neg hle, if_neg hle]; rfl
  rw [e] at hR2
  exact ⟨_, le_refl', hk v H2 hR2 (fun r hr hle _ => hv2 r hr hle) hvb (hF1.trans hF2)⟩
/-! ### the document's base -/
abbrev cdat (x : Cm) : List Dat := [.int .i64 x.i, .str (bytes x.s)]
structure RB (H0 H : AHeap) (k q : Nat) (iv pv cv : AV) (il : List Ic) (pl : List Pg) (cl : List Cm) : Prop where
  base : H k = some (.mem 0 0 3 [[iv, pv, cv]])
  ics : Ms 5 H iv (il.map fun x => idat (x, false))
  pgs : Ms 3 H pv (pl.map gdat)
  cms : Ms 2 H cv (cl.map cdat)
  kq : k ≠ q
  iq : idOf iv ≠ some q
  pq : idOf pv ≠ some q
  cq : idOf cv ≠ some q
  pk : idOf pv ≠ some k
  le0 : AHeap.le H0 H
  k0 : H0 k = none
  q0 : H0 q = none
  i0 : ∀ i, idOf iv = some i → H0 i = none
  p0 : ∀ i, idOf pv = some i → H0 i = none
  c0 : ∀ i, idOf cv = some i → H0 i = none
section
variable {H0 H H' : AHeap} {k q : Nat} {iv pv cv v' : AV} {il : List Ic} {pl : List Pg} {cl : List Cm}
theorem RB.fq (h : RB H0 H k q iv pv cv il pl cl) (hF : Fq q H H') : RB H0 H' k q iv pv cv il pl cl := by
  refine ⟨hF _ _ h.base h.kq, h.ics.keep fun i hi => ?_, h.pgs.keep fun i hi => ?_, h.cms.keep fun i hi => ?_, h.kq, h.iq, h.pq, h.cq, h.pk, fun i o hi => hF i o (h.le0 i o hi) (fun he => by rw [he, h.q0] at hi; cases hi), h.k0, h.q0, h.i0, h.p0, h.c0⟩
  · obtain ⟨ver, L, h2⟩ := h.ics.isObj hi
    rw [h2]; exact hF _ _ h2 fun he => h.iq (he ▸ hi)
  · obtain ⟨ver, L, h2⟩ := h.pgs.isObj hi
    rw [h2]; exact hF _ _ h2 fun he => h.pq (he ▸ hi)
  · obtain ⟨ver, L, h2⟩ := h.cms.isObj hi
    rw [h2]; exact hF _ _ h2 fun he => h.cq (he ▸ hi)
theorem Ms.apart5 {sz sz' : Nat} {v w : AV} {l l' : List (List Dat)} (h : Ms sz H v l) (h' : Ms sz' H w l') (hs : sz ≠ sz') {i : Nat} (hi : idOf v = some i) : idOf w ≠ some i := fun hw => by
  obtain ⟨_, _, h2⟩ := h.isObj hi
  obtain ⟨_, _, h3⟩ := h'.isObj hw
  rw [h2] at h3
  cases h3
  exact hs rfl
theorem RB.putI {l : List Ic} (h : RB H0 H k q iv pv cv il pl cl) (hq : (H q).isSome) (hM : Ms 5 H' v' (l.map fun x => idat (x, false))) (hfr : ∀ i, (H i).isSome → idOf iv ≠ some i → H' i = H i) (hid : ∀ i, idOf v' = some i → idOf iv = some i ∨ H i = none) : RB H0 (H'.set k (.mem 0 0 3 [[v', pv, cv]])) k q v' pv cv l pl cl ∧ H' k = some (.mem 0 0 3 [[iv, pv, cv]]) ∧ (H'.set k (.mem 0 0 3 [[v', pv, cv]])) q = H q := by
  have hik : idOf iv ≠ some k := fun hh => by obtain ⟨_, _, h2⟩ := h.ics.isObj hh; rw [h.base] at h2; cases h2
  have hk' : H' k = some (.mem 0 0 3 [[iv, pv, cv]]) := (hfr k (by rw [h.base]; rfl) hik).trans h.base
  have hsep : idOf v' ≠ some k := fun hh => by
    rcases hid k hh with h1 | h1
    · exact hik h1
    · rw [h.base] at h1; cases h1
  refine ⟨⟨set_self, hM.keep fun i hi => set_ne (fun he => hsep (he ▸ hi)), h.pgs.keep fun i hi => ?_, h.cms.keep fun i hi => ?_, h.kq, fun hh => ?_, h.pq, h.cq, h.pk, fun i o hi => ?_, h.k0, h.q0, fun i hi => ?_, h.p0, h.c0⟩, hk', ?_⟩
  · obtain ⟨_, _, h2⟩ := h.pgs.isObj hi
    rw [set_ne (show i ≠ k from fun he => h.pk (he ▸ hi)), hfr i (by rw [h2]; rfl) fun hh => Ms.apart5 h.ics h.pgs (by decide) hh hi]
  · obtain ⟨_, _, h2⟩ := h.cms.isObj hi
    rw [set_ne (show i ≠ k from fun he => by rw [he, h.base] at h2; cases h2), hfr i (by rw [h2]; rfl) fun hh => Ms.apart5 h.ics h.cms (by decide) hh hi]
  · rcases hid q hh with h1 | h1
    · exact h.iq h1
    · rw [h1] at hq; cases hq
  · have h1 := h.le0 i o hi
    rw [set_ne (show i ≠ k from fun he => by rw [he, h.k0] at hi; cases hi), hfr i (by rw [h1]; rfl) fun hh => by rw [h.i0 i hh] at hi; cases hi]
    exact h1
  · rcases hid i hi with h1 | h1
    · exact h.i0 i h1
    · cases hx : H0 i with
      | none => rfl
      | some o => rw [h.le0 i o hx] at h1; cases h1
  · rw [set_ne (Ne.symm h.kq)]; exact hfr q hq h.iq
theorem RB.putP {l : List Pg} (h : RB H0 H k q iv pv cv il pl cl) (hq : (H q).isSome) (hM : Ms 3 H' v' (l.map gdat)) (hfr : ∀ i, (H i).isSome → idOf pv ≠ some i → H' i = H i) (hid : ∀ i, idOf v' = some i → idOf pv = some i ∨ H i = none) : RB H0 (H'.set k (.mem 0 0 3 [[iv, v', cv]])) k q iv v' cv il l cl ∧ H' k = some (.mem 0 0 3 [[iv, pv, cv]]) ∧ (H'.set k (.mem 0 0 3 [[iv, v', cv]])) q = H q := by
  have hk' : H' k = some (.mem 0 0 3 [[iv, pv, cv]]) := (hfr k (by rw [h.base]; rfl) h.pk).trans h.base
  have hsep : idOf v' ≠ some k := fun hh => by
    rcases hid k hh with h1 | h1
    · exact h.pk h1
    · rw [h.base] at h1; cases h1
  refine ⟨⟨set_self, h.ics.keep fun i hi => ?_, hM.keep fun i hi => set_ne (fun he => hsep (he ▸ hi)), h.cms.keep fun i hi => ?_, h.kq, h.iq, fun hh => ?_, h.cq, hsep, fun i o hi => ?_, h.k0, h.q0, h.i0, fun i hi => ?_, h.c0⟩, hk', ?_⟩
  · obtain ⟨_, _, h2⟩ := h.ics.isObj hi
    rw [set_ne (show i ≠ k from fun he => by rw [he, h.base] at h2; cases h2), hfr i (by rw [h2]; rfl) fun hh => Ms.apart5 h.pgs h.ics (by decide) hh hi]
  · obtain ⟨_, _, h2⟩ := h.cms.isObj hi
    rw [set_ne (show i ≠ k from fun he => by rw [he, h.base] at h2; cases h2), hfr i (by rw [h2]; rfl) fun hh => Ms.apart5 h.pgs h.cms (by decide) hh hi]
  · rcases hid q hh with h1 | h1
    · exact h.pq h1
    · rw [h1] at hq; cases hq
  · have h1 := h.le0 i o hi
    rw [set_ne (show i ≠ k from fun he => by rw [he, h.k0] at hi; cases hi), hfr i (by rw [h1]; rfl) fun hh => by rw [h.p0 i hh] at hi; cases hi]
    exact h1
  · rcases hid i hi with h1 | h1
    · exact h.p0 i h1
    · cases hx : H0 i with
      | none => rfl
      | some o => rw [h.le0 i o hx] at h1; cases h1
  · rw [set_ne (Ne.symm h.kq)]; exact hfr q hq h.pq
theorem RB.putC {l : List Cm} (h : RB H0 H k q iv pv cv il pl cl) (hq : (H q).isSome) (hM : Ms 2 H' v' (l.map cdat)) (hfr : ∀ i, (H i).isSome → idOf cv ≠ some i → H' i = H i) (hid : ∀ i, idOf v' = some i → idOf cv = some i ∨ H i = none) : RB H0 (H'.set k (.mem 0 0 3 [[iv, pv, v']])) k q iv pv v' il pl l ∧ H' k = some (.mem 0 0 3 [[iv, pv, cv]]) ∧ (H'.set k (.mem 0 0 3 [[iv, pv, v']])) q = H q := by
  have hck : idOf cv ≠ some k := fun hh => by obtain ⟨_, _, h2⟩ := h.cms.isObj hh; rw [h.base] at h2; cases h2
  have hk' : H' k = some (.mem 0 0 3 [[iv, pv, cv]]) := (hfr k (by rw [h.base]; rfl) hck).trans h.base
  have hsep : idOf v' ≠ some k := fun hh => by
    rcases hid k hh with h1 | h1
    · exact hck h1
    · rw [h.base] at h1; cases h1
  refine ⟨⟨set_self, h.ics.keep fun i hi => ?_, h.pgs.keep fun i hi => ?_, hM.keep fun i hi => set_ne (fun he => hsep (he ▸ hi)), h.kq, h.iq, h.pq, fun hh => ?_, h.pk, fun i o hi => ?_, h.k0, h.q0, h.i0, h.p0, fun i hi => ?_⟩, hk', ?_⟩
  · obtain ⟨_, _, h2⟩ := h.ics.isObj hi
    rw [set_ne (show i ≠ k from fun he => by rw [he, h.base] at h2; cases h2), hfr i (by rw [h2]; rfl) fun hh => Ms.apart5 h.cms h.ics (by decide) hh hi]
  · obtain ⟨_, _, h2⟩ := h.pgs.isObj hi
    rw [set_ne (show i ≠ k from fun he => h.pk (he ▸ hi)), hfr i (by rw [h2]; rfl) fun hh => Ms.apart5 h.cms h.pgs (by decide) hh hi]
  · rcases hid q hh with h1 | h1
    · exact h.cq h1
    · rw [h1] at hq; cases hq
  · have h1 := h.le0 i o hi
    rw [set_ne (show i ≠ k from fun he => by rw [he, h.k0] at hi; cases hi), hfr i (by rw [h1]; rfl) fun hh => by rw [h.c0 i hh] at hi; cases hi]
    exact h1
  · rcases hid i hi with h1 | h1
    · exact h.c0 i h1
    · cases hx : H0 i with
      | none => rfl
      | some o => rw [h.le0 i o hx] at h1; cases h1
  · rw [set_ne (Ne.symm h.kq)]; exact hfr q hq h.cq
end
theorem RNew_c (hk : ∀ k H', H' k = some (.mem 0 0 3 [[.d (.sl true []), .d (.sl true []), .d (.sl true [])]]) → AHeap.le H H' → H k = none → K (.ptr k 0 0 0) H') : CallsA Try.prog 37 [] H K := by
  apply C37
  unfold S37
  simp only [bd86, bdA, frzAL_nil, List.zip_nil_left, List.zip_nil_right, fillA, Option.map_some, stepK_some, AHeap.sets]
  refine box_open rfl fun k G hG hle hn => ?_
  simp only [go_sem]
  exact ⟨_, le_refl', hk k G hG hle hn⟩
theorem ricon_c {c d : By} {s : Int} {il : List Ic} (hB : H k = some (.mem 0 0 3 [[iv, pv, cv]])) (hM : Ms 5 H iv (il.map fun x => idat (x, false))) (hz : il.length < 2 ^ 40) (hk : ∀ (i : Int) H', AHeap.le H H' → (i < 0 ↔ dupI il c d s = false) → K (.d (.int .i64 i)) H') :
    CallsA Try.prog 43 [.ptr k 0 0 0, .d (.str (bytes c)), .d (.str (bytes d)), .d (.int .i64 s)] H K := by
  apply C43
  unfold S43
  refine loop_ind (fun n vs G => ∃ j : Nat, j ≤ il.length ∧ n = il.length - j ∧ vs = [.ptr k 0 0 0, .d (.str (bytes c)), .d (.str (bytes d)), .d (.int .i64 s), .d (.int .i64 (j : Int))] ∧ AHeap.le H G ∧ ∀ q, q < j → ∀ x, il[q]? = some x → isI c d s (x, false) = false) (n := il.length) ⟨0, Nat.zero_le _, rfl, rfl, le_refl', fun q hq => by omega⟩ ?_
  rintro X n vs G ⟨j, hj, rfl, rfl, hle, hno⟩ hX
  have hM' := hM.le hle
  have l0 : ldV false 1 (.ptr k 0 0 0) G = some iv := ldV_at (hle _ _ hB) rfl rfl
  simp only [List.getD_cons_succ, List.getD_cons_zero, nilCkA, ti86_f0, Nat.zero_add, l0, hM'.len, List.length_map, optA_some, intA_lss, ifA_bool']
  by_cases hlt : j < il.length
  · have hlt' : (j : Int) < il.length := by omega
    rw [if_pos (by simpa using hlt')]
    have hx : il[j]? = some il[j] := List.getElem?_eq_getElem hlt
    obtain ⟨i, ver, L, e1, e2, e3, e4⟩ := hM'.at (ti := ti82) (et := 88) rfl (j := j) (c := idat (il[j], false)) (by rw [List.getElem?_map, hx]; rfl)
    simp only [e1, optA_some, ldM5 e3 e4 rfl]
    refine alloc_open fun u G1 U1 le1 hu => ?_
    rw [stoAgg (vs := (idat (il[j], false)).map AV.d) U1 rfl rfl rfl]
    simp only [stepK_some, AHeap.sets]
    have U2 : (G1.set u (.mem 0 0 5 [(idat (il[j], false)).map AV.d])) u = some (.mem 0 0 5 [(idat (il[j], false)).map AV.d]) := set_self
    have le2 : AHeap.le H (G1.set u (.mem 0 0 5 [(idat (il[j], false)).map AV.d])) := le_trans' hle (set_le le1 hu)
    generalize G1.set u (.mem 0 0 5 [(idat (il[j], false)).map AV.d]) = G2 at U2 le2 ⊢
    have g0 : ldV false 1 (.ptr u 0 0 0) G2 = some (.d (.str (bytes il[j].c))) := ldV_at U2 rfl rfl
    have g1 : ldV false 1 (.ptr u 0 0 1) G2 = some (.d (.str (bytes il[j].k))) := ldV_at U2 rfl rfl
    have g2 : ldV false 1 (.ptr u 0 0 2) G2 = some (.d (.int .i64 il[j].s)) := ldV_at U2 rfl rfl
    have next : isI c d s (il[j], false) = false → optA (intA .add (.d (.int .i64 (j : Int))) (.d (.int .i64 1))) fun v => X [.ptr k 0 0 0, .d (.str (bytes c)), .d (.str (bytes d)), .d (.int .i64 s), v] G2 := fun hp => by
      simp only [intA_add, optA_some]
      rw [wrap_i64 (by omega) (by omega)]
      refine hX (il.length - (j + 1)) _ _ (by omega) ⟨j + 1, hlt, rfl, rfl, le2, fun q hq x hx' => ?_⟩
      by_cases hqj : q = j
      · subst hqj; rw [hx] at hx'; cases hx'; exact hp
      · exact hno q (by omega) x hx'
    simp only [ti88_f0, ti88_f1, ti88_f2, Nat.zero_add, g0, g1, g2, optA_some, strA_eql, intA_eql, strEq, bytes_inj]
    by_cases h1 : il[j].c = c
    · by_cases h2 : il[j].k = d
      · by_cases h3 : il[j].s = s
        · simp only [h1, h2, h3, decide_true, ifA_t, ret1_d]
          refine ⟨_, le_refl', hk j G2 le2 ⟨fun h => by omega, fun h => ?_⟩⟩
          simp only [dupI, List.any_eq_false, decide_eq_true_eq] at h
          exact absurd ⟨h1, h2, h3⟩ (h il[j] (List.getElem_mem hlt))
        · simp only [h1, h2, h3, decide_true, decide_false, ifA_t, ifA_f]
          exact next (by simp [isI, h3])
      · simp only [h1, h2, decide_true, decide_false, ifA_t, ifA_f]
        exact next (by simp [isI, h2])
    · simp only [h1, decide_false, ifA_f]
      exact next (by simp [isI, h1])
  · have hlt' : ¬ (j : Int) < il.length := by omega
    rw [if_neg (by simpa using hlt')]
    simp only [ret1_d]
    refine ⟨_, le_refl', hk (-1) G hle ⟨fun _ => ?_, fun _ => by omega⟩⟩
    simp only [dupI, List.any_eq_false, decide_eq_true_eq]
    intro x hx hc
    obtain ⟨q, hq⟩ := List.getElem?_of_mem hx
    have := hno q (by have := (List.getElem?_eq_some_iff.1 hq).1; omega) x hq
    simp only [isI, decide_eq_false_iff_not] at this
    exact this hc
end
end Go.Proofs.Ytmciomkibklokaa
/- The document's search of programs; what is put behind. -/
set_option autoImplicit false
set_option maxRecDepth 100000
set_option linter.unusedVariables false
set_option linter.unusedSimpArgs false
set_option linter.unnecessarySimpa false
namespace Go.Proofs.Ytmciomkibklokaa
open Go Go.AM Go.Proofs Go.RowKit
abbrev keepP (c : By) (f : Int) (x : Pg) : Bool := !decide (x.c = c ∧ x.f = f)
theorem filter_all {c : By} {f : Int} : ∀ {pl : List Pg}, (pl.filter (keepP c f)).length = pl.length ↔ dupP pl c f = false
  | [] => by simp [dupP]
  | x :: pl => by
    have ih := filter_all (c := c) (f := f) (pl := pl)
    have hle := List.length_filter_le (keepP c f) pl
    simp only [dupP, List.any_cons, Bool.or_eq_false_iff] at ih ⊢
    by_cases hx : x.c = c ∧ x.f = f
    · rw [List.filter_cons_of_neg (by simp [keepP, hx])]
      simp only [List.length_cons, decide_eq_false_iff_not]
      exact ⟨fun h => by omega, fun h => absurd hx h.1⟩
    · rw [List.filter_cons_of_pos (by simp only [keepP, hx, decide_false, Bool.not_false])]
      simp only [List.length_cons, decide_eq_false_iff_not]
      exact ⟨fun h => ⟨hx, ih.1 (by omega)⟩, fun h => by have := ih.2 h.2; omega⟩
section
variable {all : By} {H G : AHeap} {q k : Nat} {st : St} {iv pv cv : AV} {il : List Ic} {pl : List Pg} {cl : List Cm} {K : AV → AHeap → Prop}
theorem without_c {c : By} {f : Int} (hB : H k = some (.mem 0 0 3 [[iv, pv, cv]])) (hM : Ms 3 H pv (pl.map gdat)) (hz : pl.length < 2 ^ 30) (hk : ∀ nl l H', AHeap.le H H' → (l.length = pl.length ↔ dupP pl c f = false) → l.length ≤ pl.length → K (.d (.sl nl l)) H') :
    CallsA Try.prog 44 [.ptr k 0 0 0, .d (.str (bytes c)), .d (.int .i64 f), .d (.bool false)] H K := by
  apply C44
  unfold S44
  refine loop_ind (fun n vs G => ∃ (j : Nat) (ov : AV), j ≤ pl.length ∧ n = pl.length - j ∧ vs = [.ptr k 0 0 0, .d (.str (bytes c)), .d (.int .i64 f), .d (.bool false), ov, .d (.int .i64 (j : Int))] ∧ Go.AM.Own H 3 G ov (((pl.take j).filter (keepP c f)).map gdat)) (n := pl.length) ⟨0, _, Nat.zero_le _, rfl, rfl, Go.AM.Own.nil le_refl'⟩ ?_
  rintro X n vs G ⟨j, ov, hj, rfl, rfl, hO⟩ hX
  have hle := hO.le
  have hM' := hM.le hle
  have l0 : ldV false 1 (.ptr k 0 0 1) G = some pv := ldV_at (hle _ _ hB) rfl rfl
  simp only [List.getD_cons_succ, List.getD_cons_zero, nilCkA, ti86_f1, Nat.zero_add, l0, hM'.len, List.length_map, optA_some, intA_lss, ifA_bool']
  by_cases hlt : j < pl.length
  · have hlt' : (j : Int) < pl.length := by omega
    rw [if_pos (by simpa using hlt')]
    have hx : pl[j]? = some pl[j] := List.getElem?_eq_getElem hlt
    obtain ⟨i, ver, L, e1, e2, e3, e4⟩ := hM'.at (ti := ti83) (et := 91) rfl (j := j) (c := gdat pl[j]) (by rw [List.getElem?_map, hx]; rfl)
    simp only [e1, optA_some, ldM3 e3 e4 rfl]
    refine alloc_open fun u G1 U1 le1 hu => ?_
    rw [stoAgg (vs := (gdat pl[j]).map AV.d) U1 rfl rfl rfl]
    simp only [stepK_some, AHeap.sets]
    have U2 : (G1.set u (.mem 0 0 3 [(gdat pl[j]).map AV.d])) u = some (.mem 0 0 3 [(gdat pl[j]).map AV.d]) := set_self
    have le3 : AHeap.le G (G1.set u (.mem 0 0 3 [(gdat pl[j]).map AV.d])) := set_le le1 hu
    generalize G1.set u (.mem 0 0 3 [(gdat pl[j]).map AV.d]) = G2 at U2 le3 ⊢
    have hO2 : Go.AM.Own H 3 G2 ov (((pl.take j).filter (keepP c f)).map gdat) := hO.other (le_trans' hle le3) fun i hi => by
      rcases hO.2.2 with ⟨rfl, _⟩ | rfl | ⟨i', ver, L, rfl, h1, _⟩
      · cases hi
      · cases hi
      · cases hi; rw [h1]; exact le3 _ _ h1
    have g0 : ldV false 1 (.ptr u 0 0 0) G2 = some (.d (.str (bytes pl[j].c))) := ldV_at U2 rfl rfl
    have g2 : ldV false 1 (.ptr u 0 0 2) G2 = some (.d (.int .i64 pl[j].f)) := ldV_at U2 rfl rfl
    have g5 : ldV true 3 (.ptr u 0 0 0) G2 = some (.agg ((gdat pl[j]).map AV.d)) := ldM3 U2 rfl rfl
    have htk : pl.take (j + 1) = pl.take j ++ [pl[j]] := by rw [List.take_add_one, hx]; rfl
    have app : keepP c f pl[j] = true → optA (some (.agg ((gdat pl[j]).map AV.d))) fun v22 => newK G2 (fun n25 => bsA ti91 1 [0] [v22] G2 n25) fun v23 H24 => newK H24 (fun n28 => apA 3 32 ov v23 H24 n28) fun v26 H27 => optA (intA .add (.d (.int .i64 (j : Int))) (.d (.int .i64 1))) fun v29 => X [.ptr k 0 0 0, .d (.str (bytes c)), .d (.int .i64 f), .d (.bool false), v26, v29] H27 := fun hp => by
      rw [optA_some]
      intro n hn
      show stepK (bsA ti91 1 [0] [.agg ((gdat pl[j]).map AV.d)] G2 n) G2 _
      rw [show bsA ti91 1 [0] [.agg ((gdat pl[j]).map AV.d)] G2 n = some (.lit [gdat pl[j]], []) from rfl]
      simp only [stepK_some, AHeap.sets]
      have hfl : ((pl.take j).filter (keepP c f)).length ≤ j := Nat.le_trans (List.length_filter_le _ _) (List.length_take_le _ _)
      refine hO2.app (ys := [gdat pl[j]]) rfl (by decide) (by decide) (by intro y hy; cases List.mem_singleton.1 hy; rfl) (by simp only [mostBytes, List.length_map, List.length_singleton]; omega) fun v' H' hO' _ _ _ => ?_
      simp only [intA_add, optA_some]
      rw [wrap_i64 (by omega) (by omega)]
      refine hX (pl.length - (j + 1)) _ _ (by omega) ⟨j + 1, v', hlt, rfl, rfl, ?_⟩
      rw [htk, List.filter_append, List.filter_cons_of_pos hp, List.filter_nil, List.map_append]
      exact hO'
    simp only [ti91_f0, ti91_f2, Nat.zero_add, g0, g2, g5, optA_some, intA_neq, strA_neq, strEq, bytes_inj, ne_eq, unA_not, Bool.not_false]
    rw [optA_some] at app
    by_cases h1 : pl[j].f = f
    · by_cases h2 : pl[j].c = c
      · simp only [h1, h2, decide_true, not_true_eq_false, decide_false, Bool.not_true, ifA_t, ifA_f, intA_add, optA_some]
        rw [wrap_i64 (by omega) (by omega)]
        refine hX (pl.length - (j + 1)) _ _ (by omega) ⟨j + 1, ov, hlt, rfl, rfl, ?_⟩
        rw [htk, List.filter_append, List.filter_cons_of_neg (by simp [keepP, h1, h2]), List.filter_nil, List.append_nil]
        exact hO2
      · simp only [h1, h2, not_true_eq_false, decide_false, Bool.not_false, ifA_t, ifA_f]
        exact app (by simp [keepP, h2])
    · simp only [h1, not_false_eq_true, decide_true, ifA_t]
      exact app (by simp [keepP, h1])
  · have hlt' : ¬ (j : Int) < pl.length := by omega
    rw [if_neg (by simpa using hlt')]
    have hjn : j = pl.length := by omega
    subst hjn
    rw [List.take_length] at hO
    refine hO.ret le_refl' (hk _ _ _ le_refl' ?_ ?_)
    · rw [List.length_map]; exact filter_all
    · rw [List.length_map]; exact List.length_filter_le _ _
end
end Go.Proofs.Ytmciomkibklokaa
/- The document's Load. -/
set_option autoImplicit false
set_option maxRecDepth 100000
set_option linter.unusedVariables false
set_option linter.unusedSimpArgs false
set_option linter.unnecessarySimpa false
namespace Go.Proofs.Ytmciomkibklokaa
open Go Go.AM Go.Proofs Go.RowKit
section
variable {all : By} {H0 H G : AHeap} {q k : Nat} {st : St} {iv pv cv : AV} {il : List Ic} {pl : List Pg} {cl : List Cm} {K : AV → AHeap → Prop} {X : AHeap → Prop}
theorem apart_k {v : AV} {o : AObj} (hv : v ≠ .junk) (hk : H k = some o) (hn : ∀ i, idOf v = some i → H i = none) {z : Nat} : apart v (.ptr k 0 0 z) := apart_ptr hv fun i hi he => by
  rw [he] at hi
  rw [hn _ hi] at hk; cases hk
theorem rpushI {c d b : By} {s t : Int} {nl : Bool} (hB : RB H0 H k q iv pv cv il pl cl) (hz : il.length < 2 ^ 30) (hb : b.length < 2 ^ 30) (hq : (H q).isSome) (hk : ∀ iv' H', RB H0 H' k q iv' pv cv (il ++ [⟨c, d, s, t, b⟩]) pl cl → H' q = H q → X H') :
    drA true (optA (nilCkA (.ptr k 0 0 0)) fun v98 => optA (fieldA ti86 v98 0) fun v99 => optA (ldV false 1 v99 H) fun v100 => newK H (fun n103 => bsA ti5 0 [] [] H n103) fun v101 H102 => apart v101 v99 ∧ (newK H102 (fun n106 => apA 1 1 v101 (.d (.sl nl (bs b))) H102 n106) fun v104 H105 => apart (rsOf (.d (.str (bytes c)))) v99 ∧ (apart (rsOf (.d (.str (bytes d)))) v99 ∧ (apart (rsOf (.d (.int .i64 s))) v99 ∧ (apart (rsOf (.d (.int .i64 t))) v99 ∧ (apart (rsOf v104) v99 ∧ (noRsA (aggL (.d (.str (bytes c)))) (noRsA (aggL (.d (.str (bytes d)))) (noRsA (aggL (.d (.int .i64 s))) (noRsA (aggL (.d (.int .i64 t))) (noRsA (aggL v104) (stepK (bdA Try.prog ti88 [0, 1, 2, 3, 4] [.d (.str (bytes c)), .d (.str (bytes d)), .d (.int .i64 s), .d (.int .i64 t), v104] H105) H105 fun v107 H108 => apart (rsOf v107) v99 ∧ (noRsA (aggL v107) (newK H108 (fun n111 => bsA ti88 1 [0] [v107] H108 n111) fun v109 H110 => newK H110 (fun n114 => apA 5 72 v100 v109 H110 n114) fun v112 H113 => optA (nilCkA (.ptr k 0 0 0)) fun v115 => optA (fieldA ti86 v115 0) fun v116 => noRsA (aggL v112) (stepK (stoA false 1 v116 v112 H113) H113 fun v117 H118 => X H118))))))))))))))) := by
  have l0 : ldV false 1 (.ptr k 0 0 0) H = some iv := ldV_at hB.base rfl rfl
  refine ⟨rfl, ?_⟩
  simp only [nilCkA, optA_some, ti86_f0, Nat.zero_add, l0]
  intro n hn
  show stepK (bsA ti5 0 [] [] H n) H _
  simp only [bs0, stepK_some, AHeap.sets]
  refine ⟨trivial, ?_⟩
  refine (Go.AM.Own.lit (H0 := H) (sz := 1) (l := []) le_refl' (by simp)).app (ys := bs b) rfl (by decide) (by decide) bs_sz (by rw [bs_length]; simp only [mostBytes, List.length_nil]; omega) fun v H3 hO hfr hid hnl => ?_
  rw [List.nil_append] at hO
  have hnlf : nilS v = false := by rw [hnl]; rfl
  have hfresh : ∀ i, idOf v = some i → H i = none := fun i hi => by
    rcases hid i hi with h1 | h1
    · cases h1
    · exact h1
  obtain ⟨us, f1, f2, f3, f4⟩ := hO.frz
  have hagg : aggL v = [] := by
    rcases hO.2.2 with ⟨rfl, _⟩ | rfl | ⟨i, ver, L, rfl, _⟩ <;> rfl
  have hrs : apart (rsOf v) (.ptr k 0 0 0) := by
    rcases hO.2.2 with ⟨rfl, _⟩ | rfl | ⟨i, ver, L, rfl, _⟩
    · trivial
    · trivial
    · exact apart_k (by simp [rsOf]) hB.base fun j hj => hfresh j hj
  refine ⟨trivial, trivial, trivial, trivial, hrs, ?_⟩
  have hbd : bdA Try.prog ti88 [0, 1, 2, 3, 4] [.d (.str (bytes c)), .d (.str (bytes d)), .d (.int .i64 s), .d (.int .i64 t), v] H3 = some (.agg ((idat (⟨c, d, s, t, b⟩, false)).map AV.d), us) := by
    simp only [bdA, frzAL, frzA_d, AHeap.sets, f2, hnlf, List.nil_append, List.append_nil]
    rfl
  simp only [aggL_d, hagg, noRsA_nil, hbd, stepK_some]
  refine ⟨trivial, ?_⟩
  simp only [idat, List.map_cons, List.map_nil, aggL_agg, noRsA_cons, noRsA_nil, noRs_d, true_and]
  generalize hH4 : H3.sets us = H4 at f3 ⊢
  intro n2 hn2
  show stepK (bsA ti88 1 [0] [.agg ((idat (⟨c, d, s, t, b⟩, false)).map AV.d)] H4 n2) H4 _
  rw [show bsA ti88 1 [0] [.agg ((idat (⟨c, d, s, t, b⟩, false)).map AV.d)] H4 n2 = some (.lit [idat (⟨c, d, s, t, b⟩, false)], []) from rfl]
  simp only [stepK_some, AHeap.sets]
  have hB4 : RB H0 H4 k q iv pv cv il pl cl := hB.fq (Fq.of f3)
  have hq4 : (H4 q).isSome := by
    cases hx : H q with
    | none => rw [hx] at hq; cases hq
    | some o => rw [f3 q o hx]; rfl
  have hqe : H4 q = H q := by
    cases hx : H q with
    | none => rw [hx] at hq; cases hq
    | some o => exact f3 q o hx
  refine hB4.ics.app (ys := [idat (⟨c, d, s, t, b⟩, false)]) rfl (by decide) (by decide) (by intro y hy; cases List.mem_singleton.1 hy; rfl) (by simp only [mostBytes, List.length_map, List.length_singleton]; omega) fun v' H' hM hfr' hid' hF => ?_
  obtain ⟨r1, r2, r3⟩ := hB4.putI (l := il ++ [⟨c, d, s, t, b⟩]) hq4 (by rw [List.map_append]; exact hM) hfr' hid'
  rw [Ms.no hM, stoA_at r2 (Nat.le_refl 0) rfl (show 0 < 3 by decide) hM.st.1 hM.st.2]
  simp only [noRsA_nil, stepK_some, AHeap.sets]
  exact hk v' _ r1 (r3.trans hqe)
theorem rpushP {x : Pg} (hB : RB H0 H k q iv pv cv il pl cl) (hz : pl.length < 2 ^ 30) (hq : (H q).isSome) (hk : ∀ pv' H', RB H0 H' k q iv pv' cv il (pl ++ [x]) cl → H' q = H q → X H') :
    optA (nilCkA (.ptr k 0 0 0)) fun v173 => optA (fieldA ti86 v173 1) fun v174 => optA (ldV false 1 v174 H) fun v175 => stepK (bdA Try.prog ti91 [0, 1, 2] [.d (.str (bytes x.c)), .d (.int .i64 x.n), .d (.int .i64 x.f)] H) H fun v176 H177 => newK H177 (fun n180 => bsA ti91 1 [0] [v176] H177 n180) fun v178 H179 => newK H179 (fun n183 => apA 3 32 v175 v178 H179 n183) fun v181 H182 => optA (nilCkA (.ptr k 0 0 0)) fun v184 => optA (fieldA ti86 v184 1) fun v185 => stepK (stoA false 1 v185 v181 H182) H182 fun v186 H187 => X H187 := by
  have l0 : ldV false 1 (.ptr k 0 0 1) H = some pv := ldV_at hB.base rfl rfl
  simp only [nilCkA, optA_some, ti86_f1, Nat.zero_add, l0]
  rw [show bdA Try.prog ti91 [0, 1, 2] [.d (.str (bytes x.c)), .d (.int .i64 x.n), .d (.int .i64 x.f)] H = some (.agg ((gdat x).map AV.d), []) from rfl]
  simp only [stepK_some, AHeap.sets]
  intro n2 hn2
  show stepK (bsA ti91 1 [0] [.agg ((gdat x).map AV.d)] H n2) H _
  rw [show bsA ti91 1 [0] [.agg ((gdat x).map AV.d)] H n2 = some (.lit [gdat x], []) from rfl]
  simp only [stepK_some, AHeap.sets]
  refine hB.pgs.app (ys := [gdat x]) rfl (by decide) (by decide) (by intro y hy; cases List.mem_singleton.1 hy; rfl) (by simp only [mostBytes, List.length_map, List.length_singleton]; omega) fun v' H' hM hfr' hid' hF => ?_
  obtain ⟨r1, r2, r3⟩ := hB.putP (l := pl ++ [x]) hq (by rw [List.map_append]; exact hM) hfr' hid'
  rw [stoA_at r2 (Nat.le_refl 0) rfl (show 1 < 3 by decide) hM.st.1 hM.st.2]
  simp only [stepK_some, AHeap.sets]
  exact hk v' _ r1 r3
theorem rpushC {i : Int} {m : Nat} (hR : RD all H q st) (hm : m < 2 ^ 30) (hB : RB H0 H k q iv pv cv il pl cl) (hz : cl.length < 2 ^ 30) (hk : ∀ b cv' H', (∀ r, st = .ok r → m ≤ r.length → b = r.take m) → RB H0 H' k q iv pv cv' il pl (cl ++ [⟨i, b⟩]) → RD all H' q (sTk m st) → X H') :
    drA true (optA (nilCkA (.ptr k 0 0 0)) fun v234 => optA (fieldA ti86 v234 2) fun v235 => optA (ldV false 1 v235 H) fun v236 => frzLK [.ptr q 0 0 0, .d (.int .i64 m)] H fun l239 H240 => CallsA Try.prog 39 l239 H240 fun v237 H238 => kp v235 H H238 ∧ (optA (cvBS v237 H238) fun v241 => apart (rsOf (.d (.int .i64 i))) v235 ∧ (apart (rsOf v241) v235 ∧ (noRsA (aggL (.d (.int .i64 i))) (noRsA (aggL v241) (stepK (bdA Try.prog ti93 [0, 1] [.d (.int .i64 i), v241] H238) H238 fun v242 H243 => apart (rsOf v242) v235 ∧ (noRsA (aggL v242) (newK H243 (fun n246 => bsA ti93 1 [0] [v242] H243 n246) fun v244 H245 => newK H245 (fun n249 => apA 2 24 v236 v244 H245 n249) fun v247 H248 => optA (nilCkA (.ptr k 0 0 0)) fun v250 => optA (fieldA ti86 v250 2) fun v251 => noRsA (aggL v247) (stepK (stoA false 1 v251 v247 H248) H248 fun v252 H253 => X H253))))))))) := by
  have l0 : ldV false 1 (.ptr k 0 0 2) H = some cv := ldV_at hB.base rfl rfl
  refine ⟨rfl, ?_⟩
  simp only [nilCkA, optA_some, ti86_f2, Nat.zero_add, l0, frzLK_ptr, frzLK_d, frzLK_nil]
  refine rtake_c hR (by omega) fun nl b H1 hR1 hb hbl hF => ?_
  have hB1 := hB.fq hF
  refine ⟨?_, ?_⟩
  · show H1 k = H k
    rw [hB1.base, hB.base]
  simp only [cvBS_bs, optA_some]
  refine ⟨trivial, trivial, ?_⟩
  simp only [aggL_d, noRsA_nil]
  rw [show bdA Try.prog ti93 [0, 1] [.d (.int .i64 i), .d (.str ⟨b.toArray⟩)] H1 = some (.agg ((cdat ⟨i, b⟩).map AV.d), []) from rfl]
  simp only [stepK_some, AHeap.sets]
  refine ⟨trivial, ?_⟩
  simp only [cdat, List.map_cons, List.map_nil, aggL_agg, noRsA_cons, noRsA_nil, noRs_d, true_and]
  intro n2 hn2
  show stepK (bsA ti93 1 [0] [.agg ((cdat ⟨i, b⟩).map AV.d)] H1 n2) H1 _
  rw [show bsA ti93 1 [0] [.agg ((cdat ⟨i, b⟩).map AV.d)] H1 n2 = some (.lit [cdat ⟨i, b⟩], []) from rfl]
  simp only [stepK_some, AHeap.sets]
  refine hB1.cms.app (ys := [cdat ⟨i, b⟩]) rfl (by decide) (by decide) (by intro y hy; cases List.mem_singleton.1 hy; rfl) (by simp only [mostBytes, List.length_map, List.length_singleton]; omega) fun v' H' hM hfr' hid' hF => ?_
  obtain ⟨r1, r2, r3⟩ := hB1.putC (l := cl ++ [⟨i, b⟩]) hR1.isS (by rw [List.map_append]; exact hM) hfr' hid'
  rw [Ms.no hM, stoA_at r2 (Nat.le_refl 0) rfl (show 2 < 3 by decide) hM.st.1 hM.st.2]
  simp only [noRsA_nil, stepK_some, AHeap.sets]
  exact hk b v' _ hb r1 (hR1.keep r3)
end
end Go.Proofs.Ytmciomkibklokaa

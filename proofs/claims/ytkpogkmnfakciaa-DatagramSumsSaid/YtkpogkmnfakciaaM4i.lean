/- Plain laws of datagrams and their bytes. -/
import Derived.Test.YtkpogkmnfakciaaM4g
set_option autoImplicit false
set_option linter.unusedVariables false
set_option linter.unusedSimpArgs false
namespace Go.Proofs.Ytkpogkmnfakciaa
open Go Go.AM Go.Proofs
theorem b8_nat (x : UInt8) : b8 (x.toNat : Int) = x := by
  apply UInt8.toNat_inj.1
  have := b8_toNat (x.toNat : Int)
  have := x.toNat_lt
  omega
theorem b8_hi (x y : UInt8) : b8 ((256 * (x.toNat : Int) + y.toNat) / 256) = x := by
  apply UInt8.toNat_inj.1
  have := b8_toNat ((256 * (x.toNat : Int) + y.toNat) / 256)
  have := x.toNat_lt
  have := y.toNat_lt
  omega
theorem b8_lo (x y : UInt8) : b8 (256 * (x.toNat : Int) + y.toNat) = y := by
  apply UInt8.toNat_inj.1
  have := b8_toNat (256 * (x.toNat : Int) + y.toNat)
  have := x.toNat_lt
  have := y.toNat_lt
  omega
theorem two_num {n : Int} (h0 : 0 ≤ n) (h1 : n < 65536) : 256 * ((b8 (n / 256)).toNat : Int) + ((b8 n).toNat : Int) = n := by
  rw [b8_toNat, b8_toNat]
  omega
theorem b8_id {n : Int} (h0 : 0 ≤ n) (h1 : n ≤ 255) : ((b8 n).toNat : Int) = n := by
  rw [b8_toNat]
  omega
theorem list5 {b : List UInt8} (h : 5 ≤ b.length) : ∃ x0 x1 x2 x3 x4 r, b = x0 :: x1 :: x2 :: x3 :: x4 :: r := by
  match b, h with
  | x0 :: x1 :: x2 :: x3 :: x4 :: r, _ => exact ⟨_, _, _, _, _, _, rfl⟩
theorem list13 {b : List UInt8} (h : 13 ≤ b.length) : ∃ x0 x1 x2 x3 x4 x5 x6 x7 x8 x9 xa xb xc r, b = x0 :: x1 :: x2 :: x3 :: x4 :: x5 :: x6 :: x7 :: x8 :: x9 :: xa :: xb :: xc :: r := by
  match b, h with
  | x0 :: x1 :: x2 :: x3 :: x4 :: x5 :: x6 :: x7 :: x8 :: x9 :: xa :: xb :: xc :: r, _ => exact ⟨_, _, _, _, _, _, _, _, _, _, _, _, _, _, rfl⟩
theorem long_gl {b : List UInt8} (h : glE b = 0) : (gl b).long = b ∧ (gl b).Valid ∧ (gl b).longE = 0 := by
  unfold glE at h
  split at h
  · cases h
  rename_i h1
  split at h
  · cases h
  rename_i h2
  have hv : (gl b).Valid := Classical.byContradiction fun hn => h2 (.inr hn)
  have hlen : (b.length : Int) = num b 0 % 1024 := Classical.byContradiction fun hn => h2 (.inl hn)
  split at h
  · cases h
  rename_i h3
  refine ⟨?_, hv, by unfold Pk.longE; rw [if_pos hv]⟩
  unfold Pk.long
  rw [if_pos hv]
  obtain ⟨x0, x1, x2, x3, x4, x5, x6, x7, x8, x9, xa, xb, xc, r, rfl⟩ := list13 (b := b) (by omega)
  have ht : (gl (x0 :: x1 :: x2 :: x3 :: x4 :: x5 :: x6 :: x7 :: x8 :: x9 :: xa :: xb :: xc :: r)).tail = x4 :: x5 :: x6 :: x7 :: x8 :: x9 :: xa :: xb :: xc :: r := by
    show [b8 ((256 * (x4.toNat : Int) + x5.toNat) / 256), b8 (256 * (x4.toNat : Int) + x5.toNat), b8 ((256 * (x6.toNat : Int) + x7.toNat) / 256), b8 (256 * (x6.toNat : Int) + x7.toNat), b8 (x8.toNat : Int), b8 (x9.toNat : Int), b8 (xa.toNat : Int), b8 (xb.toNat : Int), b8 (xc.toNat : Int)] ++ r = _
    simp only [b8_hi, b8_lo, b8_nat]
    rfl
  have hh : (gl (x0 :: x1 :: x2 :: x3 :: x4 :: x5 :: x6 :: x7 :: x8 :: x9 :: xa :: xb :: xc :: r)).head = 256 * (x0.toNat : Int) + x1.toNat := by
    have hn : num (x0 :: x1 :: x2 :: x3 :: x4 :: x5 :: x6 :: x7 :: x8 :: x9 :: xa :: xb :: xc :: r) 0 = 256 * (x0.toNat : Int) + x1.toNat := rfl
    unfold Pk.head
    rw [ht]
    show num _ 0 / 1024 * 1024 + _ = _
    rw [hn] at hlen ⊢
    simp only [List.length_cons] at hlen ⊢
    omega
  have hs : (gl (x0 :: x1 :: x2 :: x3 :: x4 :: x5 :: x6 :: x7 :: x8 :: x9 :: xa :: xb :: xc :: r)).tsum = 256 * (x2.toNat : Int) + x3.toNat := by
    unfold Pk.tsum
    rw [ht]
    have hn : num (x0 :: x1 :: x2 :: x3 :: x4 :: x5 :: x6 :: x7 :: x8 :: x9 :: xa :: xb :: xc :: r) 2 = 256 * (x2.toNat : Int) + x3.toNat := rfl
    have hd : (x0 :: x1 :: x2 :: x3 :: x4 :: x5 :: x6 :: x7 :: x8 :: x9 :: xa :: xb :: xc :: r).drop 4 = x4 :: x5 :: x6 :: x7 :: x8 :: x9 :: xa :: xb :: xc :: r := rfl
    rw [hn, hd] at h3
    show (if decide (num _ 2 ≠ 0) = true then _ else _) = _
    rw [hn]
    by_cases h0 : 256 * (x2.toNat : Int) + x3.toNat = 0
    · simp only [h0, ne_eq, not_true_eq_false, decide_false, Bool.false_eq_true, if_false]
    · simp only [h0, ne_eq, not_false_eq_true, decide_true, if_true]
      exact (Classical.byContradiction fun hn => h3 ⟨h0, fun he => hn he.symm⟩)
  rw [hh, hs, ht]
  simp only [b8_hi, b8_lo]
  rfl
theorem short_gs {b : List UInt8} {d s : Int} (h : gsE b d s = 0) : (gs b d s).short = b ∧ (gs b d s).Valid ∧ (gs b d s).shortE = 0 := by
  unfold gsE at h
  split at h
  · split at h
    · cases h
    rename_i h1
    split at h
    · cases h
    rename_i h2
    have hv : (gs b d s).Valid := Classical.byContradiction fun hn => h2 (.inr hn)
    have hlen : (b.length : Int) = num b 0 := Classical.byContradiction fun hn => h2 (.inl hn)
    have hs : (gs b d s).Shorts := ⟨hv, rfl, rfl, rfl, rfl⟩
    refine ⟨?_, hv, by unfold Pk.shortE; rw [if_pos hs]⟩
    unfold Pk.short
    rw [if_pos hs]
    obtain ⟨x0, x1, x2, x3, x4, r, rfl⟩ := list5 (b := b) (by omega)
    have hn : num (x0 :: x1 :: x2 :: x3 :: x4 :: r) 0 = 256 * (x0.toNat : Int) + x1.toNat := rfl
    have hd : (gs (x0 :: x1 :: x2 :: x3 :: x4 :: r) d s).data = r := rfl
    rw [hd]
    have hl : ((5 + r.length : Nat) : Int) = 256 * (x0.toNat : Int) + x1.toNat := by
      rw [← hn, ← hlen]
      simp only [List.length_cons]
      omega
    rw [hl]
    show [b8 ((256 * (x0.toNat : Int) + x1.toNat) / 256), b8 (256 * (x0.toNat : Int) + x1.toNat), b8 (x2.toNat : Int), b8 (x3.toNat : Int), b8 (x4.toNat : Int)] ++ r = _
    simp only [b8_hi, b8_lo, b8_nat]
    rfl
  · cases h
theorem long_len {p : Pk} (hv : p.Valid) : p.long.length = 13 + p.data.length := by
  unfold Pk.long
  rw [if_pos hv, List.length_append, tail_len]
  simp only [List.length_cons, List.length_nil]
  omega
theorem gl_long {p : Pk} (hv : p.Valid) : glE p.long = 0 ∧ gl p.long = p.wnl true := by
  have hl := long_len hv
  have hv' := hv
  unfold Pk.Valid at hv'
  have htl := tail_len (p := p)
  have hts := tsum_bd (p := p)
  have e : p.long = b8 (p.head / 256) :: b8 p.head :: b8 (p.tsum / 256) :: b8 p.tsum :: b8 (p.dn / 256) :: b8 p.dn :: b8 (p.sn / 256) :: b8 p.sn :: b8 p.dd :: b8 p.sd :: b8 p.ds :: b8 p.ss :: b8 p.ty :: p.data := by
    unfold Pk.long
    rw [if_pos hv]
    rfl
  have hhd : p.head = p.hops * 1024 + (13 + p.data.length : Nat) := by unfold Pk.head; rw [htl]; omega
  have n0 : num p.long 0 = p.head := by
    rw [e]
    show 256 * ((b8 (p.head / 256)).toNat : Int) + ((b8 p.head).toNat : Int) = _
    exact two_num (by omega) (by omega)
  have n2 : num p.long 2 = p.tsum := by
    rw [e]
    show 256 * ((b8 (p.tsum / 256)).toNat : Int) + ((b8 p.tsum).toNat : Int) = _
    exact two_num (by omega) (by omega)
  have n4 : num p.long 4 = p.dn := by
    rw [e]
    show 256 * ((b8 (p.dn / 256)).toNat : Int) + ((b8 p.dn).toNat : Int) = _
    exact two_num (by omega) (by omega)
  have n6 : num p.long 6 = p.sn := by
    rw [e]
    show 256 * ((b8 (p.sn / 256)).toNat : Int) + ((b8 p.sn).toNat : Int) = _
    exact two_num (by omega) (by omega)
  have hg : gl p.long = p.wnl true := by
    unfold gl
    rw [n0, n2, n4, n6]
    have t8 : bt p.long 8 = p.dd := by rw [e]; show ((b8 p.dd).toNat : Int) = _; exact b8_id (by omega) (by omega)
    have t9 : bt p.long 9 = p.sd := by rw [e]; show ((b8 p.sd).toNat : Int) = _; exact b8_id (by omega) (by omega)
    have ta : bt p.long 10 = p.ds := by rw [e]; show ((b8 p.ds).toNat : Int) = _; exact b8_id (by omega) (by omega)
    have tb : bt p.long 11 = p.ss := by rw [e]; show ((b8 p.ss).toNat : Int) = _; exact b8_id (by omega) (by omega)
    have tc : bt p.long 12 = p.ty := by rw [e]; show ((b8 p.ty).toNat : Int) = _; exact b8_id (by omega) (by omega)
    rw [t8, t9, ta, tb, tc]
    have hd : p.long.drop 13 = p.data := by rw [e]; rfl
    rw [hd]
    have hh : p.head / 1024 = p.hops := by omega
    have hsum : decide (p.tsum ≠ 0) = p.sum := by
      unfold Pk.tsum
      cases hs : p.sum with
      | true =>
        have := osum_bd p.tail
        simp only [if_true]
        exact decide_eq_true (by omega)
      | false => simp
    rw [hh, hsum]
    rfl
  refine ⟨?_, hg⟩
  unfold glE
  rw [n0, n2, hl, if_neg (by omega), if_neg, if_neg]
  · rintro ⟨h1, h2⟩
    apply h2
    have : p.long.drop 4 = p.tail := by rw [e]; rfl
    rw [this]
    unfold Pk.tsum at h1 ⊢
    split
    · rfl
    · rename_i hs; rw [if_neg hs] at h1; exact absurd rfl h1
  · rintro (h | h)
    · omega
    · rw [hg] at h; exact h hv
theorem gs_short {p : Pk} (hs : p.Shorts) : gsE p.short p.dd p.sd = 0 ∧ gs p.short p.dd p.sd = p.wnl true := by
  obtain ⟨hv, h1, h2, h3, h4⟩ := hs
  have hv' := hv
  unfold Pk.Valid at hv'
  have e : p.short = b8 ((5 + p.data.length : Nat) / 256 : Int) :: b8 (5 + p.data.length : Nat) :: b8 p.ds :: b8 p.ss :: b8 p.ty :: p.data := by
    unfold Pk.short
    rw [if_pos ⟨hv, h1, h2, h3, h4⟩]
    rfl
  have n0 : num p.short 0 = (5 + p.data.length : Nat) := by
    rw [e]
    show 256 * ((b8 ((5 + p.data.length : Nat) / 256 : Int)).toNat : Int) + ((b8 (5 + p.data.length : Nat)).toNat : Int) = _
    exact two_num (by omega) (by omega)
  have hl : p.short.length = 5 + p.data.length := by rw [e]; simp only [List.length_cons]; omega
  have hg : gs p.short p.dd p.sd = p.wnl true := by
    unfold gs
    have t2 : bt p.short 2 = p.ds := by rw [e]; show ((b8 p.ds).toNat : Int) = _; exact b8_id (by omega) (by omega)
    have t3 : bt p.short 3 = p.ss := by rw [e]; show ((b8 p.ss).toNat : Int) = _; exact b8_id (by omega) (by omega)
    have t4 : bt p.short 4 = p.ty := by rw [e]; show ((b8 p.ty).toNat : Int) = _; exact b8_id (by omega) (by omega)
    have hd : p.short.drop 5 = p.data := by rw [e]; rfl
    rw [t2, t3, t4, hd]
    unfold Pk.wnl
    rw [h1, h2, h3, h4]
  refine ⟨?_, hg⟩
  unfold gsE
  rw [if_pos ⟨by omega, by omega⟩, n0, hl, if_neg (by omega), if_neg]
  rintro (h | h)
  · omega
  · rw [hg] at h; exact h hv
theorem hop_long {p : Pk} (hv : p.Valid) (hh : p.hopE = 0) : p.hop.long.length = p.long.length ∧ p.hop.long.drop 2 = p.long.drop 2 ∧ p.hop.longE = 0 := by
  unfold Pk.hopE at hh
  rw [if_pos hv] at hh
  split at hh
  · cases hh
  rename_i h15
  have hq : p.hop = { p with hops := p.hops + 1 } := by unfold Pk.hop; rw [if_pos hv, if_neg h15]
  have hv2 : p.hop.Valid := by
    rw [hq]
    unfold Pk.Valid at hv ⊢
    simp only
    omega
  refine ⟨?_, ?_, by unfold Pk.longE; rw [if_pos hv2]⟩
  · rw [long_len hv2, long_len hv, hq]
  · unfold Pk.long
    rw [if_pos hv2, if_pos hv, hq]
    rfl
end Go.Proofs.Ytkpogkmnfakciaa

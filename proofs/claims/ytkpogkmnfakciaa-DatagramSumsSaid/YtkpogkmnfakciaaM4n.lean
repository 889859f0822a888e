/- The law of sums, over the code. -/
import Derived.Test.YtkpogkmnfakciaaM4l
set_option autoImplicit false
set_option linter.unusedVariables false
set_option linter.unusedSimpArgs false
namespace Go.Proofs.Ytkpogkmnfakciaa
open Go Go.AM Go.Proofs
def Pk.summed (p : Pk) : Pk := { p with sum := true }
theorem bs_set {l : List UInt8} {k : Nat} {y : UInt8} : (bs l).set k [.int .u8 y.toNat] = bs (l.set k y) := by simp [bs, List.map_set]
theorem sums_law {p : Pk} (hnl : p.nl = true → p.data = []) {at' by' : Int} (ha : 0 ≤ at' ∧ at' ≤ 65535) (hb : 0 ≤ by' ∧ by' ≤ 255) : CallsA Try.prog 10 [p.av, .d (.int .u16 at'), .d (.int .u8 by')] noHeap fun v _ => v = .d (.bool true) := by
  apply C10
  unfold S10
  refine box_open rfl fun k1 G1 hG1 hle1 hk1 => ?_
  simp only [Pk.av, AV.cells] at hG1
  simp only [getM_of hG1, ti26_f7, bs_length, stoA_agg, stoA_get, stoM, setCells, and_self, true_and, Nat.le_refl, Nat.reduceLeDiff, List.cons_append, List.set_cons_zero, List.getElem?_cons_zero, ti26_f0, ti26_f1, ti26_f2, ti26_f3, ti26_f4, ti26_f5, ti26_f6, ti26_f7, ti23_f0, ti23_f1, go_sem]
  generalize hX : G1.set k1 _ = X
  have hX1 : X k1 = some p.summed.mem := by rw [← hX]; exact set_self
  have hleX : AHeap.le noHeap X := by rw [← hX]; exact set_le hle1 hk1
  clear hX
  split
  · exact awake_end
  rename_i hlen
  have hX2 := getP hX1
  simp only [Pk.summed] at hX2
  try simp only [hX2, ti26_f0, ti26_f1, ti26_f2, ti26_f3, ti26_f4, ti26_f5, ti26_f6, ti26_f7, ti23_f0, ti23_f1, go_sem]
  refine valid_c (p := p.summed) ?_
  try simp only [hX2, ti26_f0, ti26_f1, ti26_f2, ti26_f3, ti26_f4, ti26_f5, ti26_f6, ti26_f7, ti23_f0, ti23_f1, go_sem]
  split
  · exact awake_end
  rename_i hv
  have hv : p.summed.Valid := Classical.not_not.1 hv
  have hl : p.summed.long.length = 13 + p.data.length := long_len hv
  try simp only [hX2, ti26_f0, ti26_f1, ti26_f2, ti26_f3, ti26_f4, ti26_f5, ti26_f6, ti26_f7, ti23_f0, ti23_f1, go_sem]
  refine long_m hv fun i ver H1 hm => ?_
  have hlb : (bs p.summed.long).length = p.summed.long.length := bs_length
  have at_ : ∀ j : Int, 0 ≤ j → j < p.summed.long.length → (bs p.summed.long)[j.toNat]? = some [.int .u8 (bt p.summed.long j)] := fun j h0 h1 => by
    have hj : j.toNat < p.summed.long.length := by omega
    rw [bs_get hj]
    unfold bt
    rw [List.getD_eq_getElem?_getD, List.getElem?_eq_getElem hj]
    rfl
  rw [hlb]
  try simp only [hl, go_sem]
  have i2 : indexAddrA ti24 1 (.rs i ver 1 0 (13 + p.data.length)) (.d (.int .i64 2)) = some (.ptr i ver 2 0) := idx_rs (e := 5) rfl (by decide) (by omega)
  have i3 : indexAddrA ti24 1 (.rs i ver 1 0 (13 + p.data.length)) (.d (.int .i64 3)) = some (.ptr i ver 3 0) := idx_rs (e := 5) rfl (by decide) (by omega)
  have g2 := hm.get (at_ 2 (by decide) (by omega))
  have g3 := hm.get (at_ 3 (by decide) (by omega))
  have hlen4 : IntKind.i64.wrap (((13 + p.data.length : Nat) : Int) - 4) = (9 + p.data.length : Nat) := by rw [wrap_i64 (by omega) (by omega)]; omega
  have hat : IntKind.i64.wrap at' = at' := wrap_i64 (by omega) (by omega)
  have hm1 := Int.emod_nonneg at' (b := ((9 + p.data.length : Nat) : Int)) (by omega)
  have hm2 := Int.emod_lt_of_pos at' (b := ((9 + p.data.length : Nat) : Int)) (by omega)
  have ik : indexAddrA ti24 1 (.rs i ver 1 0 (13 + p.data.length)) (.d (.int .i64 (4 + at' % ((9 + p.data.length : Nat) : Int)))) = some (.ptr i ver (4 + at' % ((9 + p.data.length : Nat) : Int)).toNat 0) := idx_rs (e := 5) rfl (by omega) (by omega)
  have gk := hm.get (at_ (4 + at' % ((9 + p.data.length : Nat) : Int)) (by omega) (by omega))
  have hw1 : IntKind.u8.wrap (1 + by' % 254) = 1 + by' % 254 := by rw [wrap_u8, b8_toNat]; omega
  have hyne : b8 (bt p.summed.long (4 + at' % ((9 + p.data.length : Nat) : Int)) + (1 + by' % 254)) ≠ p.summed.long[(4 + at' % ((9 + p.data.length : Nat) : Int)).toNat]'(by omega) := by
    intro he
    have h1 := congrArg (fun x : UInt8 => (x.toNat : Int)) he
    simp only [b8_toNat] at h1
    have h2 : bt p.summed.long (4 + at' % ((9 + p.data.length : Nat) : Int)) = ((p.summed.long[(4 + at' % ((9 + p.data.length : Nat) : Int)).toNat]'(by omega)).toNat : Int) := by
      unfold bt
      rw [List.getD_eq_getElem?_getD, List.getElem?_eq_getElem (by omega)]
      rfl
    rw [← h2] at h1
    have := bt_bd (b := p.summed.long) (i := 4 + at' % ((9 + p.data.length : Nat) : Int))
    omega
  rw [if_neg (show ¬ ((13 + p.data.length : Nat) : Int) < 13 by omega)]
  have g2 : ldV false 1 (.ptr i ver 2 0) H1 = some (.d (.int .u8 (bt p.summed.long 2))) := g2
  have g3 : ldV false 1 (.ptr i ver 3 0) H1 = some (.d (.int .u8 (bt p.summed.long 3))) := g3
  rw [i2]
  rw [optA_some, g2, optA_some]
  simp only [intA_eql, go_sem]
  by_cases e2 : bt p.summed.long 2 = 255
  · rw [if_pos e2, i3, optA_some, g3, optA_some]
    simp only [intA_eql, go_sem]
    by_cases e3 : bt p.summed.long 3 = 255
    · rw [if_pos e3]
      exact awake_end
    · rw [if_neg e3]
      have h255 : ¬ (bt p.summed.long 2 = 255 ∧ bt p.summed.long 3 = 255) := fun h => e3 h.2
      try simp only [hat, hlen4, go_sem]
      rw [intA_rem (by omega), Int.tmod_eq_emod_of_nonneg (by omega)]
      try simp only [go_sem]
      rw [wrap_i64 (n := 4 + at' % ((9 + p.data.length : Nat) : Int)) (by omega) (by omega)]
      simp only [ik, gk, intA_rem (b := 254) (by decide), go_sem]
      rw [Int.tmod_eq_emod_of_nonneg (by omega), hw1, wrap_u8]
      obtain ⟨o, p1, p2⟩ := hm.put (y := .int .u8 ((b8 (bt p.summed.long (4 + at' % ((9 + p.data.length : Nat) : Int)) + (1 + by' % 254))).toNat)) (at_ (4 + at' % ((9 + p.data.length : Nat) : Int)) (by omega) (by omega))
      rw [p1]
      simp only [go_sem]
      rw [bs_set] at p2
      obtain ⟨us, f1, f2, f3⟩ := p2.frz
      have hle2 : (bs (p.summed.long.set (4 + at' % ((9 + p.data.length : Nat) : Int)).toNat (b8 (bt p.summed.long (4 + at' % ((9 + p.data.length : Nat) : Int)) + (1 + by' % 254))))).length = 13 + p.data.length := by rw [bs_length, List.length_set]; exact hl
      rw [hle2] at f2
      rw [frzLK_of f2]
      try simp only [go_sem]
      refine getLong_c (by rw [List.length_set]; omega) (by simp) fun nl2 => ?_
      try simp only [go_sem]
      refine alloc_open fun k2 G2 hG2 hle3 hk2 => ?_
      try simp only [getM_of hG2, Pk.av, stoA_agg, stoA_get, stoM, setCells, and_self, true_and, Nat.le_refl, Nat.reduceLeDiff, List.cons_append, List.set_cons_zero, List.getElem?_cons_zero, ti26_f0, ti26_f1, ti26_f2, ti26_f3, ti26_f4, ti26_f5, ti26_f6, ti26_f7, ti23_f0, ti23_f1, go_sem]
      have hbad := sums_bad (p := p.summed) (k := (4 + at' % ((9 + p.data.length : Nat) : Int)).toNat) (y := b8 (bt p.summed.long (4 + at' % ((9 + p.data.length : Nat) : Int)) + (1 + by' % 254))) hv rfl (by omega) (by omega) hyne h255
      rcases glE_vals (p.summed.long.set (4 + at' % ((9 + p.data.length : Nat) : Int)).toNat (b8 (bt p.summed.long (4 + at' % ((9 + p.data.length : Nat) : Int)) + (1 + by' % 254)))) with hz | hz | hz | hz
      · rw [hz]; simp only [if_true, if_false, Int.reduceEq, go_sem]; exact awake_end
      · rw [hz]; simp only [if_true, if_false, Int.reduceEq, go_sem]; exact awake_end
      · rw [hz]; simp only [if_true, if_false, Int.reduceEq, go_sem]; exact awake_end
      · exact absurd hz hbad
  · rw [if_neg e2]
    have h255 : ¬ (bt p.summed.long 2 = 255 ∧ bt p.summed.long 3 = 255) := fun h => e2 h.1
    try simp only [hat, hlen4, go_sem]
    rw [intA_rem (by omega), Int.tmod_eq_emod_of_nonneg (by omega)]
    try simp only [go_sem]
    rw [wrap_i64 (n := 4 + at' % ((9 + p.data.length : Nat) : Int)) (by omega) (by omega)]
    simp only [ik, gk, intA_rem (b := 254) (by decide), go_sem]
    rw [Int.tmod_eq_emod_of_nonneg (by omega), hw1, wrap_u8]
    obtain ⟨o, p1, p2⟩ := hm.put (y := .int .u8 ((b8 (bt p.summed.long (4 + at' % ((9 + p.data.length : Nat) : Int)) + (1 + by' % 254))).toNat)) (at_ (4 + at' % ((9 + p.data.length : Nat) : Int)) (by omega) (by omega))
    rw [p1]
    simp only [go_sem]
    rw [bs_set] at p2
    obtain ⟨us, f1, f2, f3⟩ := p2.frz
    have hle2 : (bs (p.summed.long.set (4 + at' % ((9 + p.data.length : Nat) : Int)).toNat (b8 (bt p.summed.long (4 + at' % ((9 + p.data.length : Nat) : Int)) + (1 + by' % 254))))).length = 13 + p.data.length := by rw [bs_length, List.length_set]; exact hl
    rw [hle2] at f2
    rw [frzLK_of f2]
    try simp only [go_sem]
    refine getLong_c (by rw [List.length_set]; omega) (by simp) fun nl2 => ?_
    try simp only [go_sem]
    refine alloc_open fun k2 G2 hG2 hle3 hk2 => ?_
    try simp only [getM_of hG2, Pk.av, stoA_agg, stoA_get, stoM, setCells, and_self, true_and, Nat.le_refl, Nat.reduceLeDiff, List.cons_append, List.set_cons_zero, List.getElem?_cons_zero, ti26_f0, ti26_f1, ti26_f2, ti26_f3, ti26_f4, ti26_f5, ti26_f6, ti26_f7, ti23_f0, ti23_f1, go_sem]
    have hbad := sums_bad (p := p.summed) (k := (4 + at' % ((9 + p.data.length : Nat) : Int)).toNat) (y := b8 (bt p.summed.long (4 + at' % ((9 + p.data.length : Nat) : Int)) + (1 + by' % 254))) hv rfl (by omega) (by omega) hyne h255
    rcases glE_vals (p.summed.long.set (4 + at' % ((9 + p.data.length : Nat) : Int)).toNat (b8 (bt p.summed.long (4 + at' % ((9 + p.data.length : Nat) : Int)) + (1 + by' % 254)))) with hz | hz | hz | hz
    · rw [hz]; simp only [if_true, if_false, Int.reduceEq, go_sem]; exact awake_end
    · rw [hz]; simp only [if_true, if_false, Int.reduceEq, go_sem]; exact awake_end
    · rw [hz]; simp only [if_true, if_false, Int.reduceEq, go_sem]; exact awake_end
    · exact absurd hz hbad
end Go.Proofs.Ytkpogkmnfakciaa

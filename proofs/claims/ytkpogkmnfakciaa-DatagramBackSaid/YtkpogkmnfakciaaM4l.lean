/- The law of sums. -/
import Derived.Test.YtkpogkmnfakciaaM4k
set_option autoImplicit false
set_option linter.unusedVariables false
set_option linter.unusedSimpArgs false
namespace Go.Proofs.Ytkpogkmnfakciaa
open Go Go.AM Go.Proofs
def rot (t : Int) : Int := t * 2 % 65536 + t / 32768
theorem rot_lo {t : Int} (h : 0 ≤ t) (h2 : t < 32768) : rot t = t * 2 := by unfold rot; omega
theorem rot_hi {t : Int} (h : 32768 ≤ t) (h2 : t < 65536) : rot t = t * 2 - 65535 := by unfold rot; omega
theorem rot_inj {t t' : Int} (h : 0 ≤ t ∧ t < 65536) (h' : 0 ≤ t' ∧ t' < 65536) (he : rot t = rot t') : t = t' := by
  rcases Int.lt_or_le t 32768 with h1 | h1 <;> rcases Int.lt_or_le t' 32768 with h2 | h2
  · rw [rot_lo h.1 h1, rot_lo h'.1 h2] at he; omega
  · rw [rot_lo h.1 h1, rot_hi h2 h'.2] at he; omega
  · rw [rot_hi h1 h.2, rot_lo h'.1 h2] at he; omega
  · rw [rot_hi h1 h.2, rot_hi h2 h'.2] at he; omega
theorem step_rot {s : Int} {c : UInt8} : sumStep s c = rot ((s + c.toNat) % 65536) := rfl
theorem step_inj {s s' : Int} {c : UInt8} (h : 0 ≤ s ∧ s < 65536) (h' : 0 ≤ s' ∧ s' < 65536) (he : sumStep s c = sumStep s' c) : s = s' := by
  rw [step_rot, step_rot] at he
  have := rot_inj ⟨by omega, by omega⟩ ⟨by omega, by omega⟩ he
  have := c.toNat_lt
  omega
theorem step_ne {s : Int} {c c' : UInt8} (h : 0 ≤ s ∧ s < 65536) (he : sumStep s c = sumStep s c') : c = c' := by
  rw [step_rot, step_rot] at he
  have := rot_inj ⟨by omega, by omega⟩ ⟨by omega, by omega⟩ he
  have := c.toNat_lt
  have := c'.toNat_lt
  apply UInt8.toNat_inj.1
  omega
theorem fold_inj : ∀ (l : List UInt8) {s s' : Int}, 0 ≤ s ∧ s < 65536 → 0 ≤ s' ∧ s' < 65536 → l.foldl sumStep s = l.foldl sumStep s' → s = s'
  | [], s, s', _, _, h => h
  | c :: l, s, s', h, h', he => step_inj h h' (fold_inj l sumStep_bd sumStep_bd he)
theorem sums_set {l : List UInt8} {j : Nat} {y : UInt8} (hj : j < l.length) (hne : y ≠ l[j]) : sums (l.set j y) ≠ sums l := by
  intro he
  have e1 : l = l.take j ++ l[j] :: l.drop (j + 1) := by rw [← List.drop_eq_getElem_cons hj, List.take_append_drop]
  have e2 : l.set j y = l.take j ++ y :: l.drop (j + 1) := List.set_eq_take_append_cons_drop ▸ (by rw [if_pos hj])
  unfold sums at he
  rw [e2] at he
  conv at he => rhs; rw [e1]
  rw [List.foldl_append, List.foldl_append, List.foldl_cons, List.foldl_cons] at he
  exact hne (step_ne (sums_bd (l.take j)) (fold_inj _ sumStep_bd sumStep_bd he))
theorem osum_set {l : List UInt8} {j : Nat} {y : UInt8} (hj : j < l.length) (hne : y ≠ l[j]) (h : osum (l.set j y) = osum l) : osum l = 65535 := by
  have h1 := sums_set hj hne
  have h2 := sums_bd l
  have h3 := sums_bd (l.set j y)
  unfold osum at h ⊢
  split at h <;> split at h <;> split <;> omega
theorem glE_vals (b : List UInt8) : glE b = 6 ∨ glE b = 3 ∨ glE b = 10 ∨ glE b = 0 := by
  unfold glE
  split
  · exact .inl rfl
  split
  · exact .inr (.inl rfl)
  split
  · exact .inr (.inr (.inl rfl))
  · exact .inr (.inr (.inr rfl))
theorem bt_set {b : List UInt8} {k : Nat} {y : UInt8} {i : Int} (h : i.toNat ≠ k) : bt (b.set k y) i = bt b i := by
  unfold bt
  rw [List.getD_eq_getElem?_getD, List.getD_eq_getElem?_getD, List.getElem?_set_ne (Ne.symm h)]
theorem sums_bad {p : Pk} (hv : p.Valid) (hs : p.sum = true) {k : Nat} {y : UInt8} (hk4 : 4 ≤ k) (hk : k < p.long.length) (hne : y ≠ p.long[k]) (h255 : ¬ (bt p.long 2 = 255 ∧ bt p.long 3 = 255)) : glE (p.long.set k y) ≠ 0 := by
  intro hz
  have hl := long_len hv
  have e : p.long = b8 (p.head / 256) :: b8 p.head :: b8 (p.tsum / 256) :: b8 p.tsum :: p.tail := by
    unfold Pk.long
    rw [if_pos hv]
    rfl
  have hts := tsum_bd (p := p)
  have htz : p.tsum = osum p.tail := by unfold Pk.tsum; rw [if_pos hs]
  have n2 : num p.long 2 = p.tsum := by
    rw [e]
    show 256 * ((b8 (p.tsum / 256)).toNat : Int) + ((b8 p.tsum).toNat : Int) = _
    exact two_num (by omega) (by omega)
  have n2' : num (p.long.set k y) 2 = p.tsum := by
    rw [← n2]
    unfold num
    rw [bt_set (by show (2 : Nat) ≠ k; omega), bt_set (by show (3 : Nat) ≠ k; omega)]
  have ho := osum_bd p.tail
  unfold glE at hz
  split at hz
  · cases hz
  split at hz
  · cases hz
  split at hz
  · cases hz
  rename_i h3
  rw [n2'] at h3
  have hd : (p.long.set k y).drop 4 = p.tail.set (k - 4) y := by
    rw [e]
    obtain ⟨m, rfl⟩ : ∃ m, k = m + 4 := ⟨k - 4, by omega⟩
    rfl
  rw [hd] at h3
  have heq : osum (p.tail.set (k - 4) y) = osum p.tail := Classical.byContradiction fun hn => h3 ⟨by omega, fun he => hn (by omega)⟩
  have htl := tail_len (p := p)
  have hkt : p.long[k] = p.tail[k - 4]'(by omega) := by
    have : p.long[k]? = p.tail[k - 4]? := by
      rw [e]
      obtain ⟨m, rfl⟩ : ∃ m, k = m + 4 := ⟨k - 4, by omega⟩
      rfl
    rw [List.getElem?_eq_getElem hk, List.getElem?_eq_getElem (by omega)] at this
    simpa using this
  have h65 := osum_set (l := p.tail) (j := k - 4) (y := y) (by omega) (by rw [← hkt]; exact hne) heq
  apply h255
  have b2 := bt_bd (b := p.long) (i := 2)
  have b3 := bt_bd (b := p.long) (i := 3)
  have : num p.long 2 = 256 * bt p.long 2 + bt p.long 3 := rfl
  omega
end Go.Proofs.Ytkpogkmnfakciaa

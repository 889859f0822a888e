/- What more functions compute: the datagram back. -/
import Derived.Test.YtkpogkmnfakciaaM4c
set_option autoImplicit false
set_option linter.unusedVariables false
set_option linter.unusedSimpArgs false
namespace Go.Proofs.Ytkpogkmnfakciaa
open Go Go.AM Go.Proofs
def Pk.back0 (p : Pk) (nl : Bool) (data : List UInt8) : Pk := ⟨0, p.sn, p.sd, p.dn, p.dd, p.ss, p.ds, p.ty, nl, data, p.sum⟩
def Pk.Backs (p : Pk) (data : List UInt8) : Prop := p.Valid ∧ (p.back0 true data).Valid
instance (p : Pk) (data : List UInt8) : Decidable (p.Backs data) := by unfold Pk.Backs; exact inferInstance
def Pk.back (p : Pk) (data : List UInt8) : Pk := if p.Backs data then p.back0 true data else .zero
def Pk.backE (p : Pk) (data : List UInt8) : Int := if p.Backs data then 0 else 2
theorem back_c {p : Pk} {nl : Bool} {data : List UInt8} (hl : data.length < 2 ^ 40) (hnl : nl = true → data = []) {H : AHeap} {K : AV → AHeap → Prop} (h : ∀ nl, K (.tup [((p.back data).wnl nl).av, .d (.int .i64 (p.backE data))]) H) : CallsA Try.prog 16 [p.av, .d (.sl nl (bs data))] H K := by
  apply C16
  unfold S16
  refine box_open rfl fun k1 G1 hG1 hle1 hk1 => ?_
  refine alloc_open fun k2 G2 hG2 hle2 hk2 => ?_
  have hG1' := hle2 _ _ hG1
  have hle := le_trans' hle1 hle2
  have hHk2 := le_none hle1 hk2
  have hne : k1 ≠ k2 := le_ne hG1 hk2
  simp only [Pk.av, AV.cells] at hG1'
  simp only [getM_of hG1', ti26_f0, ti26_f1, ti26_f2, ti26_f3, ti26_f4, ti26_f5, ti26_f6, ti26_f7, ti23_f0, ti23_f1, go_sem]
  refine ⟨_, clone_c hl hnl ⟨rfl, le_refl'⟩, ?_⟩
  simp only [getM_of hG1', bd26, cell3, cell4, cell23, cell24, stoA_agg, stoA_get, stoM, setCells, and_self, true_and, Nat.le_refl, Nat.reduceLeDiff, List.cons_append, List.set_cons_zero, List.getElem?_cons_zero, bdA, fillA, setCells, List.zip_cons_cons, List.zip_nil_right, List.zip_nil_left, Option.map_some, and_self, Nat.le_refl, Nat.reduceLeDiff, List.cons_append, ti26_f0, ti26_f1, ti26_f2, ti26_f3, ti26_f4, ti26_f5, ti26_f6, ti26_f7, ti23_f0, ti23_f1, go_sem]
  refine alloc_open fun k3 G3 hG3 hle3 hk3 => ?_
  have h31 := hle3 _ _ hG1'
  have h32 := hle3 _ _ hG2
  have hne13 : k1 ≠ k3 := le_ne hG1' hk3
  have hne23 : k2 ≠ k3 := le_ne hG2 hk3
  have hHk3 := le_none hle hk3
  have hleH := le_trans' hle hle3
  simp only [getM_of hG3, getM_of h31, hne13, bd26, cell3, cell4, cell23, cell24, stoA_agg, stoA_get, stoM, setCells, and_self, true_and, Nat.le_refl, Nat.reduceLeDiff, List.cons_append, List.set_cons_zero, List.getElem?_cons_zero, bdA, fillA, setCells, List.zip_cons_cons, List.zip_nil_right, List.zip_nil_left, Option.map_some, and_self, Nat.le_refl, Nat.reduceLeDiff, List.cons_append, ti26_f0, ti26_f1, ti26_f2, ti26_f3, ti26_f4, ti26_f5, ti26_f6, ti26_f7, ti23_f0, ti23_f1, go_sem]
  refine valid_c (p := p) ?_
  simp only [go_sem]
  unfold Pk.back Pk.backE at h
  split
  · rename_i hv
    have hb : ¬ p.Backs data := fun hb => hv hb.1
    rw [if_neg hb, if_neg hb] at h
    simp only [getM_of h32, hne23, bd26, cell3, cell4, cell23, cell24, stoA_agg, stoA_get, stoM, setCells, and_self, true_and, Nat.le_refl, Nat.reduceLeDiff, List.cons_append, List.set_cons_zero, List.getElem?_cons_zero, bdA, fillA, setCells, List.zip_cons_cons, List.zip_nil_right, List.zip_nil_left, Option.map_some, and_self, Nat.le_refl, Nat.reduceLeDiff, List.cons_append, ti26_f0, ti26_f1, ti26_f2, ti26_f3, ti26_f4, ti26_f5, ti26_f6, ti26_f7, ti23_f0, ti23_f1, go_sem]
    exact ⟨H, set_le (set_le hleH hHk3) hHk2, h true⟩
  · rename_i hv
    have hv := Classical.not_not.1 hv
    try simp only [go_sem]
    refine valid_c (p := p.back0 nl data) ?_
    simp only [go_sem]
    split
    · rename_i hv2
      have hb : ¬ p.Backs data := fun hb => hv2 hb.2
      rw [if_neg hb, if_neg hb] at h
      simp only [getM_of h32, hne23, bd26, cell3, cell4, cell23, cell24, stoA_agg, stoA_get, stoM, setCells, and_self, true_and, Nat.le_refl, Nat.reduceLeDiff, List.cons_append, List.set_cons_zero, List.getElem?_cons_zero, bdA, fillA, setCells, List.zip_cons_cons, List.zip_nil_right, List.zip_nil_left, Option.map_some, and_self, Nat.le_refl, Nat.reduceLeDiff, List.cons_append, ti26_f0, ti26_f1, ti26_f2, ti26_f3, ti26_f4, ti26_f5, ti26_f6, ti26_f7, ti23_f0, ti23_f1, go_sem]
      exact ⟨H, set_le (set_le hleH hHk3) hHk2, h true⟩
    · rename_i hv2
      have hv2 := Classical.not_not.1 hv2
      have hb : p.Backs data := ⟨hv, hv2⟩
      rw [if_pos hb, if_pos hb] at h
      simp only [getM_of h32, hne23, stoA_agg, stoA_get, stoM, setCells, and_self, true_and, Nat.le_refl, Nat.reduceLeDiff, List.cons_append, List.set_cons_zero, List.getElem?_cons_zero, ti26_f0, ti26_f1, ti26_f2, ti26_f3, ti26_f4, ti26_f5, ti26_f6, ti26_f7, ti23_f0, ti23_f1, go_sem]
      exact ⟨H, set_le (set_le hleH hHk3) hHk2, h nl⟩
theorem rback_c {p : Pk} {nl : Bool} {data : List UInt8} (hl : data.length < 2 ^ 40) {H : AHeap} {K : AV → AHeap → Prop} (h : ∀ nl, K (.tup [((p.back data).wnl nl).av, .d (.int .i64 (p.backE data))]) H) : CallsA Try.prog 17 [p.av, .d (.sl nl (bs data))] H K := by
  apply C17
  unfold S17
  refine box_open rfl fun k1 G1 hG1 hle1 hk1 => ?_
  refine alloc_open fun k2 G2 hG2 hle2 hk2 => ?_
  have hG1' := hle2 _ _ hG1
  have hle := le_trans' hle1 hle2
  have hHk2 := le_none hle1 hk2
  have hne : k1 ≠ k2 := le_ne hG1 hk2
  simp only [Pk.av, AV.cells] at hG1'
  simp only [getM_of hG1', ti26_f0, ti26_f1, ti26_f2, ti26_f3, ti26_f4, ti26_f5, ti26_f6, ti26_f7, ti23_f0, ti23_f1, go_sem]
  intro n hn
  simp only [bs0, stoA_agg, stoA_get, stoM, setCells, and_self, true_and, Nat.le_refl, Nat.reduceLeDiff, List.cons_append, List.set_cons_zero, List.getElem?_cons_zero, ti26_f0, ti26_f1, ti26_f2, ti26_f3, ti26_f4, ti26_f5, ti26_f6, ti26_f7, ti23_f0, ti23_f1, go_sem]
  refine (Own.lit (sz := 1) (l := []) le_refl' (by simp)).app (ys := bs data) rfl (by decide) (by decide) bs_sz (by rw [bs_length]; simp [mostBytes]; omega) fun v H3 hv3 _ _ hnl3 => ?_
  have hag : aggL v = [] := by
    rcases hv3.2.2 with ⟨rfl, _⟩ | rfl | ⟨i, ver, L, rfl, _⟩ <;> rfl
  obtain ⟨us, e1, e2, hle', _⟩ := hv3.frz
  simp only [hag, e1, e2, bd26, cell3, cell4, cell23, cell24, stoA_agg, stoA_get, stoM, setCells, and_self, true_and, Nat.le_refl, Nat.reduceLeDiff, List.cons_append, List.set_cons_zero, List.getElem?_cons_zero, bdA, fillA, setCells, List.zip_cons_cons, List.zip_nil_right, List.zip_nil_left, Option.map_some, and_self, Nat.le_refl, Nat.reduceLeDiff, List.cons_append, ti26_f0, ti26_f1, ti26_f2, ti26_f3, ti26_f4, ti26_f5, ti26_f6, ti26_f7, ti23_f0, ti23_f1, go_sem]
  have hleB := le_trans' hle hle'
  have hU1 := hle' _ _ hG1'
  have hU2 := hle' _ _ hG2
  generalize hU : H3.sets us = U at *
  refine alloc_open fun k3 G3 hG3 hle3 hk3 => ?_
  have h31 := hle3 _ _ hU1
  have h32 := hle3 _ _ hU2
  have hne13 : k1 ≠ k3 := le_ne hU1 hk3
  have hne23 : k2 ≠ k3 := le_ne hU2 hk3
  have hHk3 := le_none hleB hk3
  have hleH := le_trans' hleB hle3
  simp only [getM_of hG3, getM_of h31, hne13, bd26, cell3, cell4, cell23, cell24, stoA_agg, stoA_get, stoM, setCells, and_self, true_and, Nat.le_refl, Nat.reduceLeDiff, List.cons_append, List.set_cons_zero, List.getElem?_cons_zero, bdA, fillA, setCells, List.zip_cons_cons, List.zip_nil_right, List.zip_nil_left, Option.map_some, and_self, Nat.le_refl, Nat.reduceLeDiff, List.cons_append, ti26_f0, ti26_f1, ti26_f2, ti26_f3, ti26_f4, ti26_f5, ti26_f6, ti26_f7, ti23_f0, ti23_f1, go_sem]
  refine rvalid_c (p := p) ?_
  simp only [go_sem]
  unfold Pk.back Pk.backE at h
  split
  · rename_i hv
    have hb : ¬ p.Backs data := fun hb => hv hb.1
    rw [if_neg hb, if_neg hb] at h
    simp only [getM_of h32, hne23, bd26, cell3, cell4, cell23, cell24, stoA_agg, stoA_get, stoM, setCells, and_self, true_and, Nat.le_refl, Nat.reduceLeDiff, List.cons_append, List.set_cons_zero, List.getElem?_cons_zero, bdA, fillA, setCells, List.zip_cons_cons, List.zip_nil_right, List.zip_nil_left, Option.map_some, and_self, Nat.le_refl, Nat.reduceLeDiff, List.cons_append, ti26_f0, ti26_f1, ti26_f2, ti26_f3, ti26_f4, ti26_f5, ti26_f6, ti26_f7, ti23_f0, ti23_f1, go_sem]
    exact ⟨H, set_le (set_le hleH hHk3) hHk2, h true⟩
  · rename_i hv
    have hv := Classical.not_not.1 hv
    try simp only [go_sem]
    refine rvalid_c (p := p.back0 (nilS v) data) ?_
    simp only [go_sem]
    split
    · rename_i hv2
      have hb : ¬ p.Backs data := fun hb => hv2 hb.2
      rw [if_neg hb, if_neg hb] at h
      simp only [getM_of h32, hne23, bd26, cell3, cell4, cell23, cell24, stoA_agg, stoA_get, stoM, setCells, and_self, true_and, Nat.le_refl, Nat.reduceLeDiff, List.cons_append, List.set_cons_zero, List.getElem?_cons_zero, bdA, fillA, setCells, List.zip_cons_cons, List.zip_nil_right, List.zip_nil_left, Option.map_some, and_self, Nat.le_refl, Nat.reduceLeDiff, List.cons_append, ti26_f0, ti26_f1, ti26_f2, ti26_f3, ti26_f4, ti26_f5, ti26_f6, ti26_f7, ti23_f0, ti23_f1, go_sem]
      exact ⟨H, set_le (set_le hleH hHk3) hHk2, h true⟩
    · rename_i hv2
      have hv2 := Classical.not_not.1 hv2
      have hb : p.Backs data := ⟨hv, hv2⟩
      rw [if_pos hb, if_pos hb] at h
      simp only [getM_of h32, hne23, stoA_agg, stoA_get, stoM, setCells, and_self, true_and, Nat.le_refl, Nat.reduceLeDiff, List.cons_append, List.set_cons_zero, List.getElem?_cons_zero, ti26_f0, ti26_f1, ti26_f2, ti26_f3, ti26_f4, ti26_f5, ti26_f6, ti26_f7, ti23_f0, ti23_f1, go_sem]
      exact ⟨H, set_le (set_le hleH hHk3) hHk2, h (nilS v)⟩
theorem same_wnl {p : Pk} {n1 n2 : Bool} : (p.wnl n1).Same (p.wnl n2) := ⟨⟨rfl, ⟨rfl, rfl⟩, ⟨rfl, rfl⟩, rfl, rfl, rfl⟩, rfl, rfl⟩
theorem awake_end {G : AHeap} : CallsA Try.prog 13 [] G fun v8 H9 => retF [v8] H9 fun v _ => v = .d (.bool true) := awake_c (by simp only [go_sem]; exact ⟨_, le_refl', rfl⟩)
theorem backs_law {p : Pk} {nl : Bool} {data : List UInt8} (hnl : nl = true → data = []) : CallsA Try.prog 4 [p.av, .d (.sl nl (bs data))] noHeap fun v _ => v = .d (.bool true) := by
  apply C4
  unfold S4
  refine box_open rfl fun k G hG hle hk => ?_
  simp only [Pk.av, AV.cells] at hG
  simp only [getM_of hG, bs_length, ti26_f0, ti26_f1, ti26_f2, ti26_f3, ti26_f4, ti26_f5, ti26_f6, ti26_f7, ti23_f0, ti23_f1, go_sem]
  split
  · exact awake_end
  split
  · exact awake_end
  rename_i hlen hlen2
  refine back_c (p := p) (by omega) hnl fun nl1 => ?_
  simp only [go_sem]
  refine alloc_open fun k2 G2 hG2 hle2 hk2 => ?_
  have hne : k ≠ k2 := le_ne hG hk2
  simp only [getM_of hG2, getM_of (hle2 _ _ hG), hne, Pk.av, stoA_agg, stoA_get, stoM, setCells, and_self, true_and, Nat.le_refl, Nat.reduceLeDiff, List.cons_append, List.set_cons_zero, List.getElem?_cons_zero, ti26_f0, ti26_f1, ti26_f2, ti26_f3, ti26_f4, ti26_f5, ti26_f6, ti26_f7, ti23_f0, ti23_f1, go_sem]
  refine rback_c (p := p) (by omega) fun nl2 => ?_
  simp only [go_sem]
  refine alloc_open fun k3 G3 hG3 hle3 hk3 => ?_
  have h2 := hle3 _ _ set_self
  have hne3 : k2 ≠ k3 := le_ne set_self hk3
  simp only [getM_of h2, getM_of hG3, hne3, Pk.av, stoA_agg, stoA_get, stoM, setCells, and_self, true_and, Nat.le_refl, Nat.reduceLeDiff, List.cons_append, List.set_cons_zero, List.getElem?_cons_zero, ti26_f0, ti26_f1, ti26_f2, ti26_f3, ti26_f4, ti26_f5, ti26_f6, ti26_f7, ti23_f0, ti23_f1, go_sem]
  refine rsame_c (p := (p.back data).wnl nl1) (q := (p.back data).wnl nl2) ?_ ?_
  · show (p.back data).data.length < _
    unfold Pk.back
    split
    · show data.length < _
      omega
    · decide
  · simp only [same_wnl, decide_true, go_sem]
    exact awake_end
end Go.Proofs.Ytkpogkmnfakciaa

/- What more functions compute: sameness, hops, answers. -/
import Derived.Test.YtkpogkmnfakciaaM4b
set_option autoImplicit false
set_option linter.unusedVariables false
set_option linter.unusedSimpArgs false
namespace Go.Proofs.Ytkpogkmnfakciaa
open Go Go.AM Go.Proofs
theorem addr_eq {a b c d : Int} : aggA Try.prog .eql 23 (.agg [.d (.int .i64 a), .d (.int .i64 b)]) (.agg [.d (.int .i64 c), .d (.int .i64 d)]) = some (.d (.bool (a == c && (b == d && true)))) := by kernel_rfl
def Pk.Same (p q : Pk) : Prop := (p.hops = q.hops ∧ (p.dn = q.dn ∧ p.dd = q.dd) ∧ (p.sn = q.sn ∧ p.sd = q.sd) ∧ p.ds = q.ds ∧ p.ss = q.ss ∧ p.ty = q.ty) ∧ p.sum = q.sum ∧ p.data = q.data
instance (p q : Pk) : Decidable (p.Same q) := by unfold Pk.Same; exact inferInstance
theorem same_c {p q : Pk} {H : AHeap} {K : AV → AHeap → Prop} (hl : p.data.length < 2 ^ 62) (h : K (.d (.bool (decide (p.Same q)))) H) : CallsA Try.prog 30 [p.av, q.av] H K := by
  apply C30
  unfold S30
  refine box_open rfl fun k1 G1 hG1 hle1 hk1 => ?_
  refine box_open rfl fun k2 G2 hG2 hle2 hk2 => ?_
  have hG1' := hle2 _ _ hG1
  have hle := le_trans' hle1 hle2
  simp only [Pk.av, AV.cells] at hG1' hG2
  simp only [getM_of hG1', getM_of hG2, ti26_f0, ti26_f1, ti26_f2, ti26_f3, ti26_f4, ti26_f5, ti26_f6, ti26_f7, ti23_f0, ti23_f1, go_sem]
  refine equal_c hl ?_
  simp only [getM_of hG1', getM_of hG2, addr_eq, Bool.and_true, Bool.and_eq_true, beq_iff_eq, ti26_f0, ti26_f1, ti26_f2, ti26_f3, ti26_f4, ti26_f5, ti26_f6, ti26_f7, ti23_f0, ti23_f1, go_sem]
  have fin : ∀ b : Bool, (b = true ↔ p.Same q) → finA (.d (.bool b)) G2 K := fun b hb => ⟨H, hle, k_bool h (by rw [Bool.eq_iff_iff]; simpa using hb)⟩
  repeat' first
    | (refine fin _ ?_; unfold Pk.Same; simp_all; done)
    | split
theorem rsame_c {p q : Pk} {H : AHeap} {K : AV → AHeap → Prop} (hl : p.data.length < 2 ^ 62) (h : K (.d (.bool (decide (p.Same q)))) H) : CallsA Try.prog 18 [p.av, q.av] H K := by
  apply C18
  unfold S18
  refine box_open rfl fun k1 G1 hG1 hle1 hk1 => ?_
  refine box_open rfl fun k2 G2 hG2 hle2 hk2 => ?_
  have hG1' := hle2 _ _ hG1
  have hle := le_trans' hle1 hle2
  simp only [Pk.av, AV.cells] at hG1' hG2
  have fin : ∀ b : Bool, (b = true ↔ p.Same q) → finA (.d (.bool b)) G2 K := fun b hb => ⟨H, hle, k_bool h (by rw [Bool.eq_iff_iff]; simpa using hb)⟩
  simp only [getM_of hG1', getM_of hG2, addr_eq, Bool.and_true, Bool.and_eq_true, beq_iff_eq, ti26_f0, ti26_f1, ti26_f2, ti26_f3, ti26_f4, ti26_f5, ti26_f6, ti26_f7, ti23_f0, ti23_f1, go_sem]
  repeat' first
    | (refine fin _ ?_; unfold Pk.Same; simp_all; done)
    | (refine sameBytes_c hl ?_; simp only [go_sem])
    | split
theorem sameBoth_c {p q : Pk} {H : AHeap} {K : AV → AHeap → Prop} (hl : p.data.length < 2 ^ 62) (h : K (.d (.bool true)) H) : CallsA Try.prog 19 [p.av, q.av] H K := by
  apply C19
  unfold S19
  refine box_open rfl fun k1 G1 hG1 hle1 hk1 => ?_
  refine box_open rfl fun k2 G2 hG2 hle2 hk2 => ?_
  have hG1' := hle2 _ _ hG1
  have hle := le_trans' hle1 hle2
  simp only [Pk.av, AV.cells] at hG1' hG2
  simp only [getM_of hG1', getM_of hG2, ti26_f0, ti26_f1, ti26_f2, ti26_f3, ti26_f4, ti26_f5, ti26_f6, ti26_f7, ti23_f0, ti23_f1, go_sem]
  refine ⟨rfl, rfl, _, same_c (p := p) (q := q) hl ⟨rfl, le_refl'⟩, rfl, rfl, _, rsame_c (p := p) (q := q) hl ⟨rfl, le_refl'⟩, ?_⟩
  simp only [beq_self_eq_true, go_sem]
  exact ⟨H, hle, h⟩
theorem alike_law {p q : Pk} : CallsA Try.prog 5 [p.av, q.av] noHeap fun v _ => v = .d (.bool true) := by
  apply C5
  unfold S5
  refine box_open rfl fun k1 G1 hG1 hle1 hk1 => ?_
  refine box_open rfl fun k2 G2 hG2 hle2 hk2 => ?_
  have hG1' := hle2 _ _ hG1
  have hle := le_trans' hle1 hle2
  simp only [Pk.av, AV.cells] at hG1' hG2
  simp only [getM_of hG1', getM_of hG2, bs_length, ti26_f0, ti26_f1, ti26_f2, ti26_f3, ti26_f4, ti26_f5, ti26_f6, ti26_f7, ti23_f0, ti23_f1, go_sem]
  repeat' first
    | (refine awake_c ?_; simp only [go_sem]; exact ⟨_, le_refl', rfl⟩)
    | (refine sameBoth_c (p := p) (q := q) (by omega) ?_; simp only [getM_of hG1', getM_of hG2, ti26_f0, ti26_f1, ti26_f2, ti26_f3, ti26_f4, ti26_f5, ti26_f6, ti26_f7, ti23_f0, ti23_f1, go_sem])
    | (refine sameBoth_c (p := p) (q := p) (by omega) ?_; simp only [getM_of hG1', getM_of hG2, ti26_f0, ti26_f1, ti26_f2, ti26_f3, ti26_f4, ti26_f5, ti26_f6, ti26_f7, ti23_f0, ti23_f1, go_sem])
    | split
def Pk.zero : Pk := ⟨0, 0, 0, 0, 0, 0, 0, 0, true, [], false⟩
def Pk.hop (p : Pk) : Pk := if p.Valid then (if p.hops = 15 then .zero else { p with hops := p.hops + 1 }) else .zero
def Pk.hopE (p : Pk) : Int := if p.Valid then (if p.hops = 15 then 3 else 0) else 2
def Pk.wnl (p : Pk) (nl : Bool) : Pk := { p with nl := nl }
theorem hop_c {p : Pk} (hnl : p.nl = true → p.data = []) {H : AHeap} {K : AV → AHeap → Prop} (h : ∀ nl, K (.tup [(p.hop.wnl nl).av, .d (.int .i64 p.hopE)]) H) : CallsA Try.prog 20 [p.av] H K := by
  apply C20
  unfold S20
  refine box_open rfl fun k1 G1 hG1 hle1 hk1 => ?_
  refine alloc_open fun k2 G2 hG2 hle2 hk2 => ?_
  have hG1' := hle2 _ _ hG1
  have hle := le_trans' hle1 hle2
  have hHk2 := le_none hle1 hk2
  have hne : k1 ≠ k2 := le_ne hG1 hk2
  simp only [Pk.av, AV.cells] at hG1'
  simp only [getM_of hG1', ti26_f0, ti26_f1, ti26_f2, ti26_f3, ti26_f4, ti26_f5, ti26_f6, ti26_f7, ti23_f0, ti23_f1, go_sem]
  refine valid_c (p := p) ?_
  simp only [go_sem]
  unfold Pk.hop Pk.hopE at h
  split
  · rename_i hv
    rw [if_neg hv, if_neg hv] at h
    simp only [getM_of hG2, getM_of hG1', bd26, cell3, cell4, cell23, cell24, stoA_agg, stoA_get, stoM, setCells, and_self, true_and, Nat.le_refl, Nat.reduceLeDiff, List.cons_append, List.set_cons_zero, List.getElem?_cons_zero, bdA, fillA, setCells, List.zip_cons_cons, List.zip_nil_right, List.zip_nil_left, Option.map_some, and_self, Nat.le_refl, Nat.reduceLeDiff, List.cons_append, ti26_f0, ti26_f1, ti26_f2, ti26_f3, ti26_f4, ti26_f5, ti26_f6, ti26_f7, ti23_f0, ti23_f1, go_sem]
    exact ⟨H, set_le hle hHk2, h true⟩
  · rename_i hv
    have hv := Classical.not_not.1 hv
    rw [if_pos hv, if_pos hv] at h
    unfold Pk.Valid at hv
    simp only [getM_of hG1', ti26_f0, ti26_f1, ti26_f2, ti26_f3, ti26_f4, ti26_f5, ti26_f6, ti26_f7, ti23_f0, ti23_f1, go_sem]
    split
    · rename_i h15
      rw [if_pos h15, if_pos h15] at h
      simp only [getM_of hG2, getM_of hG1', bd26, cell3, cell4, cell23, cell24, stoA_agg, stoA_get, stoM, setCells, and_self, true_and, Nat.le_refl, Nat.reduceLeDiff, List.cons_append, List.set_cons_zero, List.getElem?_cons_zero, bdA, fillA, setCells, List.zip_cons_cons, List.zip_nil_right, List.zip_nil_left, Option.map_some, and_self, Nat.le_refl, Nat.reduceLeDiff, List.cons_append, ti26_f0, ti26_f1, ti26_f2, ti26_f3, ti26_f4, ti26_f5, ti26_f6, ti26_f7, ti23_f0, ti23_f1, go_sem]
      exact ⟨H, set_le hle hHk2, h true⟩
    · rename_i h15
      rw [if_neg h15, if_neg h15] at h
      simp only [getM_of hG1', getM_of hG1', stoA_agg, stoA_get, stoM, setCells, and_self, true_and, Nat.le_refl, Nat.reduceLeDiff, List.cons_append, List.set_cons_zero, List.getElem?_cons_zero, ti26_f0, ti26_f1, ti26_f2, ti26_f3, ti26_f4, ti26_f5, ti26_f6, ti26_f7, ti23_f0, ti23_f1, go_sem]
      refine clone_c (by omega) hnl ?_
      have hG2' : ∀ o, (G2.set k1 o) k2 = _ := fun o => (set_ne (Ne.symm hne)).trans hG2
      simp only [getM_of (hG2' _), stoA_agg, stoA_get, stoM, setCells, and_self, true_and, Nat.le_refl, Nat.reduceLeDiff, List.cons_append, List.set_cons_zero, List.getElem?_cons_zero, ti26_f0, ti26_f1, ti26_f2, ti26_f3, ti26_f4, ti26_f5, ti26_f6, ti26_f7, ti23_f0, ti23_f1, go_sem]
      refine ⟨H, set_le (set_le hle hk1) hHk2, ?_⟩
      rw [wrap_i64 (by omega) (by omega)]
      exact h p.nl
theorem rhop_c {p : Pk} {H : AHeap} {K : AV → AHeap → Prop} (h : ∀ nl, K (.tup [(p.hop.wnl nl).av, .d (.int .i64 p.hopE)]) H) : CallsA Try.prog 21 [p.av] H K := by
  apply C21
  unfold S21
  refine box_open rfl fun k1 G1 hG1 hle1 hk1 => ?_
  refine alloc_open fun k2 G2 hG2 hle2 hk2 => ?_
  have hG1' := hle2 _ _ hG1
  have hle := le_trans' hle1 hle2
  have hHk2 := le_none hle1 hk2
  have hne : k1 ≠ k2 := le_ne hG1 hk2
  simp only [Pk.av, AV.cells] at hG1'
  simp only [getM_of hG1', ti26_f0, ti26_f1, ti26_f2, ti26_f3, ti26_f4, ti26_f5, ti26_f6, ti26_f7, ti23_f0, ti23_f1, go_sem]
  refine rvalid_c (p := p) ?_
  simp only [go_sem]
  unfold Pk.hop Pk.hopE at h
  split
  · rename_i hv
    rw [if_neg hv, if_neg hv] at h
    simp only [getM_of hG2, getM_of hG1', bd26, cell3, cell4, cell23, cell24, stoA_agg, stoA_get, stoM, setCells, and_self, true_and, Nat.le_refl, Nat.reduceLeDiff, List.cons_append, List.set_cons_zero, List.getElem?_cons_zero, bdA, fillA, setCells, List.zip_cons_cons, List.zip_nil_right, List.zip_nil_left, Option.map_some, and_self, Nat.le_refl, Nat.reduceLeDiff, List.cons_append, ti26_f0, ti26_f1, ti26_f2, ti26_f3, ti26_f4, ti26_f5, ti26_f6, ti26_f7, ti23_f0, ti23_f1, go_sem]
    exact ⟨H, set_le hle hHk2, h true⟩
  · rename_i hv
    have hv := Classical.not_not.1 hv
    rw [if_pos hv, if_pos hv] at h
    unfold Pk.Valid at hv
    simp only [getM_of hG1', ti26_f0, ti26_f1, ti26_f2, ti26_f3, ti26_f4, ti26_f5, ti26_f6, ti26_f7, ti23_f0, ti23_f1, go_sem]
    split
    · rename_i h15
      rw [if_pos h15, if_pos h15] at h
      simp only [getM_of hG2, getM_of hG1', bd26, cell3, cell4, cell23, cell24, stoA_agg, stoA_get, stoM, setCells, and_self, true_and, Nat.le_refl, Nat.reduceLeDiff, List.cons_append, List.set_cons_zero, List.getElem?_cons_zero, bdA, fillA, setCells, List.zip_cons_cons, List.zip_nil_right, List.zip_nil_left, Option.map_some, and_self, Nat.le_refl, Nat.reduceLeDiff, List.cons_append, ti26_f0, ti26_f1, ti26_f2, ti26_f3, ti26_f4, ti26_f5, ti26_f6, ti26_f7, ti23_f0, ti23_f1, go_sem]
      exact ⟨H, set_le hle hHk2, h true⟩
    · rename_i h15
      rw [if_neg h15, if_neg h15] at h
      simp only [getM_of hG1', getM_of hG1', stoA_agg, stoA_get, stoM, setCells, and_self, true_and, Nat.le_refl, Nat.reduceLeDiff, List.cons_append, List.set_cons_zero, List.getElem?_cons_zero, ti26_f0, ti26_f1, ti26_f2, ti26_f3, ti26_f4, ti26_f5, ti26_f6, ti26_f7, ti23_f0, ti23_f1, go_sem]
      intro n hn
      simp only [bs0, stoA_agg, stoA_get, stoM, setCells, and_self, true_and, Nat.le_refl, Nat.reduceLeDiff, List.cons_append, List.set_cons_zero, List.getElem?_cons_zero, ti26_f0, ti26_f1, ti26_f2, ti26_f3, ti26_f4, ti26_f5, ti26_f6, ti26_f7, ti23_f0, ti23_f1, go_sem]
      rw [wrap_i64 (by omega) (by omega)]
      generalize hB : G2.set k1 _ = B
      have hB1 : B k1 = some (.mem 0 0 10 [[.d (.int .i64 (p.hops + 1)), .d (.int .i64 p.dn), .d (.int .i64 p.dd), .d (.int .i64 p.sn), .d (.int .i64 p.sd), .d (.int .i64 p.ds), .d (.int .i64 p.ss), .d (.int .i64 p.ty), .d (.sl p.nl (bs p.data)), .d (.bool p.sum)]]) := by rw [← hB]; exact set_self
      have hB2 : B k2 = some (.mem 0 0 10 [[.d (.int .i64 0), .d (.int .i64 0), .d (.int .i64 0), .d (.int .i64 0), .d (.int .i64 0), .d (.int .i64 0), .d (.int .i64 0), .d (.int .i64 0), .d (.sl true []), .d (.bool false)]]) := by rw [← hB, set_ne (Ne.symm hne)]; exact hG2
      have hleB : AHeap.le H B := by rw [← hB]; exact set_le hle hk1
      clear hB
      refine (Own.lit (sz := 1) (l := []) le_refl' (by simp)).app (ys := bs p.data) rfl (by decide) (by decide) bs_sz (by rw [bs_length]; simp [mostBytes]; omega) fun v H3 hv3 _ _ hnl3 => ?_
      have hv3' := hv3.upd (o' := .mem 0 0 10 [[.d (.int .i64 (p.hops + 1)), .d (.int .i64 p.dn), .d (.int .i64 p.dd), .d (.int .i64 p.sn), .d (.int .i64 p.sd), .d (.int .i64 p.ds), .d (.int .i64 p.ss), .d (.int .i64 p.ty), v, .d (.bool p.sum)]]) hB1
      obtain ⟨us, e1, _, hle', _⟩ := hv3'.frz
      have hk2' := hle' k2 _ ((set_ne (Ne.symm hne)).trans hB2)
      have hst : v.storable = true ∧ v.cells = [v] := by
        rcases hv3.2.2 with ⟨rfl, _⟩ | rfl | ⟨i, ver, L, rfl, _⟩ <;> exact ⟨rfl, rfl⟩
      simp only [getM_of (hv3.le _ _ hB1), hst.1, hst.2, stoA_agg, stoA_get, stoM, setCells, and_self, true_and, Nat.le_refl, Nat.reduceLeDiff, List.cons_append, List.set_cons_zero, List.getElem?_cons_zero, ti26_f0, ti26_f1, ti26_f2, ti26_f3, ti26_f4, ti26_f5, ti26_f6, ti26_f7, ti23_f0, ti23_f1, go_sem]

      simp only [e1, getM_of hk2', stoA_agg, stoA_get, stoM, setCells, and_self, true_and, Nat.le_refl, Nat.reduceLeDiff, List.cons_append, List.set_cons_zero, List.getElem?_cons_zero, ti26_f0, ti26_f1, ti26_f2, ti26_f3, ti26_f4, ti26_f5, ti26_f6, ti26_f7, ti23_f0, ti23_f1, go_sem]
      refine ⟨H, set_le (le_trans' (set_le hleB hk1) hle') hHk2, ?_⟩
      exact h (nilS v)
theorem hops_law {p : Pk} (hnl : p.nl = true → p.data = []) : CallsA Try.prog 6 [p.av] noHeap fun v _ => v = .d (.bool true) := by
  apply C6
  unfold S6
  refine box_open rfl fun k G hG hle hk => ?_
  simp only [Pk.av, AV.cells] at hG
  simp only [getM_of hG, bs_length, ti26_f0, ti26_f1, ti26_f2, ti26_f3, ti26_f4, ti26_f5, ti26_f6, ti26_f7, ti23_f0, ti23_f1, go_sem]
  split
  · refine awake_c ?_
    simp only [go_sem]
    exact ⟨_, le_refl', rfl⟩
  · rename_i hlen
    refine hop_c (p := p) hnl fun nl => ?_
    simp only [go_sem]
    refine alloc_open fun k2 G2 hG2 hle2 hk2 => ?_
    simp only [getM_of hG2, Pk.av, stoA_agg, stoA_get, stoM, setCells, and_self, true_and, Nat.le_refl, Nat.reduceLeDiff, List.cons_append, List.set_cons_zero, List.getElem?_cons_zero, ti26_f0, ti26_f1, ti26_f2, ti26_f3, ti26_f4, ti26_f5, ti26_f6, ti26_f7, ti23_f0, ti23_f1, go_sem]
    have hne : k ≠ k2 := le_ne hG hk2
    simp only [getM_of (hle2 _ _ hG), hne, ti26_f0, ti26_f1, ti26_f2, ti26_f3, ti26_f4, ti26_f5, ti26_f6, ti26_f7, ti23_f0, ti23_f1, go_sem]
    refine rhop_c (p := p) fun nl' => ?_
    simp only [go_sem]
    refine alloc_open fun k3 G3 hG3 hle3 hk3 => ?_
    have h2 : G3 k2 = _ := hle3 _ _ set_self
    have hne3 : k2 ≠ k3 := le_ne set_self hk3
    simp only [getM_of h2, getM_of hG3, hne3, Pk.av, stoA_agg, stoA_get, stoM, setCells, and_self, true_and, Nat.le_refl, Nat.reduceLeDiff, List.cons_append, List.set_cons_zero, List.getElem?_cons_zero, ti26_f0, ti26_f1, ti26_f2, ti26_f3, ti26_f4, ti26_f5, ti26_f6, ti26_f7, ti23_f0, ti23_f1, go_sem]
    refine rsame_c (p := p.hop.wnl nl) (q := p.hop.wnl nl') ?_ ?_
    · show p.hop.data.length < _
      unfold Pk.hop
      split
      · split
        · decide
        · show p.data.length < _
          omega
      · decide
    · have : (p.hop.wnl nl).Same (p.hop.wnl nl') := ⟨⟨rfl, ⟨rfl, rfl⟩, ⟨rfl, rfl⟩, rfl, rfl, rfl⟩, rfl, rfl⟩
      simp only [this, decide_true, go_sem]
      refine awake_c ?_
      simp only [go_sem]
      exact ⟨_, le_refl', rfl⟩
end Go.Proofs.Ytkpogkmnfakciaa

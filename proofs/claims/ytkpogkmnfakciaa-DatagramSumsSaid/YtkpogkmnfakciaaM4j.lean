/- The laws of datagrams and their bytes. -/
import Derived.Test.YtkpogkmnfakciaaM4i
import Derived.Test.YtkpogkmnfakciaaA24
set_option autoImplicit false
set_option linter.unusedVariables false
set_option linter.unusedSimpArgs false
namespace Go.Proofs.Ytkpogkmnfakciaa
open Go Go.AM Go.Proofs
theorem glE_zero {b : List UInt8} (h : glE b = 0) : glP b = gl b := by unfold glP; rw [if_pos h]
theorem gsE_zero {b : List UInt8} {d s : Int} (h : gsE b d s = 0) : gsP b d s = gs b d s := by unfold gsP; rw [if_pos h]
theorem bytes_law {nl : Bool} {b : List UInt8} {d s : Int} (hnl : nl = true → b = []) (hd : 0 ≤ d ∧ d ≤ 255) (hs : 0 ≤ s ∧ s ≤ 255) : CallsA Try.prog 11 [.d (.sl nl (bs b)), .d (.int .u8 d), .d (.int .u8 s)] noHeap fun v _ => v = .d (.bool true) := by
  apply C11
  unfold S11
  simp only [bs_length, go_sem]
  split
  · exact awake_end
  rename_i hlen
  refine getLong_c (by omega) hnl fun nl1 => ?_
  simp only [go_sem]
  refine alloc_open fun k2 G2 hG2 hle2 hk2 => ?_
  have wd : IntKind.i64.wrap d = d := wrap_i64 (by omega) (by omega)
  have ws : IntKind.i64.wrap s = s := wrap_i64 (by omega) (by omega)
  try simp only [getM_of hG2, Pk.av, wd, ws, stoA_agg, stoA_get, stoM, setCells, and_self, true_and, Nat.le_refl, Nat.reduceLeDiff, List.cons_append, List.set_cons_zero, List.getElem?_cons_zero, ti26_f0, ti26_f1, ti26_f2, ti26_f3, ti26_f4, ti26_f5, ti26_f6, ti26_f7, ti23_f0, ti23_f1, go_sem]
  split
  · rename_i he
    obtain ⟨g1, g2, g3⟩ := long_gl he
    try simp only [go_sem]
    refine long_c (p := (glP b).wnl nl1) fun nl3 _ => ?_
    have e1 : ((glP b).wnl nl1).long = b := by rw [glE_zero he]; exact g1
    have e2 : ((glP b).wnl nl1).longE = 0 := by rw [glE_zero he]; exact g3
    have e3 : ((glP b).wnl nl1).Valid := by rw [glE_zero he]; exact g2
    simp only [e1, e2, bytes_toList, beq_self_eq_true, Bool.not_true, go_sem]
    refine valid_c (p := (glP b).wnl nl1) ?_
    simp only [e3, decide_true, Bool.not_true, not_true_eq_false, wd, ws, go_sem]
    refine getShort_c (by omega) hnl fun nl2 => ?_
    simp only [go_sem]
    refine alloc_open fun k3 G3 hG3 hle3 hk3 => ?_
    try simp only [getM_of hG3, Pk.av, stoA_agg, stoA_get, stoM, setCells, and_self, true_and, Nat.le_refl, Nat.reduceLeDiff, List.cons_append, List.set_cons_zero, List.getElem?_cons_zero, ti26_f0, ti26_f1, ti26_f2, ti26_f3, ti26_f4, ti26_f5, ti26_f6, ti26_f7, ti23_f0, ti23_f1, go_sem]
    split
    · rename_i he
      obtain ⟨g1, g2, g3⟩ := short_gs he
      try simp only [go_sem]
      refine short_c (p := (gsP b d s).wnl nl2) fun nl3 _ => ?_
      have e1 : ((gsP b d s).wnl nl2).short = b := by rw [gsE_zero he]; exact g1
      have e2 : ((gsP b d s).wnl nl2).shortE = 0 := by rw [gsE_zero he]; exact g3
      have e3 : ((gsP b d s).wnl nl2).Valid := by rw [gsE_zero he]; exact g2
      simp only [e1, e2, bytes_toList, beq_self_eq_true, Bool.not_true, go_sem]
      refine valid_c (p := (gsP b d s).wnl nl2) ?_
      simp only [e3, decide_true, Bool.not_true, not_true_eq_false, go_sem]
      exact awake_end
    · exact awake_end
  · skip
    refine getShort_c (by omega) hnl fun nl2 => ?_
    simp only [go_sem]
    refine alloc_open fun k3 G3 hG3 hle3 hk3 => ?_
    try simp only [getM_of hG3, Pk.av, stoA_agg, stoA_get, stoM, setCells, and_self, true_and, Nat.le_refl, Nat.reduceLeDiff, List.cons_append, List.set_cons_zero, List.getElem?_cons_zero, ti26_f0, ti26_f1, ti26_f2, ti26_f3, ti26_f4, ti26_f5, ti26_f6, ti26_f7, ti23_f0, ti23_f1, go_sem]
    split
    · rename_i he
      obtain ⟨g1, g2, g3⟩ := short_gs he
      try simp only [go_sem]
      refine short_c (p := (gsP b d s).wnl nl2) fun nl3 _ => ?_
      have e1 : ((gsP b d s).wnl nl2).short = b := by rw [gsE_zero he]; exact g1
      have e2 : ((gsP b d s).wnl nl2).shortE = 0 := by rw [gsE_zero he]; exact g3
      have e3 : ((gsP b d s).wnl nl2).Valid := by rw [gsE_zero he]; exact g2
      simp only [e1, e2, bytes_toList, beq_self_eq_true, Bool.not_true, go_sem]
      refine valid_c (p := (gsP b d s).wnl nl2) ?_
      simp only [e3, decide_true, Bool.not_true, not_true_eq_false, go_sem]
      exact awake_end
    · exact awake_end
def Pk.mem (p : Pk) : AObj := .mem 0 0 10 [[.d (.int .i64 p.hops), .d (.int .i64 p.dn), .d (.int .i64 p.dd), .d (.int .i64 p.sn), .d (.int .i64 p.sd), .d (.int .i64 p.ds), .d (.int .i64 p.ss), .d (.int .i64 p.ty), .d (.sl p.nl (bs p.data)), .d (.bool p.sum)]]
theorem getP {X : AHeap} {k : Nat} {p : Pk} (h : X k = some p.mem) : getM X k 0 = some (0, 10, [[.d (.int .i64 p.hops), .d (.int .i64 p.dn), .d (.int .i64 p.dd), .d (.int .i64 p.sn), .d (.int .i64 p.sd), .d (.int .i64 p.ds), .d (.int .i64 p.ss), .d (.int .i64 p.ty), .d (.sl p.nl (bs p.data)), .d (.bool p.sum)]]) := getM_of h
theorem same_true {p : Pk} {nl : Bool} : p.Same (p.wnl nl) := ⟨⟨rfl, ⟨rfl, rfl⟩, ⟨rfl, rfl⟩, rfl, rfl, rfl⟩, rfl, rfl⟩
theorem back_law {p : Pk} (hnl : p.nl = true → p.data = []) : CallsA Try.prog 12 [p.av] noHeap fun v _ => v = .d (.bool true) := by
  apply C12
  unfold S12
  refine box_open rfl fun k1 G1 hG1 hle1 hk1 => ?_
  simp only [Pk.av, AV.cells] at hG1
  simp only [getM_of hG1, bs_length, ti26_f0, ti26_f1, ti26_f2, ti26_f3, ti26_f4, ti26_f5, ti26_f6, ti26_f7, ti23_f0, ti23_f1, go_sem]
  split
  · exact awake_end
  rename_i hlen
  try simp only [getM_of hG1, ti26_f0, ti26_f1, ti26_f2, ti26_f3, ti26_f4, ti26_f5, ti26_f6, ti26_f7, ti23_f0, ti23_f1, go_sem]
  refine valid_c (p := p) ?_
  try simp only [getM_of hG1, ti26_f0, ti26_f1, ti26_f2, ti26_f3, ti26_f4, ti26_f5, ti26_f6, ti26_f7, ti23_f0, ti23_f1, go_sem]
  split
  · exact awake_end
  rename_i hv
  have hv : p.Valid := Classical.not_not.1 hv
  have hl := long_len hv
  have hv' := hv
  unfold Pk.Valid at hv'
  obtain ⟨l1, l2⟩ := gl_long hv
  have l3 : p.longE = 0 := by unfold Pk.longE; rw [if_pos hv]
  try simp only [go_sem]
  refine long_c (p := p) fun nl1 hnl1 => ?_
  try simp only [l3, go_sem]
  refine getLong_c (by omega) hnl1 fun nl2 => ?_
  have l4 : (glP p.long).wnl nl2 = p.wnl nl2 := by rw [glE_zero l1, l2]; rfl
  rw [l1, l4]
  try simp only [go_sem]
  refine alloc_open fun k2 G2 hG2 hle2 hk2 => ?_
  have hne2 : k1 ≠ k2 := le_ne hG1 hk2
  try simp only [getM_of hG2, getM_of (hle2 _ _ hG1), hne2, ne_eq, not_true_eq_false, Pk.av, stoA_agg, stoA_get, stoM, setCells, and_self, true_and, Nat.le_refl, Nat.reduceLeDiff, List.cons_append, List.set_cons_zero, List.getElem?_cons_zero, ti26_f0, ti26_f1, ti26_f2, ti26_f3, ti26_f4, ti26_f5, ti26_f6, ti26_f7, ti23_f0, ti23_f1, go_sem]
  refine same_c (p := p) (q := p.wnl nl2) (by omega) ?_
  generalize hX : G2.set k2 _ = X
  have hX1 : X k1 = some p.mem := by rw [← hX]; exact (set_ne hne2).trans (hle2 _ _ hG1)
  clear hX
  try simp only [same_true, decide_true, Bool.not_true, not_true_eq_false, getP hX1, ti26_f0, ti26_f1, ti26_f2, ti26_f3, ti26_f4, ti26_f5, ti26_f6, ti26_f7, ti23_f0, ti23_f1, go_sem]
  refine short_c (p := p) fun nl3 hnl3 => ?_
  try simp only [getP hX1, ti26_f0, ti26_f1, ti26_f2, ti26_f3, ti26_f4, ti26_f5, ti26_f6, ti26_f7, ti23_f0, ti23_f1, go_sem]
  split
  · rename_i hs0
    have hs : p.Shorts := Classical.byContradiction fun hn => by unfold Pk.shortE at hs0; rw [if_neg hn] at hs0; cases hs0
    obtain ⟨s1, s2⟩ := gs_short hs
    try simp only [getP hX1, ti26_f0, ti26_f1, ti26_f2, ti26_f3, ti26_f4, ti26_f5, ti26_f6, ti26_f7, ti23_f0, ti23_f1, go_sem]
    refine getShort_c (by rw [show p.short.length = 5 + p.data.length by unfold Pk.short; rw [if_pos hs]; simp; omega]; omega) hnl3 fun nl4 => ?_
    have s4 : (gsP p.short p.dd p.sd).wnl nl4 = p.wnl nl4 := by rw [gsE_zero s1, s2]; rfl
    rw [s1, s4]
    try simp only [go_sem]
    refine alloc_open fun k3 G3 hG3 hle3 hk3 => ?_
    have hne3 : k1 ≠ k3 := le_ne hX1 hk3
    try simp only [getM_of hG3, getP (hle3 _ _ hX1), hne3, ne_eq, not_true_eq_false, Pk.av, stoA_agg, stoA_get, stoM, setCells, and_self, true_and, Nat.le_refl, Nat.reduceLeDiff, List.cons_append, List.set_cons_zero, List.getElem?_cons_zero, ti26_f0, ti26_f1, ti26_f2, ti26_f3, ti26_f4, ti26_f5, ti26_f6, ti26_f7, ti23_f0, ti23_f1, go_sem]
    refine same_c (p := p) (q := p.wnl nl4) (by omega) ?_
    generalize hY : G3.set k3 _ = Y
    have hY1 : Y k1 = some p.mem := by rw [← hY]; exact (set_ne hne3).trans (hle3 _ _ hX1)
    clear hY
    try simp only [same_true, decide_true, Bool.not_true, not_true_eq_false, getP hY1, ti26_f0, ti26_f1, ti26_f2, ti26_f3, ti26_f4, ti26_f5, ti26_f6, ti26_f7, ti23_f0, ti23_f1, go_sem]
    refine hop_c (p := p) hnl fun nl5 => ?_
    try simp only [go_sem]
    refine alloc_open fun k5 G5 hG5 hle5 hk5 => ?_
    try simp only [getM_of hG5, Pk.av, stoA_agg, stoA_get, stoM, setCells, and_self, true_and, Nat.le_refl, Nat.reduceLeDiff, List.cons_append, List.set_cons_zero, List.getElem?_cons_zero, ti26_f0, ti26_f1, ti26_f2, ti26_f3, ti26_f4, ti26_f5, ti26_f6, ti26_f7, ti23_f0, ti23_f1, go_sem]
    split
    · rename_i he
      obtain ⟨q1, q2, q3⟩ := hop_long hv he
      try simp only [go_sem]
      refine long_c (p := p.hop.wnl nl5) fun nl6 hnl6 => ?_
      have r1 : (p.hop.wnl nl5).long = p.hop.long := rfl
      have r2 : (p.hop.wnl nl5).longE = 0 := q3
      have e5 : ∀ X, sliceA 1 (.d (.sl nl6 (bs p.hop.long))) (some (.d (.int .i64 2))) none none X = some (.d (.sl nl6 (bs (p.long.drop 2)))) := fun X => by rw [slice_lo (by decide) (by omega)]; exact congrArg _ (congrArg _ (congrArg _ (congrArg bs q2)))
      have e6 : ∀ X, sliceA 1 (.d (.sl nl1 (bs p.long))) (some (.d (.int .i64 2))) none none X = some (.d (.sl nl1 (bs (p.long.drop 2)))) := fun X => slice_lo (by decide) (by omega)
      simp only [r1, r2, q1, e5, e6, bs_length, bytes_toList, beq_self_eq_true, Bool.not_true, not_true_eq_false, ne_eq, go_sem]
      exact awake_end
    · exact awake_end
  · try simp only [getP hX1, ti26_f0, ti26_f1, ti26_f2, ti26_f3, ti26_f4, ti26_f5, ti26_f6, ti26_f7, ti23_f0, ti23_f1, go_sem]
    refine hop_c (p := p) hnl fun nl5 => ?_
    try simp only [go_sem]
    refine alloc_open fun k5 G5 hG5 hle5 hk5 => ?_
    try simp only [getM_of hG5, Pk.av, stoA_agg, stoA_get, stoM, setCells, and_self, true_and, Nat.le_refl, Nat.reduceLeDiff, List.cons_append, List.set_cons_zero, List.getElem?_cons_zero, ti26_f0, ti26_f1, ti26_f2, ti26_f3, ti26_f4, ti26_f5, ti26_f6, ti26_f7, ti23_f0, ti23_f1, go_sem]
    split
    · rename_i he
      obtain ⟨q1, q2, q3⟩ := hop_long hv he
      try simp only [go_sem]
      refine long_c (p := p.hop.wnl nl5) fun nl6 hnl6 => ?_
      have r1 : (p.hop.wnl nl5).long = p.hop.long := rfl
      have r2 : (p.hop.wnl nl5).longE = 0 := q3
      have e5 : ∀ X, sliceA 1 (.d (.sl nl6 (bs p.hop.long))) (some (.d (.int .i64 2))) none none X = some (.d (.sl nl6 (bs (p.long.drop 2)))) := fun X => by rw [slice_lo (by decide) (by omega)]; exact congrArg _ (congrArg _ (congrArg _ (congrArg bs q2)))
      have e6 : ∀ X, sliceA 1 (.d (.sl nl1 (bs p.long))) (some (.d (.int .i64 2))) none none X = some (.d (.sl nl1 (bs (p.long.drop 2)))) := fun X => slice_lo (by decide) (by omega)
      simp only [r1, r2, q1, e5, e6, bs_length, bytes_toList, beq_self_eq_true, Bool.not_true, not_true_eq_false, ne_eq, go_sem]
      exact awake_end
    · exact awake_end
end Go.Proofs.Ytkpogkmnfakciaa

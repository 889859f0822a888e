/- What more functions compute: long datagrams read. -/
import Derived.Test.YtkpogkmnfakciaaM4f
set_option autoImplicit false
set_option linter.unusedVariables false
set_option linter.unusedSimpArgs false
namespace Go.Proofs.Ytkpogkmnfakciaa
open Go Go.AM Go.Proofs
def gl (b : List UInt8) : Pk := ⟨num b 0 / 1024, num b 4, bt b 8, num b 6, bt b 9, bt b 10, bt b 11, bt b 12, true, b.drop 13, decide (num b 2 ≠ 0)⟩
def glE (b : List UInt8) : Int :=
  if b.length < 13 ∨ (b.length : Int) < num b 0 % 1024 then 6 else if (b.length : Int) ≠ num b 0 % 1024 ∨ ¬ (gl b).Valid then 3 else if num b 2 ≠ 0 ∧ num b 2 ≠ osum (b.drop 4) then 10 else 0
def glP (b : List UInt8) : Pk := if glE b = 0 then gl b else .zero
theorem and1023 {n : Int} (h0 : 0 ≤ n) (h1 : n < 65536) : IntKind.i64.wrap (BitVec.ofInt 64 n &&& BitVec.ofInt 64 1023).toNat = n % 1024 := by
  obtain ⟨x, rfl⟩ := Int.eq_ofNat_of_zero_le h0
  have e1 : (BitVec.ofInt 64 (x : Int)).toNat = x := by
    rw [BitVec.toNat_ofInt]; simp; omega
  have e2 : (BitVec.ofInt 64 (1023 : Int)).toNat = 1023 := by
    rw [BitVec.toNat_ofInt]; simp
  rw [BitVec.toNat_and, e1, e2]
  have e3 : x &&& 1023 = x % 1024 := Nat.and_two_pow_sub_one_eq_mod x 10
  rw [e3, wrap_i64 (by omega) (by omega)]
  omega
theorem shr10 {n : Int} : n.fdiv (2 ^ min (10 : Int).toNat 64) = n / 1024 := by
  rw [show (2 : Int) ^ min (10 : Int).toNat 64 = 1024 from rfl, Int.fdiv_eq_ediv_of_nonneg _ (by decide)]
theorem getLong_c {nl : Bool} {b : List UInt8} (hl : b.length < 2 ^ 40) (hnl : nl = true → b = []) {H : AHeap} {K : AV → AHeap → Prop} (h : ∀ nl, K (.tup [((glP b).wnl nl).av, .d (.int .i64 (glE b))]) H) :
    CallsA Try.prog 28 [.d (.sl nl (bs b))] H K := by
  apply C28
  unfold S28
  refine box_open rfl fun k1 G1 hG1 hle1 hk1 => ?_
  refine alloc_open fun k G hG hle2 hk2 => ?_
  have hb1 : G k1 = some (.mem 0 0 1 [[.d (.sl nl (bs b))]]) := hle2 _ _ hG1
  have hle := le_trans' hle1 hle2
  have hk := le_none hle1 hk2
  have hne1 : k1 ≠ k := le_ne hG1 hk2
  have bad : ∀ e : Int, e ≠ 0 → glE b = e → K (.tup [(Pk.zero.wnl true).av, .d (.int .i64 e)]) H := fun e h0 he => by
    have := h true
    unfold glP at this
    rw [he, if_neg h0] at this
    exact this
  try simp only [getM_of hb1, bs_length, go_sem]
  split
  · rename_i h3
    try simp only [getM_of hG, bd26, cell3, cell4, cell23, cell24, stoA_agg, stoA_get, stoM, setCells, and_self, true_and, Nat.le_refl, Nat.reduceLeDiff, List.cons_append, List.set_cons_zero, List.getElem?_cons_zero, bdA, fillA, setCells, List.zip_cons_cons, List.zip_nil_right, List.zip_nil_left, Option.map_some, and_self, Nat.le_refl, Nat.reduceLeDiff, List.cons_append, ti26_f0, ti26_f1, ti26_f2, ti26_f3, ti26_f4, ti26_f5, ti26_f6, ti26_f7, ti23_f0, ti23_f1, go_sem]
    exact ⟨H, set_le hle hk, bad 6 (by decide) (by unfold glE; rw [if_pos (by omega)])⟩
  rename_i h3
  try simp only [go_sem]
  refine get_c (by omega) (by omega) hl hb1 ?_
  try simp only [go_sem]
  refine get_c (by omega) (by omega) hl hb1 ?_
  have n0 := num_bd (b := b) (i := 0)
  have n2 := num_bd (b := b) (i := 2)
  try simp only [getM_of hb1, bs_length, intA_and, intA_shr (b := 10) (by decide), shr10, go_sem]
  erw [and1023 n0.1 (by omega : num b 0 < 65536)]
  split
  · rename_i h4
    try simp only [getM_of hG, bd26, cell3, cell4, cell23, cell24, stoA_agg, stoA_get, stoM, setCells, and_self, true_and, Nat.le_refl, Nat.reduceLeDiff, List.cons_append, List.set_cons_zero, List.getElem?_cons_zero, bdA, fillA, setCells, List.zip_cons_cons, List.zip_nil_right, List.zip_nil_left, Option.map_some, and_self, Nat.le_refl, Nat.reduceLeDiff, List.cons_append, ti26_f0, ti26_f1, ti26_f2, ti26_f3, ti26_f4, ti26_f5, ti26_f6, ti26_f7, ti23_f0, ti23_f1, go_sem]
    exact ⟨H, set_le hle hk, bad 6 (by decide) (by unfold glE; rw [if_pos (by omega)])⟩
  rename_i h4
  have hw : ∀ i, IntKind.i64.wrap (bt b i) = bt b i := fun i => wrap_i64 (by have := bt_bd (b := b) (i := i); omega) (by have := bt_bd (b := b) (i := i); omega)
  try simp only [go_sem]
  refine ⟨_, get_c (by omega) (by omega) hl hb1 ⟨rfl, le_refl'⟩, ?_⟩
  try simp only [getM_of hb1, sl_at (nl := nl) (b := b) (i := 8) (by omega) (by omega), hw, bd23, cell3, bdA, fillA, setCells, List.zip_cons_cons, List.zip_nil_right, List.zip_nil_left, Option.map_some, and_self, Nat.le_refl, Nat.reduceLeDiff, List.cons_append, go_sem]
  refine ⟨_, get_c (by omega) (by omega) hl hb1 ⟨rfl, le_refl'⟩, ?_⟩
  try simp only [getM_of hb1, sl_at (nl := nl) (b := b) (i := 9) (by omega) (by omega), sl_at (nl := nl) (b := b) (i := 10) (by omega) (by omega), sl_at (nl := nl) (b := b) (i := 11) (by omega) (by omega), sl_at (nl := nl) (b := b) (i := 12) (by omega) (by omega), slice_lo (nl := nl) (b := b) (k := 13) (by omega) (by omega), hw, bd23, cell3, bdA, fillA, setCells, List.zip_cons_cons, List.zip_nil_right, List.zip_nil_left, Option.map_some, and_self, Nat.le_refl, Nat.reduceLeDiff, List.cons_append, go_sem]
  have hnl' : nl = false := by cases nl with | false => rfl | true => have := hnl rfl; subst this; simp at h3
  subst hnl'
  refine ⟨_, clone_c (by simp; omega) (by simp) ⟨rfl, le_refl'⟩, ?_⟩
  try simp only [bd26, cell3, cell4, cell23, cell24, bdA, fillA, setCells, List.zip_cons_cons, List.zip_nil_right, List.zip_nil_left, Option.map_some, and_self, Nat.le_refl, Nat.reduceLeDiff, List.cons_append, go_sem]
  refine alloc_open fun k3 G2 hG2 hle3 hk3 => ?_
  have hHk3 := le_none hle hk3
  have hleH := le_trans' hle hle3
  have hkk := hle3 _ _ hG
  have hb3 := hle3 _ _ hb1
  have hne : k ≠ k3 := le_ne hG hk3
  have hne13 : k1 ≠ k3 := le_ne hb1 hk3
  try simp only [getM_of hG2, getM_of hkk, getM_of hb3, hne, hne13, bs_length, bd26, cell3, cell4, cell23, cell24, stoA_agg, stoA_get, stoM, setCells, and_self, true_and, Nat.le_refl, Nat.reduceLeDiff, List.cons_append, List.set_cons_zero, List.getElem?_cons_zero, bdA, fillA, setCells, List.zip_cons_cons, List.zip_nil_right, List.zip_nil_left, Option.map_some, and_self, Nat.le_refl, Nat.reduceLeDiff, List.cons_append, ti26_f0, ti26_f1, ti26_f2, ti26_f3, ti26_f4, ti26_f5, ti26_f6, ti26_f7, ti23_f0, ti23_f1, go_sem]
  split
  · rename_i h5
    try simp only [getM_of hkk, hne, bd26, cell3, cell4, cell23, cell24, stoA_agg, stoA_get, stoM, setCells, and_self, true_and, Nat.le_refl, Nat.reduceLeDiff, List.cons_append, List.set_cons_zero, List.getElem?_cons_zero, bdA, fillA, setCells, List.zip_cons_cons, List.zip_nil_right, List.zip_nil_left, Option.map_some, and_self, Nat.le_refl, Nat.reduceLeDiff, List.cons_append, ti26_f0, ti26_f1, ti26_f2, ti26_f3, ti26_f4, ti26_f5, ti26_f6, ti26_f7, ti23_f0, ti23_f1, go_sem]
    exact ⟨H, set_le (set_le hleH hHk3) hk, bad 3 (by decide) (by unfold glE; rw [if_neg (by omega), if_pos (.inl h5)])⟩
  rename_i h5
  try simp only [go_sem]
  refine valid_c (p := (gl b).wnl false) ?_
  try simp only [getM_of hkk, hne, bd26, cell3, cell4, cell23, cell24, stoA_agg, stoA_get, stoM, setCells, and_self, true_and, Nat.le_refl, Nat.reduceLeDiff, List.cons_append, List.set_cons_zero, List.getElem?_cons_zero, bdA, fillA, setCells, List.zip_cons_cons, List.zip_nil_right, List.zip_nil_left, Option.map_some, and_self, Nat.le_refl, Nat.reduceLeDiff, List.cons_append, ti26_f0, ti26_f1, ti26_f2, ti26_f3, ti26_f4, ti26_f5, ti26_f6, ti26_f7, ti23_f0, ti23_f1, go_sem]
  split
  · rename_i h6
    try simp only [getM_of hkk, hne, bd26, cell3, cell4, cell23, cell24, stoA_agg, stoA_get, stoM, setCells, and_self, true_and, Nat.le_refl, Nat.reduceLeDiff, List.cons_append, List.set_cons_zero, List.getElem?_cons_zero, bdA, fillA, setCells, List.zip_cons_cons, List.zip_nil_right, List.zip_nil_left, Option.map_some, and_self, Nat.le_refl, Nat.reduceLeDiff, List.cons_append, ti26_f0, ti26_f1, ti26_f2, ti26_f3, ti26_f4, ti26_f5, ti26_f6, ti26_f7, ti23_f0, ti23_f1, go_sem]
    exact ⟨H, set_le (set_le hleH hHk3) hk, bad 3 (by decide) (by unfold glE; rw [if_neg (by omega), if_pos (.inr h6)])⟩
  rename_i h6
  have h6 : (gl b).Valid := Classical.not_not.1 h6
  have h56 : ¬ ((b.length : Int) ≠ num b 0 % 1024 ∨ ¬ (gl b).Valid) := fun h => h.elim h5 fun h => h h6
  have good : (num b 2 ≠ 0 ∧ num b 2 ≠ osum (b.drop 4) → False) → K (.tup [((gl b).wnl false).av, .d (.int .i64 0)]) H := fun hn => by
    have he : glE b = 0 := by unfold glE; rw [if_neg (by omega), if_neg h56, if_neg hn]
    have := h false
    unfold glP at this
    rw [he, if_pos rfl] at this
    exact this
  try simp only [getM_of hkk, getM_of hb3, hne, hne13, slice_lo (nl := false) (b := b) (k := 4) (by omega) (by omega), bd26, cell3, cell4, cell23, cell24, stoA_agg, stoA_get, stoM, setCells, and_self, true_and, Nat.le_refl, Nat.reduceLeDiff, List.cons_append, List.set_cons_zero, List.getElem?_cons_zero, bdA, fillA, setCells, List.zip_cons_cons, List.zip_nil_right, List.zip_nil_left, Option.map_some, and_self, Nat.le_refl, Nat.reduceLeDiff, List.cons_append, ti26_f0, ti26_f1, ti26_f2, ti26_f3, ti26_f4, ti26_f5, ti26_f6, ti26_f7, ti23_f0, ti23_f1, go_sem]
  split
  · rename_i h7
    try simp only [go_sem]
    refine sum_c (by simp; omega) ?_
    try simp only [go_sem]
    split
    · rename_i h8
      try simp only [getM_of hkk, hne, bd26, cell3, cell4, cell23, cell24, stoA_agg, stoA_get, stoM, setCells, and_self, true_and, Nat.le_refl, Nat.reduceLeDiff, List.cons_append, List.set_cons_zero, List.getElem?_cons_zero, bdA, fillA, setCells, List.zip_cons_cons, List.zip_nil_right, List.zip_nil_left, Option.map_some, and_self, Nat.le_refl, Nat.reduceLeDiff, List.cons_append, ti26_f0, ti26_f1, ti26_f2, ti26_f3, ti26_f4, ti26_f5, ti26_f6, ti26_f7, ti23_f0, ti23_f1, go_sem]
      exact ⟨H, set_le (set_le hleH hHk3) hk, bad 10 (by decide) (by unfold glE; rw [if_neg (by omega), if_neg h56, if_pos ⟨h7, h8⟩])⟩
    · rename_i h8
      try simp only [getM_of hkk, hne, bd26, cell3, cell4, cell23, cell24, stoA_agg, stoA_get, stoM, setCells, and_self, true_and, Nat.le_refl, Nat.reduceLeDiff, List.cons_append, List.set_cons_zero, List.getElem?_cons_zero, bdA, fillA, setCells, List.zip_cons_cons, List.zip_nil_right, List.zip_nil_left, Option.map_some, and_self, Nat.le_refl, Nat.reduceLeDiff, List.cons_append, ti26_f0, ti26_f1, ti26_f2, ti26_f3, ti26_f4, ti26_f5, ti26_f6, ti26_f7, ti23_f0, ti23_f1, go_sem]
      exact ⟨H, set_le (set_le hleH hHk3) hk, good fun hh => h8 hh.2⟩
  · rename_i h7
    try simp only [getM_of hkk, hne, bd26, cell3, cell4, cell23, cell24, stoA_agg, stoA_get, stoM, setCells, and_self, true_and, Nat.le_refl, Nat.reduceLeDiff, List.cons_append, List.set_cons_zero, List.getElem?_cons_zero, bdA, fillA, setCells, List.zip_cons_cons, List.zip_nil_right, List.zip_nil_left, Option.map_some, and_self, Nat.le_refl, Nat.reduceLeDiff, List.cons_append, ti26_f0, ti26_f1, ti26_f2, ti26_f3, ti26_f4, ti26_f5, ti26_f6, ti26_f7, ti23_f0, ti23_f1, go_sem]
    exact ⟨H, set_le (set_le hleH hHk3) hk, good fun hh => h7 hh.1⟩
theorem rgetLong_c {nl : Bool} {b : List UInt8} (hl : b.length < 2 ^ 40) {H : AHeap} {K : AV → AHeap → Prop} (h : ∀ nl, K (.tup [((glP b).wnl nl).av, .d (.int .i64 (glE b))]) H) :
    CallsA Try.prog 29 [.d (.sl nl (bs b))] H K := by
  apply C29
  unfold S29
  refine alloc_open fun k G hG hle hk => ?_
  have bad : ∀ e : Int, e ≠ 0 → glE b = e → K (.tup [(Pk.zero.wnl true).av, .d (.int .i64 e)]) H := fun e h0 he => by
    have := h true
    unfold glP at this
    rw [he, if_neg h0] at this
    exact this
  try simp only [bs_length, go_sem]
  split
  · rename_i h3
    try simp only [getM_of hG, bd26, cell3, cell4, cell23, cell24, stoA_agg, stoA_get, stoM, setCells, and_self, true_and, Nat.le_refl, Nat.reduceLeDiff, List.cons_append, List.set_cons_zero, List.getElem?_cons_zero, bdA, fillA, setCells, List.zip_cons_cons, List.zip_nil_right, List.zip_nil_left, Option.map_some, and_self, Nat.le_refl, Nat.reduceLeDiff, List.cons_append, ti26_f0, ti26_f1, ti26_f2, ti26_f3, ti26_f4, ti26_f5, ti26_f6, ti26_f7, ti23_f0, ti23_f1, go_sem]
    exact ⟨H, set_le hle hk, bad 6 (by decide) (by unfold glE; rw [if_pos (by omega)])⟩
  rename_i h3
  have n0 := num_bd (b := b) (i := 0)
  have n2 := num_bd (b := b) (i := 2)
  try simp only [go_sem]
  refine number_c (by omega) (by omega) hl ?_
  try simp only [intA_rem (b := 1024) (by decide), Int.tmod_eq_emod_of_nonneg n0.1, bs_length, go_sem]
  split
  · rename_i h4
    try simp only [getM_of hG, bd26, cell3, cell4, cell23, cell24, stoA_agg, stoA_get, stoM, setCells, and_self, true_and, Nat.le_refl, Nat.reduceLeDiff, List.cons_append, List.set_cons_zero, List.getElem?_cons_zero, bdA, fillA, setCells, List.zip_cons_cons, List.zip_nil_right, List.zip_nil_left, Option.map_some, and_self, Nat.le_refl, Nat.reduceLeDiff, List.cons_append, ti26_f0, ti26_f1, ti26_f2, ti26_f3, ti26_f4, ti26_f5, ti26_f6, ti26_f7, ti23_f0, ti23_f1, go_sem]
    exact ⟨H, set_le hle hk, bad 6 (by decide) (by unfold glE; rw [if_pos (by omega)])⟩
  rename_i h4
  have hw : ∀ i, IntKind.i64.wrap (bt b i) = bt b i := fun i => wrap_i64 (by have := bt_bd (b := b) (i := i); omega) (by have := bt_bd (b := b) (i := i); omega)
  try simp only [go_sem]
  refine ⟨_, number_c (by omega) (by omega) hl ⟨rfl, le_refl'⟩, ?_⟩
  have hq : IntKind.i64.wrap (num b 0 / 1024) = num b 0 / 1024 := wrap_i64 (by omega) (by omega)
  try simp only [intA_quo (b := 1024) (by decide), Int.tdiv_eq_ediv_of_nonneg n0.1, hq, go_sem]
  refine ⟨_, number_c (by omega) (by omega) hl ⟨rfl, le_refl'⟩, ?_⟩
  try simp only [sl_at (nl := nl) (b := b) (i := 8) (by omega) (by omega), hw, bd23, cell3, bdA, fillA, setCells, List.zip_cons_cons, List.zip_nil_right, List.zip_nil_left, Option.map_some, and_self, Nat.le_refl, Nat.reduceLeDiff, List.cons_append, go_sem]
  refine ⟨_, number_c (by omega) (by omega) hl ⟨rfl, le_refl'⟩, ?_⟩
  try simp only [sl_at (nl := nl) (b := b) (i := 9) (by omega) (by omega), sl_at (nl := nl) (b := b) (i := 10) (by omega) (by omega), sl_at (nl := nl) (b := b) (i := 11) (by omega) (by omega), sl_at (nl := nl) (b := b) (i := 12) (by omega) (by omega), hw, bd23, cell3, bdA, fillA, setCells, List.zip_cons_cons, List.zip_nil_right, List.zip_nil_left, Option.map_some, and_self, Nat.le_refl, Nat.reduceLeDiff, List.cons_append, go_sem]
  refine ⟨_, number_c (by omega) (by omega) hl ⟨rfl, le_refl'⟩, ?_⟩
  try simp only [bd26, cell3, cell4, cell23, cell24, bdA, fillA, setCells, List.zip_cons_cons, List.zip_nil_right, List.zip_nil_left, Option.map_some, and_self, Nat.le_refl, Nat.reduceLeDiff, List.cons_append, go_sem]
  refine alloc_open fun k2 G2 hG2 hle2 hk2 => ?_
  have hHk2 := le_none hle hk2
  have hleH := le_trans' hle hle2
  have hk1 := hle2 _ _ hG
  have hne : k ≠ k2 := le_ne hG hk2
  try simp only [getM_of hG2, getM_of hk1, hne, bs_length, bd23, bd26, cell3, cell4, cell23, cell24, stoA_agg, stoA_get, stoM, setCells, and_self, true_and, Nat.le_refl, Nat.reduceLeDiff, List.cons_append, List.set_cons_zero, List.getElem?_cons_zero, bdA, fillA, setCells, List.zip_cons_cons, List.zip_nil_right, List.zip_nil_left, Option.map_some, and_self, Nat.le_refl, Nat.reduceLeDiff, List.cons_append, ti26_f0, ti26_f1, ti26_f2, ti26_f3, ti26_f4, ti26_f5, ti26_f6, ti26_f7, ti23_f0, ti23_f1, go_sem]
  intro n hn
  try simp only [bs0, slice_lo (nl := nl) (b := b) (k := 13) (by omega) (by omega), stoA_agg, stoA_get, stoM, setCells, and_self, true_and, Nat.le_refl, Nat.reduceLeDiff, List.cons_append, List.set_cons_zero, List.getElem?_cons_zero, ti26_f0, ti26_f1, ti26_f2, ti26_f3, ti26_f4, ti26_f5, ti26_f6, ti26_f7, ti23_f0, ti23_f1, go_sem]
  generalize hB : G2.set k2 _ = B
  have hB1 : B k = some (.mem 0 0 10 [[.d (.int .i64 0), .d (.int .i64 0), .d (.int .i64 0), .d (.int .i64 0), .d (.int .i64 0), .d (.int .i64 0), .d (.int .i64 0), .d (.int .i64 0), .d (.sl true []), .d (.bool false)]]) := by rw [← hB, set_ne hne]; exact hk1
  have hB2 : B k2 = some (.mem 0 0 10 [[.d (.int .i64 (num b 0 / 1024)), .d (.int .i64 (num b 4)), .d (.int .i64 (bt b 8)), .d (.int .i64 (num b 6)), .d (.int .i64 (bt b 9)), .d (.int .i64 (bt b 10)), .d (.int .i64 (bt b 11)), .d (.int .i64 (bt b 12)), .d (.sl true []), .d (.bool (decide (num b 2 ≠ 0)))]]) := by rw [← hB]; simp only [ne_eq, go_sem]
  have hleB : AHeap.le H B := by rw [← hB]; exact set_le hleH hHk2
  clear hB
  refine (Own.lit (sz := 1) (l := []) le_refl' (by simp)).app (ys := bs (b.drop 13)) rfl (by decide) (by decide) bs_sz (by rw [bs_length]; simp [mostBytes]; omega) fun v H3 hv3 _ _ hnl3 => ?_
  have hst : v.storable = true ∧ v.cells = [v] := by
    rcases hv3.2.2 with ⟨rfl, _⟩ | rfl | ⟨i, ver, L, rfl, _⟩ <;> exact ⟨rfl, rfl⟩
  have hv3' := hv3.upd (o' := .mem 0 0 10 [[.d (.int .i64 (num b 0 / 1024)), .d (.int .i64 (num b 4)), .d (.int .i64 (bt b 8)), .d (.int .i64 (num b 6)), .d (.int .i64 (bt b 9)), .d (.int .i64 (bt b 10)), .d (.int .i64 (bt b 11)), .d (.int .i64 (bt b 12)), v, .d (.bool (decide (num b 2 ≠ 0)))]]) hB2
  simp only [getM_of (hv3.le _ _ hB2), hst.1, hst.2, stoA_agg, stoA_get, stoM, setCells, and_self, true_and, Nat.le_refl, Nat.reduceLeDiff, List.cons_append, List.set_cons_zero, List.getElem?_cons_zero, ti26_f0, ti26_f1, ti26_f2, ti26_f3, ti26_f4, ti26_f5, ti26_f6, ti26_f7, ti23_f0, ti23_f1, go_sem]
  have hW1 : ∀ o, (H3.set k2 o) k = _ := fun o => (set_ne hne).trans (hv3.le _ _ hB1)
  have hW2 : ∀ o, AHeap.le H (H3.set k2 o) := fun o => set_le (le_trans' hleB hv3.le) hHk2
  split
  · rename_i h5
    try simp only [getM_of (hW1 _), hne, bd26, cell3, cell4, cell23, cell24, stoA_agg, stoA_get, stoM, setCells, and_self, true_and, Nat.le_refl, Nat.reduceLeDiff, List.cons_append, List.set_cons_zero, List.getElem?_cons_zero, bdA, fillA, setCells, List.zip_cons_cons, List.zip_nil_right, List.zip_nil_left, Option.map_some, and_self, Nat.le_refl, Nat.reduceLeDiff, List.cons_append, ti26_f0, ti26_f1, ti26_f2, ti26_f3, ti26_f4, ti26_f5, ti26_f6, ti26_f7, ti23_f0, ti23_f1, go_sem]
    exact ⟨H, set_le (hW2 _) hk, bad 3 (by decide) (by unfold glE; rw [if_neg (by omega), if_pos (.inl h5)])⟩
  rename_i h5
  obtain ⟨us, e1, _, hle', _⟩ := hv3'.frz
  have hk1' := hle' k _ ((set_ne hne).trans hB1)
  have hk2' := hle' k2 _ set_self
  have hHU := le_trans' (set_le hleB hHk2) hle'
  obtain ⟨us2, e3, hle2'⟩ := hv3'.frz2 e1
  have hk1'' := hle2' k _ ((set_ne hne).trans hB1)
  have hHU2 := le_trans' (set_le hleB hHk2) hle2'
  simp only [ne_eq] at e1 e3 hk1' hk2' hk1'' hHU hHU2
  simp only [e1, ti26_f0, ti26_f1, ti26_f2, ti26_f3, ti26_f4, ti26_f5, ti26_f6, ti26_f7, ti23_f0, ti23_f1, go_sem]
  refine rvalid_c (p := (gl b).wnl (nilS v)) ?_
  try simp only [getM_of hk1', getM_of hk2', hne, bd26, cell3, cell4, cell23, cell24, stoA_agg, stoA_get, stoM, setCells, and_self, true_and, Nat.le_refl, Nat.reduceLeDiff, List.cons_append, List.set_cons_zero, List.getElem?_cons_zero, bdA, fillA, setCells, List.zip_cons_cons, List.zip_nil_right, List.zip_nil_left, Option.map_some, and_self, Nat.le_refl, Nat.reduceLeDiff, List.cons_append, ti26_f0, ti26_f1, ti26_f2, ti26_f3, ti26_f4, ti26_f5, ti26_f6, ti26_f7, ti23_f0, ti23_f1, go_sem]
  split
  · rename_i h6
    try simp only [getM_of hk1', hne, bd26, cell3, cell4, cell23, cell24, stoA_agg, stoA_get, stoM, setCells, and_self, true_and, Nat.le_refl, Nat.reduceLeDiff, List.cons_append, List.set_cons_zero, List.getElem?_cons_zero, bdA, fillA, setCells, List.zip_cons_cons, List.zip_nil_right, List.zip_nil_left, Option.map_some, and_self, Nat.le_refl, Nat.reduceLeDiff, List.cons_append, ti26_f0, ti26_f1, ti26_f2, ti26_f3, ti26_f4, ti26_f5, ti26_f6, ti26_f7, ti23_f0, ti23_f1, go_sem]
    exact ⟨H, set_le hHU hk, bad 3 (by decide) (by unfold glE; rw [if_neg (by omega), if_pos (.inr h6)])⟩
  rename_i h6
  have h6 : (gl b).Valid := Classical.not_not.1 h6
  have h56 : ¬ ((b.length : Int) ≠ num b 0 % 1024 ∨ ¬ (gl b).Valid) := fun h => h.elim h5 fun h => h h6
  have good : (num b 2 ≠ 0 ∧ num b 2 ≠ osum (b.drop 4) → False) → K (.tup [((gl b).wnl (nilS v)).av, .d (.int .i64 0)]) H := fun hn => by
    have he : glE b = 0 := by unfold glE; rw [if_neg (by omega), if_neg h56, if_neg hn]
    have := h (nilS v)
    unfold glP at this
    rw [he, if_pos rfl] at this
    exact this
  simp only [Pk.av, Pk.wnl, gl, ne_eq] at good
  try simp only [getM_of hk1', getM_of hk2', hne, slice_lo (nl := nl) (b := b) (k := 4) (by omega) (by omega), bd26, cell3, cell4, cell23, cell24, stoA_agg, stoA_get, stoM, setCells, and_self, true_and, Nat.le_refl, Nat.reduceLeDiff, List.cons_append, List.set_cons_zero, List.getElem?_cons_zero, bdA, fillA, setCells, List.zip_cons_cons, List.zip_nil_right, List.zip_nil_left, Option.map_some, and_self, Nat.le_refl, Nat.reduceLeDiff, List.cons_append, ti26_f0, ti26_f1, ti26_f2, ti26_f3, ti26_f4, ti26_f5, ti26_f6, ti26_f7, ti23_f0, ti23_f1, go_sem]
  split
  · rename_i h7
    try simp only [go_sem]
    refine rsum_c (by simp; omega) ?_
    try simp only [go_sem]
    refine number_c (by omega) (by omega) hl ?_
    try simp only [go_sem]
    split
    · rename_i h8
      try simp only [getM_of hk1', hne, bd26, cell3, cell4, cell23, cell24, stoA_agg, stoA_get, stoM, setCells, and_self, true_and, Nat.le_refl, Nat.reduceLeDiff, List.cons_append, List.set_cons_zero, List.getElem?_cons_zero, bdA, fillA, setCells, List.zip_cons_cons, List.zip_nil_right, List.zip_nil_left, Option.map_some, and_self, Nat.le_refl, Nat.reduceLeDiff, List.cons_append, ti26_f0, ti26_f1, ti26_f2, ti26_f3, ti26_f4, ti26_f5, ti26_f6, ti26_f7, ti23_f0, ti23_f1, go_sem]
      exact ⟨H, set_le hHU hk, bad 10 (by decide) (by unfold glE; rw [if_neg (by omega), if_neg h56, if_pos ⟨h7, fun he => h8 he.symm⟩])⟩
    · rename_i h8
      try simp only [getM_of hk1', getM_of hk2', hne, bd26, cell3, cell4, cell23, cell24, stoA_agg, stoA_get, stoM, setCells, and_self, true_and, Nat.le_refl, Nat.reduceLeDiff, List.cons_append, List.set_cons_zero, List.getElem?_cons_zero, bdA, fillA, setCells, List.zip_cons_cons, List.zip_nil_right, List.zip_nil_left, Option.map_some, and_self, Nat.le_refl, Nat.reduceLeDiff, List.cons_append, ti26_f0, ti26_f1, ti26_f2, ti26_f3, ti26_f4, ti26_f5, ti26_f6, ti26_f7, ti23_f0, ti23_f1, go_sem]
      simp only [e3, getM_of hk1'', stoA_agg, stoA_get, stoM, setCells, and_self, true_and, Nat.le_refl, Nat.reduceLeDiff, List.cons_append, List.set_cons_zero, List.getElem?_cons_zero, ti26_f0, ti26_f1, ti26_f2, ti26_f3, ti26_f4, ti26_f5, ti26_f6, ti26_f7, ti23_f0, ti23_f1, go_sem]
      exact ⟨H, set_le hHU2 hk, good fun hh => h8 fun he => hh.2 he.symm⟩
  · rename_i h7
    try simp only [getM_of hk1', getM_of hk2', hne, bd26, cell3, cell4, cell23, cell24, stoA_agg, stoA_get, stoM, setCells, and_self, true_and, Nat.le_refl, Nat.reduceLeDiff, List.cons_append, List.set_cons_zero, List.getElem?_cons_zero, bdA, fillA, setCells, List.zip_cons_cons, List.zip_nil_right, List.zip_nil_left, Option.map_some, and_self, Nat.le_refl, Nat.reduceLeDiff, List.cons_append, ti26_f0, ti26_f1, ti26_f2, ti26_f3, ti26_f4, ti26_f5, ti26_f6, ti26_f7, ti23_f0, ti23_f1, go_sem]
    simp only [e3, getM_of hk1'', stoA_agg, stoA_get, stoM, setCells, and_self, true_and, Nat.le_refl, Nat.reduceLeDiff, List.cons_append, List.set_cons_zero, List.getElem?_cons_zero, ti26_f0, ti26_f1, ti26_f2, ti26_f3, ti26_f4, ti26_f5, ti26_f6, ti26_f7, ti23_f0, ti23_f1, go_sem]
    exact ⟨H, set_le hHU2 hk, good fun hh => h7 hh.1⟩
theorem gl_len {b : List UInt8} {nl : Bool} : ((glP b).wnl nl).data.length ≤ b.length := by
  show (glP b).data.length ≤ _
  unfold glP
  split
  · show (b.drop 13).length ≤ _
    rw [List.length_drop]
    omega
  · exact Nat.zero_le _
theorem reads_law {nl : Bool} {b : List UInt8} (hnl : nl = true → b = []) : CallsA Try.prog 9 [.d (.sl nl (bs b))] noHeap fun v _ => v = .d (.bool true) := by
  apply C9
  unfold S9
  simp only [bs_length, go_sem]
  split
  · exact awake_end
  rename_i hlen
  refine getLong_c (by omega) hnl fun nl1 => ?_
  simp only [go_sem]
  refine alloc_open fun k2 G2 hG2 hle2 hk2 => ?_
  try simp only [getM_of hG2, Pk.av, stoA_agg, stoA_get, stoM, setCells, and_self, true_and, Nat.le_refl, Nat.reduceLeDiff, List.cons_append, List.set_cons_zero, List.getElem?_cons_zero, ti26_f0, ti26_f1, ti26_f2, ti26_f3, ti26_f4, ti26_f5, ti26_f6, ti26_f7, ti23_f0, ti23_f1, go_sem]
  refine rgetLong_c (by omega) fun nl2 => ?_
  try simp only [go_sem]
  refine alloc_open fun k3 G3 hG3 hle3 hk3 => ?_
  have h2 := hle3 _ _ set_self
  have hne3 : k2 ≠ k3 := le_ne set_self hk3
  try simp only [getM_of h2, getM_of hG3, hne3, Pk.av, stoA_agg, stoA_get, stoM, setCells, and_self, true_and, Nat.le_refl, Nat.reduceLeDiff, List.cons_append, List.set_cons_zero, List.getElem?_cons_zero, ti26_f0, ti26_f1, ti26_f2, ti26_f3, ti26_f4, ti26_f5, ti26_f6, ti26_f7, ti23_f0, ti23_f1, go_sem]
  refine rsame_c (p := (glP b).wnl nl1) (q := (glP b).wnl nl2) (by have := gl_len (b := b) (nl := nl1); omega) ?_
  simp only [same_wnl, decide_true, go_sem]
  exact awake_end
end Go.Proofs.Ytkpogkmnfakciaa

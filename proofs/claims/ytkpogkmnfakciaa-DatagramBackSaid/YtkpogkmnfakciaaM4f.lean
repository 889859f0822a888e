/- What more functions compute: datagrams read. -/
import Derived.Test.YtkpogkmnfakciaaM4e
set_option autoImplicit false
set_option linter.unusedVariables false
set_option linter.unusedSimpArgs false
namespace Go.Proofs.Ytkpogkmnfakciaa
open Go Go.AM Go.Proofs
def bt (b : List UInt8) (i : Int) : Int := ((b.getD i.toNat 0).toNat : Int)
theorem bt_bd {b : List UInt8} {i : Int} : 0 ≤ bt b i ∧ bt b i ≤ 255 := by
  unfold bt
  have := (b.getD i.toNat 0).toNat_lt
  omega
def num (b : List UInt8) (i : Int) : Int := 256 * bt b i + bt b (i + 1)
theorem num_bd {b : List UInt8} {i : Int} : 0 ≤ num b i ∧ num b i ≤ 65535 := by
  unfold num
  have := bt_bd (b := b) (i := i)
  have := bt_bd (b := b) (i := i + 1)
  omega
theorem sl_at {nl : Bool} {b : List UInt8} {i : Int} (h0 : 0 ≤ i) (h : i < b.length) : indexAddrA ti24 1 (.d (.sl nl (bs b))) (.d (.int .i64 i)) = some (.vptr [.int .u8 (bt b i)] 0) := by
  have hi : i.toNat < b.length := by omega
  refine sl_get (e := 5) rfl h0 ?_ rfl
  rw [bs_get hi]
  unfold bt
  rw [List.getD_eq_getElem?_getD, List.getElem?_eq_getElem hi]
  rfl
theorem slice_lo {nl : Bool} {b : List UInt8} {k : Int} {H : AHeap} (h0 : 0 ≤ k) (h : k ≤ b.length) : sliceA 1 (.d (.sl nl (bs b))) (some (.d (.int .i64 k))) none none H = some (.d (.sl nl (bs (b.drop k.toNat)))) := by
  have hh : headLen 1 (bs b) = true := by cases b <;> rfl
  simp only [sliceA, bnd, h0, if_true, bs_length, hh, or_true, and_true, Nat.le_refl]
  rw [if_pos (by omega)]
  have : (List.drop k.toNat (bs b)).take (b.length - k.toNat) = bs (b.drop k.toNat) := by
    rw [List.take_of_length_le (by rw [List.length_drop, bs_length]; exact Nat.le_refl _)]
    simp [bs, List.map_drop]
  rw [this]
theorem or64 {a b : Int} (ha : 0 ≤ a) (ha2 : a < 256) (hb : 0 ≤ b) (hb2 : b < 256) : IntKind.i64.wrap (BitVec.ofInt 64 (a * 256) ||| BitVec.ofInt 64 b).toNat = 256 * a + b := by
  obtain ⟨x, rfl⟩ := Int.eq_ofNat_of_zero_le ha
  obtain ⟨y, rfl⟩ := Int.eq_ofNat_of_zero_le hb
  have e1 : (BitVec.ofInt 64 ((x : Int) * 256)).toNat = x * 256 := by
    rw [BitVec.toNat_ofInt]; simp; omega
  have e2 : (BitVec.ofInt 64 (y : Int)).toNat = y := by
    rw [BitVec.toNat_ofInt]; simp; omega
  rw [BitVec.toNat_or, e1, e2]
  have e3 : x * 256 ||| y = x * 256 + y := by
    have := Nat.shiftLeft_add_eq_or_of_lt (b := y) (i := 8) (by omega) x
    rw [Nat.shiftLeft_eq] at this
    simpa using this.symm
  rw [e3, wrap_i64 (by omega) (by omega)]
  omega
theorem shl8 {a : Int} : IntKind.i64.wrap (a * 2 ^ min (8 : Int).toNat 64) = IntKind.i64.wrap (a * 256) := rfl
theorem number_c {nl : Bool} {b : List UInt8} {i : Int} (h0 : 0 ≤ i) (h : i + 1 < b.length) (hl : b.length < 2 ^ 40) {H : AHeap} {K : AV → AHeap → Prop} (hk : K (.d (.int .i64 (num b i))) H) : CallsA Try.prog 42 [.d (.sl nl (bs b)), .d (.int .i64 i)] H K := by
  apply C42
  unfold S42
  have h1 := bt_bd (b := b) (i := i)
  have h2 := bt_bd (b := b) (i := i + 1)
  have w1 : IntKind.i64.wrap (i + 1) = i + 1 := wrap_i64 (by omega) (by omega)
  simp only [sl_at (nl := nl) (b := b) (i := i) h0 (by omega), sl_at (nl := nl) (b := b) (i := i + 1) (by omega) (by omega), w1, go_sem]
  rw [wrap_i64 (n := bt b i) (by omega) (by omega), wrap_i64 (n := bt b (i + 1)) (by omega) (by omega), wrap_i64 (n := 256 * bt b i) (by omega) (by omega), wrap_i64 (by omega) (by omega)]
  exact ⟨H, le_refl', hk⟩
theorem get_c {nl : Bool} {b : List UInt8} {i : Int} {k : Nat} (h0 : 0 ≤ i) (h : i + 1 < b.length) (hl : b.length < 2 ^ 40) {H : AHeap} {K : AV → AHeap → Prop} (hG : H k = some (.mem 0 0 1 [[.d (.sl nl (bs b))]])) (hk : K (.d (.int .i64 (num b i))) H) : CallsA Try.prog 43 [.d (.int .i64 i), .ptr k 0 0 0] H K := by
  apply C43
  unfold S43
  have h1 := bt_bd (b := b) (i := i)
  have h2 := bt_bd (b := b) (i := i + 1)
  have w1 : IntKind.i64.wrap (i + 1) = i + 1 := wrap_i64 (by omega) (by omega)
  try simp only [getM_of hG, sl_at (nl := nl) (b := b) (i := i) h0 (by omega), sl_at (nl := nl) (b := b) (i := i + 1) (by omega) (by omega), w1, intA_shl (b := 8) (by decide), intA_or, shl8, go_sem]
  rw [wrap_i64 (n := bt b i) (by omega) (by omega), wrap_i64 (n := bt b (i + 1)) (by omega) (by omega), wrap_i64 (n := bt b i * 256) (by omega) (by omega)]
  erw [or64 (by omega) (by omega) (by omega) (by omega)]
  exact ⟨H, le_refl', hk⟩

/-! short ones -/
def gs (b : List UInt8) (dst src : Int) : Pk := ⟨0, 0, dst, 0, src, bt b 2, bt b 3, bt b 4, true, b.drop 5, false⟩
def GsArg (dst src : Int) : Prop := (0 ≤ dst ∧ dst ≤ 255) ∧ (0 ≤ src ∧ src ≤ 255)
instance (d s : Int) : Decidable (GsArg d s) := by unfold GsArg; exact inferInstance
def gsE (b : List UInt8) (dst src : Int) : Int :=
  if GsArg dst src then (if b.length < 5 ∨ (b.length : Int) < num b 0 then 6 else if (b.length : Int) ≠ num b 0 ∨ ¬ (gs b dst src).Valid then 3 else 0) else 2
def gsP (b : List UInt8) (dst src : Int) : Pk := if gsE b dst src = 0 then gs b dst src else .zero
theorem zero_wnl {nl : Bool} : (Pk.zero.wnl true).av = .agg [.d (.int .i64 0), .d (.int .i64 0), .d (.int .i64 0), .d (.int .i64 0), .d (.int .i64 0), .d (.int .i64 0), .d (.int .i64 0), .d (.int .i64 0), .d (.sl true []), .d (.bool false)] := rfl
theorem getShort_c {nl : Bool} {b : List UInt8} {dst src : Int} (hl : b.length < 2 ^ 40) (hnl : nl = true → b = []) {H : AHeap} {K : AV → AHeap → Prop} (h : ∀ nl, K (.tup [((gsP b dst src).wnl nl).av, .d (.int .i64 (gsE b dst src))]) H) :
    CallsA Try.prog 26 [.d (.sl nl (bs b)), .d (.int .i64 dst), .d (.int .i64 src)] H K := by
  apply C26
  unfold S26
  refine alloc_open fun k G hG hle hk => ?_
  have bad : ∀ e : Int, e ≠ 0 → gsE b dst src = e → K (.tup [(Pk.zero.wnl true).av, .d (.int .i64 e)]) H := fun e h0 he => by
    have := h true
    unfold gsP at this
    rw [he, if_neg h0] at this
    exact this
  simp only [go_sem]
  refine within_c ?_
  simp only [go_sem]
  split
  · rename_i h1
    try simp only [getM_of hG, bd26, cell3, cell4, cell23, cell24, stoA_agg, stoA_get, stoM, setCells, and_self, true_and, Nat.le_refl, Nat.reduceLeDiff, List.cons_append, List.set_cons_zero, List.getElem?_cons_zero, bdA, fillA, setCells, List.zip_cons_cons, List.zip_nil_right, List.zip_nil_left, Option.map_some, and_self, Nat.le_refl, Nat.reduceLeDiff, List.cons_append, ti26_f0, ti26_f1, ti26_f2, ti26_f3, ti26_f4, ti26_f5, ti26_f6, ti26_f7, ti23_f0, ti23_f1, go_sem]
    exact ⟨H, set_le hle hk, bad 2 (by decide) (by unfold gsE; rw [if_neg]; unfold GsArg; omega)⟩
  rename_i h1
  try simp only [go_sem]
  refine within_c ?_
  simp only [go_sem]
  split
  · rename_i h2
    try simp only [getM_of hG, bd26, cell3, cell4, cell23, cell24, stoA_agg, stoA_get, stoM, setCells, and_self, true_and, Nat.le_refl, Nat.reduceLeDiff, List.cons_append, List.set_cons_zero, List.getElem?_cons_zero, bdA, fillA, setCells, List.zip_cons_cons, List.zip_nil_right, List.zip_nil_left, Option.map_some, and_self, Nat.le_refl, Nat.reduceLeDiff, List.cons_append, ti26_f0, ti26_f1, ti26_f2, ti26_f3, ti26_f4, ti26_f5, ti26_f6, ti26_f7, ti23_f0, ti23_f1, go_sem]
    exact ⟨H, set_le hle hk, bad 2 (by decide) (by unfold gsE; rw [if_neg]; unfold GsArg; omega)⟩
  rename_i h2
  have ha : GsArg dst src := ⟨Classical.not_not.1 h1, Classical.not_not.1 h2⟩
  simp only [bs_length, go_sem]
  split
  · rename_i h3
    try simp only [getM_of hG, bd26, cell3, cell4, cell23, cell24, stoA_agg, stoA_get, stoM, setCells, and_self, true_and, Nat.le_refl, Nat.reduceLeDiff, List.cons_append, List.set_cons_zero, List.getElem?_cons_zero, bdA, fillA, setCells, List.zip_cons_cons, List.zip_nil_right, List.zip_nil_left, Option.map_some, and_self, Nat.le_refl, Nat.reduceLeDiff, List.cons_append, ti26_f0, ti26_f1, ti26_f2, ti26_f3, ti26_f4, ti26_f5, ti26_f6, ti26_f7, ti23_f0, ti23_f1, go_sem]
    exact ⟨H, set_le hle hk, bad 6 (by decide) (by unfold gsE; rw [if_pos ha, if_pos (by omega)])⟩
  rename_i h3
  have h0 := bt_bd (b := b) (i := 0)
  have h0' := bt_bd (b := b) (i := 1)
  simp only [sl_at (nl := nl) (b := b) (i := 0) (by omega) (by omega), sl_at (nl := nl) (b := b) (i := 1) (by omega) (by omega), sl_at (nl := nl) (b := b) (i := 2) (by omega) (by omega), sl_at (nl := nl) (b := b) (i := 3) (by omega) (by omega), sl_at (nl := nl) (b := b) (i := 4) (by omega) (by omega), intA_shl (b := 8) (by decide), intA_or, shl8, bs_length, go_sem]
  rw [wrap_i64 (n := bt b 0) (by omega) (by omega), wrap_i64 (n := bt b 1) (by omega) (by omega), wrap_i64 (n := bt b 0 * 256) (by omega) (by omega)]
  erw [or64 (by omega) (by omega) (by omega) (by omega)]
  have hn : 256 * bt b 0 + bt b 1 = num b 0 := rfl
  rw [hn]
  split
  · rename_i h4
    try simp only [getM_of hG, bd26, cell3, cell4, cell23, cell24, stoA_agg, stoA_get, stoM, setCells, and_self, true_and, Nat.le_refl, Nat.reduceLeDiff, List.cons_append, List.set_cons_zero, List.getElem?_cons_zero, bdA, fillA, setCells, List.zip_cons_cons, List.zip_nil_right, List.zip_nil_left, Option.map_some, and_self, Nat.le_refl, Nat.reduceLeDiff, List.cons_append, ti26_f0, ti26_f1, ti26_f2, ti26_f3, ti26_f4, ti26_f5, ti26_f6, ti26_f7, ti23_f0, ti23_f1, go_sem]
    exact ⟨H, set_le hle hk, bad 6 (by decide) (by unfold gsE; rw [if_pos ha, if_pos (by omega)])⟩
  rename_i h4
  have hw : ∀ i, IntKind.i64.wrap (bt b i) = bt b i := fun i => wrap_i64 (by have := bt_bd (b := b) (i := i); omega) (by have := bt_bd (b := b) (i := i); omega)
  simp only [sl_at (nl := nl) (b := b) (i := 0) (by omega) (by omega), sl_at (nl := nl) (b := b) (i := 1) (by omega) (by omega), sl_at (nl := nl) (b := b) (i := 2) (by omega) (by omega), sl_at (nl := nl) (b := b) (i := 3) (by omega) (by omega), sl_at (nl := nl) (b := b) (i := 4) (by omega) (by omega), slice_lo (nl := nl) (b := b) (k := 5) (by omega) (by omega), bd23, bd26, cell3, cell4, cell23, cell24, hw, bdA, fillA, setCells, List.zip_cons_cons, List.zip_nil_right, List.zip_nil_left, Option.map_some, and_self, Nat.le_refl, Nat.reduceLeDiff, List.cons_append, go_sem]
  have hnl' : nl = false := by cases nl with | false => rfl | true => have := hnl rfl; subst this; simp at h3
  subst hnl'
  refine ⟨_, clone_c (by simp; omega) (by simp) ⟨rfl, le_refl'⟩, ?_⟩
  try simp only [bd23, bd26, cell3, cell4, cell23, cell24, bdA, fillA, setCells, List.zip_cons_cons, List.zip_nil_right, List.zip_nil_left, Option.map_some, and_self, Nat.le_refl, Nat.reduceLeDiff, List.cons_append, go_sem]
  refine alloc_open fun k2 G2 hG2 hle2 hk2 => ?_
  have hHk2 := le_none hle hk2
  have hleH := le_trans' hle hle2
  have hk1 := hle2 _ _ hG
  have hne : k ≠ k2 := le_ne hG hk2
  try simp only [getM_of hG2, getM_of hk1, hne, bs_length, bd23, bd26, cell3, cell4, cell23, cell24, stoA_agg, stoA_get, stoM, setCells, and_self, true_and, Nat.le_refl, Nat.reduceLeDiff, List.cons_append, List.set_cons_zero, List.getElem?_cons_zero, bdA, fillA, setCells, List.zip_cons_cons, List.zip_nil_right, List.zip_nil_left, Option.map_some, and_self, Nat.le_refl, Nat.reduceLeDiff, List.cons_append, ti26_f0, ti26_f1, ti26_f2, ti26_f3, ti26_f4, ti26_f5, ti26_f6, ti26_f7, ti23_f0, ti23_f1, go_sem]
  split
  · rename_i h5
    try simp only [getM_of hk1, hne, bd26, cell3, cell4, cell23, cell24, stoA_agg, stoA_get, stoM, setCells, and_self, true_and, Nat.le_refl, Nat.reduceLeDiff, List.cons_append, List.set_cons_zero, List.getElem?_cons_zero, bdA, fillA, setCells, List.zip_cons_cons, List.zip_nil_right, List.zip_nil_left, Option.map_some, and_self, Nat.le_refl, Nat.reduceLeDiff, List.cons_append, ti26_f0, ti26_f1, ti26_f2, ti26_f3, ti26_f4, ti26_f5, ti26_f6, ti26_f7, ti23_f0, ti23_f1, go_sem]
    exact ⟨H, set_le (set_le hleH hHk2) hk, bad 3 (by decide) (by unfold gsE; rw [if_pos ha, if_neg (by omega), if_pos (.inl h5)])⟩
  rename_i h5
  try simp only [go_sem]
  refine valid_c (p := (gs b dst src).wnl false) ?_
  try simp only [getM_of hk1, hne, bd26, cell3, cell4, cell23, cell24, stoA_agg, stoA_get, stoM, setCells, and_self, true_and, Nat.le_refl, Nat.reduceLeDiff, List.cons_append, List.set_cons_zero, List.getElem?_cons_zero, bdA, fillA, setCells, List.zip_cons_cons, List.zip_nil_right, List.zip_nil_left, Option.map_some, and_self, Nat.le_refl, Nat.reduceLeDiff, List.cons_append, ti26_f0, ti26_f1, ti26_f2, ti26_f3, ti26_f4, ti26_f5, ti26_f6, ti26_f7, ti23_f0, ti23_f1, go_sem]
  split
  · rename_i h6
    try simp only [getM_of hk1, hne, bd26, cell3, cell4, cell23, cell24, stoA_agg, stoA_get, stoM, setCells, and_self, true_and, Nat.le_refl, Nat.reduceLeDiff, List.cons_append, List.set_cons_zero, List.getElem?_cons_zero, bdA, fillA, setCells, List.zip_cons_cons, List.zip_nil_right, List.zip_nil_left, Option.map_some, and_self, Nat.le_refl, Nat.reduceLeDiff, List.cons_append, ti26_f0, ti26_f1, ti26_f2, ti26_f3, ti26_f4, ti26_f5, ti26_f6, ti26_f7, ti23_f0, ti23_f1, go_sem]
    exact ⟨H, set_le (set_le hleH hHk2) hk, bad 3 (by decide) (by unfold gsE; rw [if_pos ha, if_neg (by omega), if_pos (.inr h6)])⟩
  · rename_i h6
    have h6 : (gs b dst src).Valid := Classical.not_not.1 h6
    try simp only [getM_of hk1, hne, bd26, cell3, cell4, cell23, cell24, stoA_agg, stoA_get, stoM, setCells, and_self, true_and, Nat.le_refl, Nat.reduceLeDiff, List.cons_append, List.set_cons_zero, List.getElem?_cons_zero, bdA, fillA, setCells, List.zip_cons_cons, List.zip_nil_right, List.zip_nil_left, Option.map_some, and_self, Nat.le_refl, Nat.reduceLeDiff, List.cons_append, ti26_f0, ti26_f1, ti26_f2, ti26_f3, ti26_f4, ti26_f5, ti26_f6, ti26_f7, ti23_f0, ti23_f1, go_sem]
    refine ⟨H, set_le (set_le hleH hHk2) hk, ?_⟩
    have he : gsE b dst src = 0 := by
      unfold gsE
      rw [if_pos ha, if_neg (by omega), if_neg]
      rintro (h | h)
      · exact h5 h
      · exact h h6
    have := h false
    unfold gsP at this
    rw [he, if_pos rfl] at this
    exact this
theorem rgetShort_c {nl : Bool} {b : List UInt8} {dst src : Int} (hl : b.length < 2 ^ 40) {H : AHeap} {K : AV → AHeap → Prop} (h : ∀ nl, K (.tup [((gsP b dst src).wnl nl).av, .d (.int .i64 (gsE b dst src))]) H) :
    CallsA Try.prog 27 [.d (.sl nl (bs b)), .d (.int .i64 dst), .d (.int .i64 src)] H K := by
  apply C27
  unfold S27
  refine alloc_open fun k G hG hle hk => ?_
  have bad : ∀ e : Int, e ≠ 0 → gsE b dst src = e → K (.tup [(Pk.zero.wnl true).av, .d (.int .i64 e)]) H := fun e h0 he => by
    have := h true
    unfold gsP at this
    rw [he, if_neg h0] at this
    exact this
  simp only [go_sem]
  refine isByte_c ?_
  simp only [go_sem]
  split
  · rename_i h1
    try simp only [getM_of hG, bd26, cell3, cell4, cell23, cell24, stoA_agg, stoA_get, stoM, setCells, and_self, true_and, Nat.le_refl, Nat.reduceLeDiff, List.cons_append, List.set_cons_zero, List.getElem?_cons_zero, bdA, fillA, setCells, List.zip_cons_cons, List.zip_nil_right, List.zip_nil_left, Option.map_some, and_self, Nat.le_refl, Nat.reduceLeDiff, List.cons_append, ti26_f0, ti26_f1, ti26_f2, ti26_f3, ti26_f4, ti26_f5, ti26_f6, ti26_f7, ti23_f0, ti23_f1, go_sem]
    exact ⟨H, set_le hle hk, bad 2 (by decide) (by unfold gsE; rw [if_neg]; unfold GsArg; omega)⟩
  rename_i h1
  try simp only [go_sem]
  refine isByte_c ?_
  simp only [go_sem]
  split
  · rename_i h2
    try simp only [getM_of hG, bd26, cell3, cell4, cell23, cell24, stoA_agg, stoA_get, stoM, setCells, and_self, true_and, Nat.le_refl, Nat.reduceLeDiff, List.cons_append, List.set_cons_zero, List.getElem?_cons_zero, bdA, fillA, setCells, List.zip_cons_cons, List.zip_nil_right, List.zip_nil_left, Option.map_some, and_self, Nat.le_refl, Nat.reduceLeDiff, List.cons_append, ti26_f0, ti26_f1, ti26_f2, ti26_f3, ti26_f4, ti26_f5, ti26_f6, ti26_f7, ti23_f0, ti23_f1, go_sem]
    exact ⟨H, set_le hle hk, bad 2 (by decide) (by unfold gsE; rw [if_neg]; unfold GsArg; omega)⟩
  rename_i h2
  have ha : GsArg dst src := ⟨Classical.not_not.1 h1, Classical.not_not.1 h2⟩
  simp only [bs_length, go_sem]
  split
  · rename_i h3
    try simp only [getM_of hG, bd26, cell3, cell4, cell23, cell24, stoA_agg, stoA_get, stoM, setCells, and_self, true_and, Nat.le_refl, Nat.reduceLeDiff, List.cons_append, List.set_cons_zero, List.getElem?_cons_zero, bdA, fillA, setCells, List.zip_cons_cons, List.zip_nil_right, List.zip_nil_left, Option.map_some, and_self, Nat.le_refl, Nat.reduceLeDiff, List.cons_append, ti26_f0, ti26_f1, ti26_f2, ti26_f3, ti26_f4, ti26_f5, ti26_f6, ti26_f7, ti23_f0, ti23_f1, go_sem]
    exact ⟨H, set_le hle hk, bad 6 (by decide) (by unfold gsE; rw [if_pos ha, if_pos (by omega)])⟩
  rename_i h3
  try simp only [go_sem]
  refine number_c (by omega) (by omega) hl ?_
  simp only [go_sem]
  split
  · rename_i h4
    try simp only [getM_of hG, bd26, cell3, cell4, cell23, cell24, stoA_agg, stoA_get, stoM, setCells, and_self, true_and, Nat.le_refl, Nat.reduceLeDiff, List.cons_append, List.set_cons_zero, List.getElem?_cons_zero, bdA, fillA, setCells, List.zip_cons_cons, List.zip_nil_right, List.zip_nil_left, Option.map_some, and_self, Nat.le_refl, Nat.reduceLeDiff, List.cons_append, ti26_f0, ti26_f1, ti26_f2, ti26_f3, ti26_f4, ti26_f5, ti26_f6, ti26_f7, ti23_f0, ti23_f1, go_sem]
    exact ⟨H, set_le hle hk, bad 6 (by decide) (by unfold gsE; rw [if_pos ha, if_pos (by omega)])⟩
  rename_i h4
  have hw : ∀ i, IntKind.i64.wrap (bt b i) = bt b i := fun i => wrap_i64 (by have := bt_bd (b := b) (i := i); omega) (by have := bt_bd (b := b) (i := i); omega)
  simp only [sl_at (nl := nl) (b := b) (i := 2) (by omega) (by omega), sl_at (nl := nl) (b := b) (i := 3) (by omega) (by omega), sl_at (nl := nl) (b := b) (i := 4) (by omega) (by omega), bd23, bd26, cell3, cell4, cell23, cell24, hw, bdA, fillA, setCells, List.zip_cons_cons, List.zip_nil_right, List.zip_nil_left, Option.map_some, and_self, Nat.le_refl, Nat.reduceLeDiff, List.cons_append, go_sem]
  refine alloc_open fun k2 G2 hG2 hle2 hk2 => ?_
  have hHk2 := le_none hle hk2
  have hleH := le_trans' hle hle2
  have hk1 := hle2 _ _ hG
  have hne : k ≠ k2 := le_ne hG hk2
  try simp only [getM_of hG2, getM_of hk1, hne, bs_length, bd23, bd26, cell3, cell4, cell23, cell24, stoA_agg, stoA_get, stoM, setCells, and_self, true_and, Nat.le_refl, Nat.reduceLeDiff, List.cons_append, List.set_cons_zero, List.getElem?_cons_zero, bdA, fillA, setCells, List.zip_cons_cons, List.zip_nil_right, List.zip_nil_left, Option.map_some, and_self, Nat.le_refl, Nat.reduceLeDiff, List.cons_append, ti26_f0, ti26_f1, ti26_f2, ti26_f3, ti26_f4, ti26_f5, ti26_f6, ti26_f7, ti23_f0, ti23_f1, go_sem]
  intro n hn
  simp only [bs0, slice_lo (nl := nl) (b := b) (k := 5) (by omega) (by omega), stoA_agg, stoA_get, stoM, setCells, and_self, true_and, Nat.le_refl, Nat.reduceLeDiff, List.cons_append, List.set_cons_zero, List.getElem?_cons_zero, ti26_f0, ti26_f1, ti26_f2, ti26_f3, ti26_f4, ti26_f5, ti26_f6, ti26_f7, ti23_f0, ti23_f1, go_sem]
  generalize hB : G2.set k2 _ = B
  have hB1 : B k = some (.mem 0 0 10 [[.d (.int .i64 0), .d (.int .i64 0), .d (.int .i64 0), .d (.int .i64 0), .d (.int .i64 0), .d (.int .i64 0), .d (.int .i64 0), .d (.int .i64 0), .d (.sl true []), .d (.bool false)]]) := by rw [← hB, set_ne hne]; exact hk1
  have hB2 : B k2 = some (.mem 0 0 10 [[.d (.int .i64 0), .d (.int .i64 0), .d (.int .i64 dst), .d (.int .i64 0), .d (.int .i64 src), .d (.int .i64 (bt b 2)), .d (.int .i64 (bt b 3)), .d (.int .i64 (bt b 4)), .d (.sl true []), .d (.bool false)]]) := by rw [← hB]; exact set_self
  have hleB : AHeap.le H B := by rw [← hB]; exact set_le hleH hHk2
  clear hB
  refine (Own.lit (sz := 1) (l := []) le_refl' (by simp)).app (ys := bs (b.drop 5)) rfl (by decide) (by decide) bs_sz (by rw [bs_length]; simp [mostBytes]; omega) fun v H3 hv3 _ _ hnl3 => ?_
  have hst : v.storable = true ∧ v.cells = [v] := by
    rcases hv3.2.2 with ⟨rfl, _⟩ | rfl | ⟨i, ver, L, rfl, _⟩ <;> exact ⟨rfl, rfl⟩
  have hv3' := hv3.upd (o' := .mem 0 0 10 [[.d (.int .i64 0), .d (.int .i64 0), .d (.int .i64 dst), .d (.int .i64 0), .d (.int .i64 src), .d (.int .i64 (bt b 2)), .d (.int .i64 (bt b 3)), .d (.int .i64 (bt b 4)), v, .d (.bool false)]]) hB2
  try simp only [getM_of (hv3.le _ _ hB2), hst.1, hst.2, stoA_agg, stoA_get, stoM, setCells, and_self, true_and, Nat.le_refl, Nat.reduceLeDiff, List.cons_append, List.set_cons_zero, List.getElem?_cons_zero, ti26_f0, ti26_f1, ti26_f2, ti26_f3, ti26_f4, ti26_f5, ti26_f6, ti26_f7, ti23_f0, ti23_f1, go_sem]
  have hW1 : (H3.set k2 (.mem 0 0 10 [[.d (.int .i64 0), .d (.int .i64 0), .d (.int .i64 dst), .d (.int .i64 0), .d (.int .i64 src), .d (.int .i64 (bt b 2)), .d (.int .i64 (bt b 3)), .d (.int .i64 (bt b 4)), v, .d (.bool false)]])) k = _ := (set_ne hne).trans (hv3.le _ _ hB1)
  have hW2 := set_le (le_trans' hleB hv3.le) hHk2 (o := .mem 0 0 10 [[.d (.int .i64 0), .d (.int .i64 0), .d (.int .i64 dst), .d (.int .i64 0), .d (.int .i64 src), .d (.int .i64 (bt b 2)), .d (.int .i64 (bt b 3)), .d (.int .i64 (bt b 4)), v, .d (.bool false)]])
  refine number_c (by omega) (by omega) hl ?_
  simp only [go_sem]
  split
  · rename_i h5
    try simp only [getM_of hW1, hne, bd26, cell3, cell4, cell23, cell24, stoA_agg, stoA_get, stoM, setCells, and_self, true_and, Nat.le_refl, Nat.reduceLeDiff, List.cons_append, List.set_cons_zero, List.getElem?_cons_zero, bdA, fillA, setCells, List.zip_cons_cons, List.zip_nil_right, List.zip_nil_left, Option.map_some, and_self, Nat.le_refl, Nat.reduceLeDiff, List.cons_append, ti26_f0, ti26_f1, ti26_f2, ti26_f3, ti26_f4, ti26_f5, ti26_f6, ti26_f7, ti23_f0, ti23_f1, go_sem]
    exact ⟨H, set_le hW2 hk, bad 3 (by decide) (by unfold gsE; rw [if_pos ha, if_neg (by omega), if_pos (.inl h5)])⟩
  rename_i h5
  obtain ⟨us, e1, e2, hle', _⟩ := hv3'.frz
  have hk1' := hle' k _ ((set_ne hne).trans hB1)
  have hk2' := hle' k2 _ set_self
  have hHU := le_trans' (set_le hleB hHk2) hle'
  obtain ⟨us2, e3, hle2'⟩ := hv3'.frz2 e1
  have hk1'' := hle2' k _ ((set_ne hne).trans hB1)
  have hHU2 := le_trans' (set_le hleB hHk2) hle2'
  simp only [e1, ti26_f0, ti26_f1, ti26_f2, ti26_f3, ti26_f4, ti26_f5, ti26_f6, ti26_f7, ti23_f0, ti23_f1, go_sem]
  refine rvalid_c (p := (gs b dst src).wnl (nilS v)) ?_
  try simp only [getM_of hk1', getM_of hk2', hne, bd26, cell3, cell4, cell23, cell24, stoA_agg, stoA_get, stoM, setCells, and_self, true_and, Nat.le_refl, Nat.reduceLeDiff, List.cons_append, List.set_cons_zero, List.getElem?_cons_zero, bdA, fillA, setCells, List.zip_cons_cons, List.zip_nil_right, List.zip_nil_left, Option.map_some, and_self, Nat.le_refl, Nat.reduceLeDiff, List.cons_append, ti26_f0, ti26_f1, ti26_f2, ti26_f3, ti26_f4, ti26_f5, ti26_f6, ti26_f7, ti23_f0, ti23_f1, go_sem]
  split
  · rename_i h6
    try simp only [getM_of hk1', hne, bd26, cell3, cell4, cell23, cell24, stoA_agg, stoA_get, stoM, setCells, and_self, true_and, Nat.le_refl, Nat.reduceLeDiff, List.cons_append, List.set_cons_zero, List.getElem?_cons_zero, bdA, fillA, setCells, List.zip_cons_cons, List.zip_nil_right, List.zip_nil_left, Option.map_some, and_self, Nat.le_refl, Nat.reduceLeDiff, List.cons_append, ti26_f0, ti26_f1, ti26_f2, ti26_f3, ti26_f4, ti26_f5, ti26_f6, ti26_f7, ti23_f0, ti23_f1, go_sem]
    exact ⟨H, set_le hHU hk, bad 3 (by decide) (by unfold gsE; rw [if_pos ha, if_neg (by omega), if_pos (.inr h6)])⟩
  · rename_i h6
    have h6 : (gs b dst src).Valid := Classical.not_not.1 h6
    try simp only [getM_of hk1', getM_of hk2', hne, bd26, cell3, cell4, cell23, cell24, stoA_agg, stoA_get, stoM, setCells, and_self, true_and, Nat.le_refl, Nat.reduceLeDiff, List.cons_append, List.set_cons_zero, List.getElem?_cons_zero, bdA, fillA, setCells, List.zip_cons_cons, List.zip_nil_right, List.zip_nil_left, Option.map_some, and_self, Nat.le_refl, Nat.reduceLeDiff, List.cons_append, ti26_f0, ti26_f1, ti26_f2, ti26_f3, ti26_f4, ti26_f5, ti26_f6, ti26_f7, ti23_f0, ti23_f1, go_sem]
    simp only [e3, getM_of hk1'', stoA_agg, stoA_get, stoM, setCells, and_self, true_and, Nat.le_refl, Nat.reduceLeDiff, List.cons_append, List.set_cons_zero, List.getElem?_cons_zero, ti26_f0, ti26_f1, ti26_f2, ti26_f3, ti26_f4, ti26_f5, ti26_f6, ti26_f7, ti23_f0, ti23_f1, go_sem]
    refine ⟨H, set_le hHU2 hk, ?_⟩
    have he : gsE b dst src = 0 := by
      unfold gsE
      rw [if_pos ha, if_neg (by omega), if_neg]
      rintro (h | h)
      · exact h5 h
      · exact h h6
    have := h (nilS v)
    unfold gsP at this
    rw [he, if_pos rfl] at this
    exact this
theorem gs_len {b : List UInt8} {d s : Int} {nl : Bool} : ((gsP b d s).wnl nl).data.length ≤ b.length := by
  show (gsP b d s).data.length ≤ _
  unfold gsP
  split
  · show (b.drop 5).length ≤ _
    rw [List.length_drop]
    omega
  · exact Nat.zero_le _
theorem shortReads_law {nl : Bool} {b : List UInt8} {dst src : Int} (hnl : nl = true → b = []) : CallsA Try.prog 8 [.d (.sl nl (bs b)), .d (.int .i64 dst), .d (.int .i64 src)] noHeap fun v _ => v = .d (.bool true) := by
  apply C8
  unfold S8
  simp only [bs_length, go_sem]
  split
  · exact awake_end
  rename_i hlen
  refine getShort_c (by omega) hnl fun nl1 => ?_
  simp only [go_sem]
  refine alloc_open fun k2 G2 hG2 hle2 hk2 => ?_
  try simp only [getM_of hG2, Pk.av, stoA_agg, stoA_get, stoM, setCells, and_self, true_and, Nat.le_refl, Nat.reduceLeDiff, List.cons_append, List.set_cons_zero, List.getElem?_cons_zero, ti26_f0, ti26_f1, ti26_f2, ti26_f3, ti26_f4, ti26_f5, ti26_f6, ti26_f7, ti23_f0, ti23_f1, go_sem]
  refine rgetShort_c (by omega) fun nl2 => ?_
  try simp only [go_sem]
  refine alloc_open fun k3 G3 hG3 hle3 hk3 => ?_
  have h2 := hle3 _ _ set_self
  have hne3 : k2 ≠ k3 := le_ne set_self hk3
  try simp only [getM_of h2, getM_of hG3, hne3, Pk.av, stoA_agg, stoA_get, stoM, setCells, and_self, true_and, Nat.le_refl, Nat.reduceLeDiff, List.cons_append, List.set_cons_zero, List.getElem?_cons_zero, ti26_f0, ti26_f1, ti26_f2, ti26_f3, ti26_f4, ti26_f5, ti26_f6, ti26_f7, ti23_f0, ti23_f1, go_sem]
  refine rsame_c (p := (gsP b dst src).wnl nl1) (q := (gsP b dst src).wnl nl2) (by have := gs_len (b := b) (d := dst) (s := src) (nl := nl1); omega) ?_
  simp only [same_wnl, decide_true, go_sem]
  exact awake_end
end Go.Proofs.Ytkpogkmnfakciaa

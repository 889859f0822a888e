/- The law that blocks and maps are what they were. -/
import Derived.Test.YtlaojbclmcageaaM15s
set_option autoImplicit false
set_option maxRecDepth 100000
set_option linter.unusedVariables false
set_option linter.unusedSimpArgs false
namespace Go.Proofs.Ytlaojbclmcageaa
open Go Go.AM Go.Proofs
theorem part_drop {x : Ext} {k c : Nat} : (part x k).drop c = part (x.1 + (c : Int), 0) (k - c) := by
  apply List.ext_getElem
  · simp [part_len]
  · intro i h1 h2
    simp [part]
    omega
theorem part_fst {a b c : Int} {k : Nat} : part (a, b) k = part (a, c) k := rfl
theorem kp_blk : ∀ {l : List Ext} {n : Int}, (∀ x ∈ l, Ok1 300 x) → 0 ≤ n → blk (kp l n) = (blk l).take n.toNat
  | [], n, _, _ => by simp [kp, blk]
  | x :: r, n, h, h0 => by
    have hx := h x (List.mem_cons_self ..)
    unfold Ok1 at hx
    have ih := kp_blk (l := r) (n := n - min n x.2) (fun y hy => h y (List.mem_cons_of_mem _ hy)) (by omega)
    have e1 : blk (x :: r) = blk1 x ++ blk r := rfl
    have e2 : blk (if 0 < min n x.2 then [(x.1, min n x.2)] else []) = (blk1 x).take n.toNat := by
      rw [blk1, part_take]
      split
      · have : min n.toNat x.2.toNat = (min n x.2).toNat := by omega
        rw [this]
        simp [blk, blk1]
        rfl
      · have : min n.toNat x.2.toNat = 0 := by omega
        rw [this]
        simp [blk, part]
    rw [kp, blk_app, ih, e2, e1, List.take_append]
    congr 2
    rw [blk1, part_len]
    omega
theorem dp_blk : ∀ {l : List Ext} {n : Int}, (∀ x ∈ l, Ok1 300 x) → 0 ≤ n → blk (dp l n) = (blk l).drop n.toNat
  | [], n, _, _ => by simp [dp, blk]
  | x :: r, n, h, h0 => by
    have hx := h x (List.mem_cons_self ..)
    unfold Ok1 at hx
    have ih := dp_blk (l := r) (n := n - min n x.2) (fun y hy => h y (List.mem_cons_of_mem _ hy)) (by omega)
    have e1 : blk (x :: r) = blk1 x ++ blk r := rfl
    have e2 : blk (if 0 < x.2 - min n x.2 then [(x.1 + min n x.2, x.2 - min n x.2)] else []) = (blk1 x).drop n.toNat := by
      rw [blk1, part_drop]
      split
      · have h1 : min n x.2 = n := by omega
        have h2 : (x.2 - n).toNat = x.2.toNat - n.toNat := by omega
        have h3 : ((n.toNat : Nat) : Int) = n := by omega
        rw [h1, h3, ← h2]
        simp [blk, blk1]
        rfl
      · have : x.2.toNat - n.toNat = 0 := by omega
        rw [this]
        simp [blk, part]
    rw [dp, blk_app, ih, e2, e1, List.drop_append]
    congr 2
    rw [blk1, part_len]
    omega
theorem kp_ok : ∀ {l : List Ext} {n : Int}, (∀ x ∈ l, Ok1 300 x) → 0 ≤ n → ∀ y ∈ kp l n, Ok1 300 y
  | [], n, _, _ => by simp [kp]
  | x :: r, n, h, h0 => fun y hy => by
    have hx := h x (List.mem_cons_self ..)
    unfold Ok1 at hx
    rw [kp] at hy
    rcases List.mem_append.1 hy with hy | hy
    · split at hy
      · rw [List.mem_singleton] at hy
        subst hy
        unfold Ok1
        simp only
        omega
      · simp at hy
    · exact kp_ok (fun y hy => h y (List.mem_cons_of_mem _ hy)) (by omega) y hy
theorem dp_ok : ∀ {l : List Ext} {n : Int}, (∀ x ∈ l, Ok1 300 x) → 0 ≤ n → ∀ y ∈ dp l n, Ok1 300 y
  | [], n, _, _ => by simp [dp]
  | x :: r, n, h, h0 => fun y hy => by
    have hx := h x (List.mem_cons_self ..)
    unfold Ok1 at hx
    rw [dp] at hy
    rcases List.mem_append.1 hy with hy | hy
    · split at hy
      · rw [List.mem_singleton] at hy
        subst hy
        unfold Ok1
        simp only
        omega
      · simp at hy
    · exact dp_ok (fun y hy => h y (List.mem_cons_of_mem _ hy)) (by omega) y hy
theorem part_join {x z : Ext} {a b : Nat} (h : x.1 + (a : Int) = z.1) : part x (a + b) = part x a ++ part z b := by
  apply List.ext_getElem
  · simp [part_len]
  · intro i h1 h2
    by_cases hi : i < (part x a).length
    · rw [List.getElem_append_left hi]
      simp [part]
    · rw [List.getElem_append_right (by omega)]
      rw [part_len] at hi
      simp [part]
      omega
theorem joinL_ok {k d : List Ext} (hk : ∀ x ∈ k, Ok1 300 x) (hd : ∀ x ∈ d, Ok1 300 x) : (∀ x ∈ joinL k d, Ok1 300 x) ∧ blk (joinL k d) = blk k ++ blk d := by
  have plain : joinL k d = k ++ d → (∀ x ∈ joinL k d, Ok1 300 x) ∧ blk (joinL k d) = blk k ++ blk d := fun he => by
    rw [he]
    refine ⟨fun x hx => ?_, blk_app⟩
    rcases List.mem_append.1 hx with hx | hx
    · exact hk x hx
    · exact hd x hx
  cases d with
  | nil => exact plain (by cases h : k[k.length - 1]? <;> simp [joinL, h])
  | cons z r =>
    rcases List.eq_nil_or_concat k with rfl | ⟨o, x, rfl⟩
    · exact plain (by simp [joinL])
    · rw [List.concat_eq_append] at *
      by_cases heq : x.1 + x.2 = z.1
      · have hx := hk x (by simp)
        have hz := hd z (by simp)
        unfold Ok1 at hx hz
        have he : joinL (o ++ [x]) (z :: r) = o ++ (x.1, x.2 + z.2) :: r := by rw [joinL_snoc, if_pos heq]
        rw [he]
        constructor
        · intro y hy
          rcases List.mem_append.1 hy with hy | hy
          · exact hk y (List.mem_append_left _ hy)
          · rcases List.mem_cons.1 hy with rfl | hy
            · unfold Ok1; simp only; omega
            · exact hd y (List.mem_cons_of_mem _ hy)
        · have e : blk1 (x.1, x.2 + z.2) = blk1 x ++ blk1 z := by
            have e1 : (x.2 + z.2).toNat = x.2.toNat + z.2.toNat := by omega
            show part (x.1, x.2 + z.2) (x.2 + z.2).toNat = _
            rw [e1, part_join (z := z) (by simp only; omega)]
            rfl
          simp [blk, e]
      · exact plain (by rw [joinL_snoc, if_neg heq]; simp)
/-! maps: packed and read again -/
theorem bit0 {k : Nat} : bitAt 0 k = false := by simp [bitAt]
theorem packJ_bit {m : List Bool} {i : Nat} (hi : i / 8 < (m.length + 7) / 8) : ∀ {j : Nat}, j ≤ m.length → bitAt ((packJ m j).getD (i / 8) 0) (i % 8) = (decide (i < j) && m.getD i false)
  | 0, _ => by
    have : (packJ m 0).getD (i / 8) 0 = 0 := by
      unfold packJ
      rw [List.getD_eq_getElem?_getD, List.getElem?_replicate]
      split <;> rfl
    rw [this, bit0]
    simp
  | j + 1, hj => by
    have ih := packJ_bit hi (j := j) (by omega)
    have hl := packJ_len (m := m) (j := j)
    unfold packJ
    by_cases hm : m.getD j false = true
    · rw [if_pos hm]
      by_cases hij : i / 8 = j / 8
      · have e : ((packJ m j).set (j / 8) ((packJ m j).getD (j / 8) 0 ||| one8 (j % 8))).getD (i / 8) 0 = (packJ m j).getD (j / 8) 0 ||| one8 (j % 8) := by
          rw [hij, List.getD_eq_getElem?_getD, List.getElem?_set_self (by omega)]
          rfl
        rw [e, bit_or' (by omega) (by omega), ← hij, ih]
        by_cases hij2 : i = j
        · subst hij2; rw [hm]; simp
        · have h1 : ¬ j % 8 = i % 8 := by omega
          have h2 : decide (i < j + 1) = decide (i < j) := by rw [decide_eq_decide]; omega
          simp [h1, h2]
      · have e : ((packJ m j).set (j / 8) ((packJ m j).getD (j / 8) 0 ||| one8 (j % 8))).getD (i / 8) 0 = (packJ m j).getD (i / 8) 0 := by
          rw [List.getD_eq_getElem?_getD, List.getElem?_set_ne (fun hh => hij hh.symm), ← List.getD_eq_getElem?_getD]
        rw [e, ih]
        have h2 : decide (i < j + 1) = decide (i < j) := by rw [decide_eq_decide]; omega
        rw [h2]
    · rw [if_neg hm, ih]
      by_cases hij2 : i = j
      · subst hij2
        have : m.getD i false = false := by simpa using hm
        rw [this]; simp
      · have h2 : decide (i < j + 1) = decide (i < j) := by rw [decide_eq_decide]; omega
        rw [h2]
theorem bits_pack {m : List Bool} {i : Nat} (h : i < (bitsOf (packJ m m.length)).length) : (bitsOf (packJ m m.length))[i] = m.getD i false := by
  have h' := h
  rw [bitsOf_len, packJ_len] at h'
  rw [bitsOf_get, packJ_bit (by omega) (Nat.le_refl _)]
  by_cases hi : i < m.length
  · simp [hi]
  · have : m.getD i false = false := by simp [List.getD_eq_getElem?_getD, List.getElem?_eq_none (by omega : m.length ≤ i)]
    rw [this]; simp
theorem un_pack {m : List Bool} (hm : m.length ≤ 300) : unE (packP m) m.length = 0 ∧ unM (packP m) m.length = m := by
  have hp : packP m = packJ m m.length := by unfold packP; rw [if_pos hm]
  have hok : UnOk (packP m) m.length := by
    refine ⟨by omega, ?_⟩
    rw [hp, packJ_len, Int.toNat_natCast]
  have hl : (bitsOf (packJ m m.length)).length = 8 * ((m.length + 7) / 8) := by rw [bitsOf_len, packJ_len]
  have hno : true ∉ (bitsOf (packP m)).drop (m.length : Int).toNat := by
    rw [hp, Int.toNat_natCast]
    intro hh
    obtain ⟨i, hi, he⟩ := List.mem_iff_getElem.1 hh
    rw [List.getElem_drop, bits_pack] at he
    rw [List.getD_eq_getElem?_getD, List.getElem?_eq_none (by omega)] at he
    cases he
  unfold unE unM
  rw [if_pos hok, if_pos hok, if_neg hno, if_neg hno]
  refine ⟨rfl, ?_⟩
  rw [hp, Int.toNat_natCast]
  apply List.ext_getElem
  · rw [List.length_take]; omega
  · intro i h1 h2
    rw [List.getElem_take, bits_pack, List.getD_eq_getElem?_getD, List.getElem?_eq_getElem h2]
    rfl
end Go.Proofs.Ytlaojbclmcageaa

/- What the functions of a bus do. -/
import Derived.Test.YtadpakkenokilaaM2a
set_option autoImplicit false
set_option maxRecDepth 100000
set_option linter.unusedVariables false
set_option linter.unusedSimpArgs false
namespace Go.Proofs.Ytadpakkenokilaa
open Go Go.AM Go.Proofs
theorem less_c {a b : Int} {H : AHeap} {K : AV → AHeap → Prop} (h : K (.d (.bool (decide (a < b)))) H) : CallsA Try.prog 71 [.d (.int .i64 a), .d (.int .i64 b)] H K := by
  apply C71
  unfold S71
  simp only [go_sem]
  apply C79
  unfold S79
  simp only [ne_eq, not_true_eq_false, decide_false, go_sem]
  refine ⟨H, le_refl', ?_⟩
  simp only [go_sem]
  exact ⟨H, le_refl', h⟩
theorem wrap_u64 {n : Nat} (h : n < 2 ^ 50) : IntKind.u64.wrap (n : Int) = n := by simp [IntKind.wrap, IntKind.signed, IntKind.bits]; omega
theorem half {n : Nat} : intA .shr (.d (.int .u64 (n : Int))) (.d (.int .u64 1)) = some (.d (.int .u64 ((n / 2 : Nat) : Int))) := by
  have e2 : (n : Int).fdiv (2 ^ (min (1 : Int).toNat IntKind.u64.bits)) = ((n / 2 : Nat) : Int) := by
    have : (2 : Int) ^ (min (1 : Int).toNat IntKind.u64.bits) = 2 := rfl
    rw [this, Int.fdiv_eq_ediv_of_nonneg _ (by omega)]
    omega
  rw [intA_shr (by decide), e2]
def Rising (l : List Int) : Prop := l.Pairwise (· ≤ ·)
theorem count_at {l : List Int} {t : Int} {i : Nat} (hi : i ≤ l.length) (h1 : ∀ x, x < i → l.getD x 0 < t) (h2 : ∀ x, i ≤ x → x < l.length → t ≤ l.getD x 0) : l.countP (fun x => decide (x < t)) = i ∧ (t ∈ l ↔ i < l.length ∧ l.getD i 0 = t) → l.countP (fun x => decide (x < t)) = i := fun h => h.1
theorem getD_eq {l : List Int} {x : Nat} (h : x < l.length) : l.getD x 0 = l[x] := by rw [List.getD_eq_getElem?_getD, List.getElem?_eq_getElem h]; rfl
theorem count_eq {l : List Int} {t : Int} {i : Nat} (hi : i ≤ l.length) (h1 : ∀ x, x < i → l.getD x 0 < t) (h2 : ∀ x, i ≤ x → x < l.length → t ≤ l.getD x 0) : l.countP (fun x => decide (x < t)) = i := by
  rw [← List.take_append_drop i l, List.countP_append]
  have e1 : (l.take i).countP (fun x => decide (x < t)) = i := by
    rw [List.countP_eq_length.2, List.length_take]
    · omega
    · intro a ha
      obtain ⟨x, hx, rfl⟩ := List.mem_iff_getElem.1 ha
      rw [List.length_take] at hx
      rw [List.getElem_take]
      have := h1 x (by omega)
      rw [getD_eq (by omega)] at this
      simpa using this
  have e2 : (l.drop i).countP (fun x => decide (x < t)) = 0 := by
    rw [List.countP_eq_zero]
    intro a ha
    obtain ⟨x, hx, rfl⟩ := List.mem_iff_getElem.1 ha
    rw [List.length_drop] at hx
    rw [List.getElem_drop]
    have := h2 (i + x) (by omega) (by omega)
    rw [getD_eq (by omega)] at this
    simp; omega
  rw [e1, e2]; rfl
theorem mem_at {l : List Int} {t : Int} {i : Nat} (hr : Rising l) (hi : i ≤ l.length) (h1 : ∀ x, x < i → l.getD x 0 < t) (h2 : ∀ x, i ≤ x → x < l.length → t ≤ l.getD x 0) : t ∈ l ↔ i < l.length ∧ l.getD i 0 = t := by
  constructor
  · intro hm
    obtain ⟨x, hx, he⟩ := List.mem_iff_getElem.1 hm
    have hxi : i ≤ x := by
      rcases Nat.lt_or_ge x i with h | h
      · have := h1 x h; rw [getD_eq hx] at this; omega
      · exact h
    refine ⟨by omega, ?_⟩
    have h3 := h2 i (Nat.le_refl _) (by omega)
    rcases Nat.lt_or_ge i x with h | h
    · have := List.pairwise_iff_getElem.1 hr i x (by omega) hx h
      rw [getD_eq (by omega)] at h3 ⊢
      omega
    · have : x = i := by omega
      subst this
      rw [getD_eq hx]; exact he
  · rintro ⟨h3, h4⟩
    rw [getD_eq h3] at h4
    exact h4 ▸ List.getElem_mem h3
theorem search_c {nl : Bool} {l : List Int} {t : Int} (hr : Rising l) (hl : l.length < 2 ^ 40) {H : AHeap} {K : AV → AHeap → Prop} (h : K (.tup [.d (.int .i64 (l.countP fun x => decide (x < t))), .d (.bool (decide (t ∈ l)))]) H) : CallsA Try.prog 54 [.d (.sl nl (ints l)), .d (.int .i64 t)] H K := by
  apply C54
  unfold S54
  simp only [ints_len, go_sem]
  refine loop_ind (fun r vs G => G = H ∧ ∃ i j : Nat, i ≤ j ∧ j ≤ l.length ∧ r = j - i ∧ (∀ x, x < i → l.getD x 0 < t) ∧ (∀ x, j ≤ x → x < l.length → t ≤ l.getD x 0) ∧ vs = [.d (.sl nl (ints l)), .d (.int .i64 t), .d (.int .i64 l.length), .d (.int .i64 i), .d (.int .i64 j)]) (n := l.length) ⟨rfl, 0, l.length, by omega, by omega, by omega, by omega, by omega, rfl⟩ ?_
  rintro X r vs G ⟨rfl, i, j, hij, hj, rfl, h1, h2, rfl⟩ hX
  simp only [List.getD_cons_succ, List.getD_cons_zero, go_sem]
  split
  · rename_i hlt
    have hij' : i < j := by omega
    rw [wrap_i64 (n := (i : Int) + (j : Int)) (by omega) (by omega), show (i : Int) + (j : Int) = ((i + j : Nat) : Int) by omega, wrap_u64 (n := i + j) (by omega)]
    have hm : (i + j) / 2 < l.length := by omega
    simp only [half (n := i + j), go_sem]
    rw [wrap_i64 (n := (((i + j) / 2 : Nat) : Int)) (by omega) (by omega)]
    simp only [sl_get (ti := ti22) (e := 3) (esz := 1) rfl (by omega : (0 : Int) ≤ (((i + j) / 2 : Nat) : Int)) (by rw [Int.toNat_natCast]; exact ints_get hm) rfl, List.map_cons, List.map_nil, go_sem]
    refine less_c ?_
    have mono : ∀ x y, x ≤ y → y < l.length → l.getD x 0 ≤ l.getD y 0 := fun x y hxy hy => by
      rw [getD_eq (by omega), getD_eq hy]
      rcases Nat.lt_or_ge x y with h | h
      · exact List.pairwise_iff_getElem.1 hr x y (by omega) hy h
      · have : x = y := by omega
        subst this; exact Int.le_refl _
    simp only [go_sem]
    split
    · rename_i hl1
      rw [wrap_i64 (by omega) (by omega)]
      refine hX (j - ((i + j) / 2 + 1)) _ _ (by omega) ⟨rfl, (i + j) / 2 + 1, j, by omega, hj, rfl, fun x hx => ?_, h2, rfl⟩
      have := mono x ((i + j) / 2) (by omega) hm
      omega
    · rename_i hl1
      refine hX ((i + j) / 2 - i) _ _ (by omega) ⟨rfl, i, (i + j) / 2, by omega, by omega, rfl, h1, fun x hx hxl => ?_, rfl⟩
      have := mono ((i + j) / 2) x hx hxl
      omega
  · rename_i hge
    have : j = i := by omega
    subst this
    have hc := count_eq hj h1 h2
    have hm := mem_at hr hj h1 h2
    rw [hc] at h
    split
    · rename_i hlt
      have hj' : j < l.length := by omega
      simp only [sl_get (ti := ti22) (e := 3) (esz := 1) rfl (by omega : (0 : Int) ≤ (j : Int)) (by rw [Int.toNat_natCast]; exact ints_get hj') rfl, List.map_cons, List.map_nil, go_sem]
      split
      · rename_i he
        rw [decide_eq_true (hm.2 ⟨hj', he⟩)] at h
        exact ⟨G, le_refl', h⟩
      · rename_i he
        try simp only [sl_get (ti := ti22) (e := 3) (esz := 1) rfl (by omega : (0 : Int) ≤ (j : Int)) (by rw [Int.toNat_natCast]; exact ints_get hj') rfl, List.map_cons, List.map_nil, go_sem]
        apply C72
        unfold S72
        simp only [ne_eq, not_true_eq_false, decide_false, go_sem]
        refine ⟨G, le_refl', ?_⟩
        simp only [go_sem]
        rw [decide_eq_false (fun hh => he (hm.1 hh).2)] at h
        exact ⟨G, le_refl', h⟩
    · rename_i hge2
      rw [decide_eq_false (fun hh => hge2 (by have := (hm.1 hh).1; omega))] at h
      exact ⟨G, le_refl', h⟩
def lostB (lost : List Int) (f : Int) : Bool := decide (f ∈ lost)
section
variable {H : AHeap} {k : Nat} {ln : Bool} {lost : List Int} {sv : AV} {ids : List Nat} {sts : List St} {f : Int} {K : AV → AHeap → Prop}
theorem frame_c (h : BusAt H k ln lost sv ids sts f) (hr : Rising lost) (hl : lost.length < 2 ^ 40) (hf : 0 ≤ f ∧ f < 2 ^ 40) (hk : ∀ H', BusAt H' k ln lost sv ids sts (f + 1) → (∀ i, i ≠ k → H' i = H i) → K (.d (.bool (!lostB lost f))) H') : CallsA Try.prog 36 [.ptr k 0 0 0] H K := by
  apply C36
  unfold S36
  simp only [nilCk_ptr, ti52_f1, ti52_f3, getM_of h.node, go_sem]
  refine ⟨_, search_c hr hl ⟨rfl, le_refl'⟩, ?_⟩
  simp only [nilCk_ptr, ti52_f3, getM_of h.node, stoA_agg, stoA_get, stoM, setCells, and_self, true_and, Nat.le_refl, Nat.reduceLeDiff, List.cons_append, List.set_cons_zero, List.getElem?_cons_zero, go_sem]
  rw [wrap_i64 (n := f + 1) (by omega) (by omega)]
  refine ⟨_, le_refl', hk _ ⟨set_self, h.sts.keep (fun i hi => set_ne (h.kne.1 i hi)) fun i hi => set_ne fun he => h.kne.2 (he ▸ hi)⟩ fun i hi => set_ne hi⟩
theorem answers_c {i o : Nat} (h : BusAt H k ln lost sv ids sts f) (hi : i < sts.length) (ho : o < sts.length) (hk : K (.d (.bool (ans sts i o))) H) : CallsA Try.prog 37 [.ptr k 0 0 0, .d (.int .i64 (i : Int)), .d (.int .i64 (o : Int))] H K := by
  apply C37
  unfold S37
  obtain ⟨p, e1, e2⟩ := h.sts.ix hi
  have e3 := h.sts.obj i hi
  obtain ⟨q, f1, f2⟩ := h.sts.ix ho
  have f3 := h.sts.obj o ho
  have ok1 := h.sts.okj hi
  have ok2 := h.sts.okj ho
  unfold ans at hk
  generalize ids.getD i 0 = x at *
  generalize ids.getD o 0 = y at *
  generalize sts.getD i default = s at *
  generalize sts.getD o default = t at *
  simp only [nilCk_ptr, ti52_f2, getM_of h.node, e1, e2, f1, f2, go_sem]
  split
  · rename_i hio
    simp only [show i = o by omega, true_or, if_true] at hk
    exact ⟨H, le_refl', hk⟩
  rename_i hio
  have hio' : i ≠ o := fun he => hio (by rw [he])
  simp only [hio', false_or] at hk
  try simp only [nilCk_ptr, ti68_f1, getM_of e3, St.cells, go_sem]
  split
  · rename_i hon
    rw [if_pos hon] at hk
    exact ⟨H, le_refl', hk⟩
  rename_i hon
  rw [if_neg hon] at hk
  try simp only [nilCk_ptr, ti68_f2, getM_of e3, St.cells, go_sem]
  split
  · rename_i h2
    rw [if_pos h2] at hk
    try simp only [nilCk_ptr, ti68_f5, getM_of e3, St.cells, go_sem]
    refine ⟨_, guess_c f3 ok2.k ok2.len ⟨rfl, le_refl'⟩, ?_⟩
    simp only [go_sem]
    exact ⟨H, le_refl', hk⟩
  rename_i h2
  rw [if_neg h2] at hk
  try simp only [nilCk_ptr, ti68_f2, getM_of e3, St.cells, go_sem]
  split
  · rename_i h1
    rw [if_pos h1] at hk
    try simp only [go_sem]
    refine ⟨_, guess_c e3 ok1.k ok1.len ⟨rfl, le_refl'⟩, ?_⟩
    try simp only [go_sem]
    refine ⟨_, guess_c f3 ok2.k ok2.len ⟨rfl, le_refl'⟩, ?_⟩
    simp only [nilCk_ptr, ti68_f4, getM_of e3, getM_of f3, St.cells, go_sem]
    split
    · rename_i hg
      split
      · rename_i hs
        exact ⟨H, le_refl', k_bool hk (by simp; omega)⟩
      · rename_i hs
        split
        · rename_i he
          exact ⟨H, le_refl', k_bool hk (by rw [decide_eq_decide]; omega)⟩
        · rename_i he
          exact ⟨H, le_refl', k_bool hk (by symm; simp only [decide_eq_false_iff_not]; omega)⟩
    · rename_i hg
      exact ⟨H, le_refl', k_bool hk (by symm; simp only [decide_eq_false_iff_not]; omega)⟩
  · rename_i h1
    rw [if_neg h1] at hk
    exact ⟨H, le_refl', hk⟩
theorem end_c {p : Nat} {s : St} {a : Bool} (hp : H p = some (sObj s)) (ho : s.Ok) (h1 : s.state = 1) (hk : K (.tup []) (H.set p (sObj (s.fin a)))) : CallsA Try.prog 38 [.ptr p 0 0 0, .d (.bool a)] H K := by
  have hg := ho.go h1
  have hkk := ho.k
  have hss := ho.sent
  apply C38
  unfold S38
  unfold St.fin at hk
  simp only [go_sem]
  cases a with
  | true =>
    simp only [if_true] at hk
    simp only [if_true, nilCk_ptr, ti68_f2, ti68_f3, ti68_f4, getM_of hp, St.cells, stoA_agg, stoA_get, stoM, setCells, and_self, true_and, Nat.le_refl, Nat.reduceLeDiff, List.cons_append, List.set_cons_zero, List.getElem?_cons_zero, List.take_succ_cons, List.take_zero, List.drop_succ_cons, List.drop_zero, go_sem]
    rw [wrap_i64 (n := s.k + 1) (by omega) (by omega)]
    split
    · rename_i h3
      rw [if_pos h3] at hk
      try simp only [stoA_agg, stoA_get, stoM, setCells, and_self, true_and, Nat.le_refl, Nat.reduceLeDiff, List.cons_append, List.set_cons_zero, List.getElem?_cons_zero, List.take_succ_cons, List.take_zero, List.drop_succ_cons, List.drop_zero, go_sem]
      exact ⟨_, le_refl', hk⟩
    · rename_i h3
      rw [if_neg h3] at hk
      exact ⟨_, le_refl', hk⟩
  | false =>
    simp only [Bool.false_eq_true, if_false] at hk
    simp only [Bool.false_eq_true, if_false, nilCk_ptr, ti68_f2, ti68_f4, getM_of hp, St.cells, stoA_agg, stoA_get, stoM, setCells, and_self, true_and, Nat.le_refl, Nat.reduceLeDiff, List.cons_append, List.set_cons_zero, List.getElem?_cons_zero, List.take_succ_cons, List.take_zero, List.drop_succ_cons, List.drop_zero, go_sem]
    rw [wrap_i64 (n := s.sent + 1) (by omega) (by omega)]
    split
    · rename_i h3
      rw [if_pos h3] at hk
      try simp only [go_sem]
      have hg2 : (H.set p (.mem 0 0 6 [[.d (.sl s.rn (ints s.row)), .d (.bool s.on), .d (.int .i64 s.state), .d (.int .i64 s.k), .d (.int .i64 (s.sent + 1)), .d (.int .i64 s.node)]])) p = some (sObj { s with sent := s.sent + 1 }) := set_self
      refine guess_c hg2 ho.k ho.len ?_
      simp only [nilCk_ptr, ti68_f2, ti68_f5, getM_of hg2, St.cells, stoA_agg, stoA_get, stoM, setCells, and_self, true_and, Nat.le_refl, Nat.reduceLeDiff, List.cons_append, List.set_cons_zero, List.getElem?_cons_zero, List.take_succ_cons, List.take_zero, List.drop_succ_cons, List.drop_zero, go_sem]
      rw [show s.sent + 1 = 8 from h3]
      exact ⟨_, le_refl', hk⟩
    · rename_i h3
      rw [if_neg h3] at hk
      exact ⟨_, le_refl', hk⟩
end
end Go.Proofs.Ytadpakkenokilaa

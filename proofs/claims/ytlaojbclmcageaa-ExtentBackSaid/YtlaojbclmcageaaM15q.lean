/- How lists are cut, and joined. -/
import Derived.Test.YtlaojbclmcageaaM15p
set_option autoImplicit false
set_option maxRecDepth 100000
set_option linter.unusedVariables false
set_option linter.unusedSimpArgs false
namespace Go.Proofs.Ytlaojbclmcageaa
open Go Go.AM Go.Proofs
theorem sets_at {us : Ups} : ∀ {H : AHeap} {j : Nat}, (∀ i o, (i, o) ∈ us → i ≠ j) → (H.sets us) j = H j := by
  induction us with
  | nil => intro H j _; rfl
  | cons x r ih =>
    intro H j h
    obtain ⟨i, o⟩ := x
    simp only [sets_cons]
    rw [ih fun i' o' hm => h i' o' (List.mem_cons_of_mem _ hm), set_ne (h i o (List.mem_cons_self ..)).symm]
/-- Two lists of one's own. -/
structure Gr2 (H0 H : AHeap) (v w : AV) (l m : List Ext) : Prop where
  a : Gr H0 2 H v (es l)
  b : Gr H0 2 H w (es m)
  ne : ∀ i, idOf v = some i → idOf w ≠ some i
theorem Gr2.fst {H0 H : AHeap} {v w : AV} {l m : List Ext} {a b : Int} (h : Gr2 H0 H v w l m) (hl : l.length < 2 ^ 40) {K : AV → AHeap → Prop} (hk : ∀ v' H', Gr2 H0 H' v' w (l ++ [(a, b)]) m → (∀ i, (H i).isSome → idOf v ≠ some i → H' i = H i) → K v' H') : newK H (fun n27 => apA 2 16 v (.lit [[.int .i64 a, .int .i64 b]]) H n27) K := by
  refine ext_more h.a hl fun v' H' g1 g2 g3 => hk v' H' ⟨g1, ?_, fun i hi hw => ?_⟩ g2
  · refine h.b.keep g1.1 (fun i hi => g2 i ?_ fun hv => h.ne i hv hi) fun _ _ h0 => h0
    obtain ⟨⟨ver, L, ho⟩, _⟩ := h.b.obj hi
    rw [ho]; rfl
  · obtain ⟨⟨ver, L, ho⟩, _⟩ := h.b.obj hw
    rcases g3 i hi with hi | hi
    · exact h.ne i hi hw
    · rw [ho] at hi; cases hi
theorem Gr2.swap {H0 H : AHeap} {v w : AV} {l m : List Ext} (h : Gr2 H0 H v w l m) : Gr2 H0 H w v m l := ⟨h.b, h.a, fun i hw hv => h.ne i hv hw⟩
theorem Gr2.snd {H0 H : AHeap} {v w : AV} {l m : List Ext} {a b : Int} (h : Gr2 H0 H v w l m) (hl : m.length < 2 ^ 40) {K : AV → AHeap → Prop} (hk : ∀ w' H', Gr2 H0 H' v w' l (m ++ [(a, b)]) → (∀ i, (H i).isSome → idOf w ≠ some i → H' i = H i) → K w' H') : newK H (fun n27 => apA 2 16 w (.lit [[.int .i64 a, .int .i64 b]]) H n27) K :=
  h.swap.fst hl fun w' H' g1 g2 => hk w' H' g1.swap g2
theorem Gr2.more {H0 H H' : AHeap} {v w : AV} {l m : List Ext} (h : Gr2 H0 H v w l m) (hle : AHeap.le H H') : Gr2 H0 H' v w l m := ⟨h.a.more hle, h.b.more hle, h.ne⟩
theorem es_isnil {nl : Bool} {l : List Ext} (h : nl = true → es l = []) (hn : nl = true) : l = [] := by
  have := h hn
  cases l with
  | nil => rfl
  | cons x r => cases this
theorem Gr2.ret {H0 H : AHeap} {v w : AV} {l m : List Ext} {x : Dat} {K : AV → AHeap → Prop} (h : Gr2 H0 H v w l m) (hk : ∀ n1 n2, (n1 = true → l = []) → (n2 = true → m = []) → K (.tup [.d (.sl n1 (es l)), .d (.sl n2 (es m)), .d x]) H0) : frzLK [v, w, .d x] H fun vs H' => finA (one1 vs) H' K := by
  obtain ⟨us, _, f2, f3, f4⟩ := h.a.own.frz
  have hb : Gr H0 2 (H.sets us) w (es m) := h.b.keep f3 (fun i hi => sets_at fun i' o hm he => by
    subst he; exact h.ne _ (f4 _ _ hm) hi) fun _ _ h0 => h0
  obtain ⟨us', _, g2, g3, _⟩ := hb.own.frz
  rw [frzLK_of f2, frzLK_of g2]
  simp only [one1, go_sem]
  exact ⟨H0, g3, hk _ _ (es_isnil h.a.own.nilS) (es_isnil hb.own.nilS)⟩
/-! how a list is cut -/
def kp : List Ext → Int → List Ext
  | [], _ => []
  | x :: r, n => (if 0 < min n x.2 then [(x.1, min n x.2)] else []) ++ kp r (n - min n x.2)
def dp : List Ext → Int → List Ext
  | [], _ => []
  | x :: r, n => (if 0 < x.2 - min n x.2 then [(x.1 + min n x.2, x.2 - min n x.2)] else []) ++ dp r (n - min n x.2)
def CutOk (l : List Ext) (n : Int) : Prop := Val 300 l ∧ 0 ≤ n ∧ n ≤ (blk l).length
instance (l : List Ext) (n : Int) : Decidable (CutOk l n) := by unfold CutOk; exact inferInstance
def cutK (l : List Ext) (n : Int) : List Ext := if CutOk l n then kp l n else []
def cutD (l : List Ext) (n : Int) : List Ext := if CutOk l n then dp l n else []
def cutE (l : List Ext) (n : Int) : Int := if CutOk l n then 0 else 2
theorem kp_len : ∀ {l : List Ext} {n : Int}, (kp l n).length ≤ l.length
  | [], _ => by simp [kp]
  | x :: r, n => by
    have := kp_len (l := r) (n := n - min n x.2)
    simp only [kp, List.length_append, List.length_cons]
    split <;> simp <;> omega
theorem dp_len : ∀ {l : List Ext} {n : Int}, (dp l n).length ≤ l.length
  | [], _ => by simp [dp]
  | x :: r, n => by
    have := dp_len (l := r) (n := n - min n x.2)
    simp only [dp, List.length_append, List.length_cons]
    split <;> simp <;> omega
section
variable {nl : Bool} {l : List Ext} {n : Int}
theorem min2_eq {a b : Int} : foldA min2A [.d (.int .i64 a), .d (.int .i64 b)] = some (.d (.int .i64 (min a b))) := by
  simp only [foldA, List.foldl_cons, List.foldl_nil, min2A]
  congr 3
  split <;> omega
theorem blkE_of : blkE l ≠ 0 ↔ ¬ Val 300 l := by
  unfold blkE; split <;> simp_all
theorem Cut_c (hw : Wide l) (hl : l.length ≤ 400) {H : AHeap} {K : AV → AHeap → Prop} (h : ∀ n1 n2, (n1 = true → cutK l n = []) → (n2 = true → cutD l n = []) → K (.tup [.d (.sl n1 (es (cutK l n))), .d (.sl n2 (es (cutD l n))), .d (.int .i64 (cutE l n))]) H) : CallsA Try.prog 41 [.d (.sl nl (es l)), .d (.int .i64 n)] H K := by
  apply C41
  unfold S41
  unfold cutK cutD cutE at h
  have no : ¬ CutOk l n → finA (.tup [.d (.sl true []), .d (.sl true []), .d (.int .i64 2)]) H K := fun hn => by
    simp only [hn, if_false] at h
    exact ⟨H, le_refl', h true true (fun _ => trivial) fun _ => trivial⟩
  simp only [go_sem]
  refine Count_c hw (by omega) ?_
  simp only [go_sem]
  split
  · rename_i h1
    exact no fun hh => blkE_of.1 h1 hh.1
  rename_i h1
  have hv : Val 300 l := Classical.not_not.1 fun hh => h1 (blkE_of.2 hh)
  have hbP : blkP l = blk l := by unfold blkP; rw [if_pos hv]
  try simp only [go_sem]
  split
  · exact no fun hh => by have := hh.2.1; omega
  rename_i h2
  try simp only [hbP, go_sem]
  split
  · exact no fun hh => by have := hh.2.2; omega
  rename_i h3
  have hok : CutOk l n := ⟨hv, by omega, by omega⟩
  simp only [hok, if_true] at h
  have hbl := blk_len (val_ok hv)
  try simp only [es_len, go_sem]
  refine loop_ind (fun r vs G => ∃ (j : Nat) (v w : AV) (A B : List Ext) (N : Int), j ≤ l.length ∧ r = l.length - j ∧ Gr2 H G v w A B ∧ A.length ≤ j ∧ B.length ≤ j ∧ 0 ≤ N ∧ N ≤ n ∧ kp l n = A ++ kp (l.drop j) N ∧ dp l n = B ++ dp (l.drop j) N ∧ vs = [.d (.int .i64 N), v, w, .d (.sl nl (es l)), .d (.int .i64 l.length), .d (.int .i64 j)]) (n := l.length)
    ⟨0, _, _, [], [], n, by omega, by omega, ⟨Gr.nil le_refl', Gr.nil le_refl', by simp [idOf]⟩, by simp, by simp, by omega, by omega, by simp, by simp, rfl⟩ ?_
  rintro X r vs G ⟨j, v, w, A, B, N, hj, rfl, hG, hA, hB, hN0, hNn, hkp, hdp, rfl⟩ hX
  simp only [List.getD_cons_succ, List.getD_cons_zero, go_sem]
  split
  · rename_i hlt
    have hj' : j < l.length := by omega
    have hox := val_ok hv l[j] (List.getElem_mem hj')
    rw [List.drop_eq_getElem_cons hj'] at hkp hdp
    simp only [kp, dp] at hkp hdp
    generalize hxj : l[j] = x at hox hkp hdp
    unfold Ok1 at hox
    have hix : indexAddrA ti23 2 (.d (.sl nl (es l))) (.d (.int .i64 j)) = some (.vptr (ex x) 0) := sl_get (e := 66) rfl (by omega) (by rw [Int.toNat_natCast, es_get hj', hxj]) rfl
    simp only [hix, ex, List.map_cons, List.map_nil, go_sem]
    refine alloc_open fun k2 G2 hG2 hle2 hk2 => ?_
    simp only [getM_of hG2, ti66_f0, ti66_f1, stoA_agg, stoA_get, stoM, setCells, and_self, true_and, Nat.le_refl, Nat.reduceLeDiff, List.cons_append, List.set_cons_zero, List.getElem?_cons_zero, go_sem]
    generalize hX2 : G2.set k2 _ = X2
    have hXk : X2 k2 = some (.mem 0 0 2 [[.d (.int .i64 x.1), .d (.int .i64 x.2)]]) := by rw [← hX2]; exact set_self
    have hXle : AHeap.le G X2 := by rw [← hX2]; exact set_le hle2 hk2
    have hv2 : idOf v ≠ some k2 := fun he => by obtain ⟨⟨_, _, g⟩, _⟩ := hG.a.obj he; rw [hk2] at g; cases g
    have hw2 : idOf w ≠ some k2 := fun he => by obtain ⟨⟨_, _, g⟩, _⟩ := hG.b.obj he; rw [hk2] at g; cases g
    clear hX2 hle2 hG2
    have hG := hG.more hXle
    simp only [min2_eq, go_sem]
    generalize hc : min N x.2 = c at *
    have next : ∀ v' w' G' (A' B' : List Ext), A'.length ≤ 1 → B'.length ≤ 1 → A' = (if 0 < c then [(x.1, c)] else []) → B' = (if 0 < x.2 - c then [(x.1 + c, x.2 - c)] else []) → Gr2 H G' v' w' (A ++ A') (B ++ B') → X [.d (.int .i64 (IntKind.i64.wrap (N - c))), v', w', .d (.sl nl (es l)), .d (.int .i64 l.length), .d (.int .i64 (IntKind.i64.wrap (j + 1)))] G' := fun v' w' G' A' B' a1 b1 hA' hB' hG' => by
      rw [wrap_i64 (n := N - c) (by omega) (by omega), wrap_i64 (by omega) (by omega)]
      refine hX (l.length - (j + 1)) _ _ (by omega) ⟨j + 1, v', w', A ++ A', B ++ B', N - c, by omega, rfl, hG', by simp; omega, by simp; omega, by omega, by omega, ?_, ?_, rfl⟩
      · rw [hkp, hA', List.append_assoc]
      · rw [hdp, hB', List.append_assoc]
    rw [wrap_i64 (n := x.2 - c) (by omega) (by omega)]
    split
    · rename_i hc0
      simp only [getM_of hXk, bd66_eq, go_sem]
      intro n32 _
      simp only [bs66_1, go_sem]
      refine hG.fst (by omega) fun v3 G3 hG3 hf3 => ?_
      have hk3 : G3 k2 = some (.mem 0 0 2 [[.d (.int .i64 x.1), .d (.int .i64 x.2)]]) := by rw [hf3 k2 (by rw [hXk]; rfl) hv2]; exact hXk
      simp only [getM_of hk3, ti66_f0, ti66_f1, min2_eq, hc, go_sem]
      rw [wrap_i64 (n := x.2 - c) (by omega) (by omega)]
      split
      · rename_i hd0
        rw [wrap_i64 (n := x.1 + x.2) (by omega) (by omega), wrap_i64 (n := x.1 + x.2 - (x.2 - c)) (by omega) (by omega), show x.1 + x.2 - (x.2 - c) = x.1 + c by omega]
        simp only [bd66_eq, go_sem]
        intro n53 _
        simp only [bs66_1, go_sem]
        refine hG3.snd (by omega) fun w4 G4 hG4 hf4 => ?_
        have hk4 : G4 k2 = some (.mem 0 0 2 [[.d (.int .i64 x.1), .d (.int .i64 x.2)]]) := by rw [hf4 k2 (by rw [hk3]; rfl) hw2]; exact hk3
        simp only [getM_of hk4, ti66_f1, min2_eq, hc, go_sem]
        exact next _ _ _ [(x.1, c)] [(x.1 + c, x.2 - c)] (by simp) (by simp) (by rw [if_pos hc0]) (by rw [if_pos hd0]) hG4
      · rename_i hd0
        try simp only [getM_of hk3, ti66_f1, min2_eq, hc, go_sem]
        exact next _ _ _ [(x.1, c)] [] (by simp) (by simp) (by rw [if_pos hc0]) (by rw [if_neg hd0]) (by rw [List.append_nil]; exact hG3)
    · rename_i hc0
      try simp only [getM_of hXk, ti66_f0, ti66_f1, min2_eq, hc, go_sem]
      split
      · rename_i hd0
        rw [wrap_i64 (n := x.1 + x.2) (by omega) (by omega), wrap_i64 (n := x.1 + x.2 - (x.2 - c)) (by omega) (by omega), show x.1 + x.2 - (x.2 - c) = x.1 + c by omega]
        simp only [bd66_eq, go_sem]
        intro n53 _
        simp only [bs66_1, go_sem]
        refine hG.snd (by omega) fun w4 G4 hG4 hf4 => ?_
        have hk4 : G4 k2 = some (.mem 0 0 2 [[.d (.int .i64 x.1), .d (.int .i64 x.2)]]) := by rw [hf4 k2 (by rw [hXk]; rfl) hw2]; exact hXk
        simp only [getM_of hk4, ti66_f1, min2_eq, hc, go_sem]
        exact next _ _ _ [] [(x.1 + c, x.2 - c)] (by simp) (by simp) (by rw [if_neg hc0]) (by rw [if_pos hd0]) (by rw [List.append_nil]; exact hG4)
      · rename_i hd0
        try simp only [getM_of hXk, ti66_f1, min2_eq, hc, go_sem]
        exact next _ _ _ [] [] (by simp) (by simp) (by rw [if_neg hc0]) (by rw [if_neg hd0]) (by rw [List.append_nil, List.append_nil]; exact hG)
  · rename_i hge
    rw [List.drop_eq_nil_of_le (by omega)] at hkp hdp
    simp only [kp, dp, List.append_nil] at hkp hdp
    rw [← hkp, ← hdp] at hG
    exact hG.ret h
end
end Go.Proofs.Ytlaojbclmcageaa

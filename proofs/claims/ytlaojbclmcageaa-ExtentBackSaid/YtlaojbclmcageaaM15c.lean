/- Short lists of extents. -/
import Derived.Test.YtlaojbclmcageaaM15b
set_option autoImplicit false
set_option maxRecDepth 100000
set_option linter.unusedVariables false
set_option linter.unusedSimpArgs false
namespace Go.Proofs.Ytlaojbclmcageaa
open Go Go.AM Go.Proofs
/-- One block more behind a list. -/
def app1 (out : List Ext) (b : Int) : List Ext := match out[out.length - 1]? with
  | some x => if x.1 + x.2 = b then out.set (out.length - 1) (x.1, x.2 + 1) else out ++ [(b, 1)]
  | none => out ++ [(b, 1)]
def Bd (c : Int) (out : List Ext) : Prop := ∀ x ∈ out, (0 ≤ x.1 ∧ x.1 ≤ 300) ∧ (0 ≤ x.2 ∧ x.2 ≤ c)
theorem Bd.app1 {c : Int} {out : List Ext} {b : Int} (h : Bd c out) (hc : 0 ≤ c) (hb : 0 ≤ b ∧ b ≤ 300) : Bd (c + 1) (app1 out b) := by
  have h1 : ∀ x ∈ out, (0 ≤ x.1 ∧ x.1 ≤ 300) ∧ (0 ≤ x.2 ∧ x.2 ≤ c + 1) := fun x hx => by have := h x hx; omega
  have h2 : ∀ x ∈ out ++ [(b, 1)], (0 ≤ x.1 ∧ x.1 ≤ 300) ∧ (0 ≤ x.2 ∧ x.2 ≤ c + 1) := fun x hx => by
    rcases List.mem_append.1 hx with hx | hx
    · exact h1 x hx
    · rw [List.mem_singleton] at hx; subst hx; simp only; omega
  unfold Ytlaojbclmcageaa.app1
  split
  · rename_i x hx
    split
    · intro y hy
      rcases List.mem_or_eq_of_mem_set hy with hy | hy
      · exact h1 y hy
      · have := h x (List.mem_of_getElem? hx)
        subst hy
        simp only
        omega
    · exact h2
  · exact h2
theorem app1_len {out : List Ext} {b : Int} : (app1 out b).length ≤ out.length + 1 := by
  unfold app1
  split
  · split
    · rw [List.length_set]; omega
    · simp
  · simp
theorem bs66_1 {a b : Dat} {H : AHeap} {n : Nat} : bsA ti66 1 [0] [.agg [.d a, .d b]] H n = some (.lit [[a, b]], []) := rfl
theorem bs66_0 {H : AHeap} {n : Nat} : bsA ti66 0 [] [] H n = some (.lit [], []) := rfl
theorem bd66_eq {a b : Int} {H : AHeap} : bdA Try.prog ti66 [0, 1] [.d (.int .i64 a), .d (.int .i64 b)] H = some (.agg [.d (.int .i64 a), .d (.int .i64 b)], []) := by
  simp only [bdA, bd66, cell3, fillA, setCells, List.zip_cons_cons, List.zip_nil_right, Option.map_some, Nat.reduceLeDiff, List.cons_append, go_sem]
/-- One extent more. -/
theorem ext_more {H0 H : AHeap} {v : AV} {l : List Ext} {a b : Int} (h : Gr H0 2 H v (es l)) (hl : l.length < 2 ^ 40) {K : AV → AHeap → Prop} (hk : ∀ v' H', Gr H0 2 H' v' (es (l ++ [(a, b)])) → (∀ i, (H i).isSome → idOf v ≠ some i → H' i = H i) → (∀ i, idOf v' = some i → idOf v = some i ∨ H i = none) → K v' H') : newK H (fun n27 => apA 2 16 v (.lit [[.int .i64 a, .int .i64 b]]) H n27) K := by
  refine Gr.app h (ys := [[.int .i64 a, .int .i64 b]]) rfl (by omega) (by omega) (by simp) (by rw [es_len]; simp [mostBytes]; omega) fun v' H' h1 h2 h3 _ => hk v' H' ?_ h2 h3
  rw [es_app]
  exact h1
theorem ret_es {H H0 G : AHeap} {v : AV} {l : List Ext} {K : AV → AHeap → Prop} (h : Gr H0 2 G v (es l)) (hle : AHeap.le H H0) (hk : ∀ nl, (nl = true → l = []) → K (.d (.sl nl (es l))) H) : retF [v] G K := by
  refine h.own.ret hle (hk _ fun hn => ?_)
  have := h.own.nilS hn
  cases l with
  | nil => rfl
  | cons x r => cases this
theorem es_set {l : List Ext} {j : Nat} {x : Ext} {y : Int} : (es l).set j ((ex x).set 1 (.int .i64 y)) = es (l.set j (x.1, y)) := by
  rw [es, es, List.map_set]; rfl
/-- What is read and changed in the last extent. -/
theorem gr_last {H0 H : AHeap} {v : AV} {l : List Ext} {x : Ext} {e : Nat} {ti : TI} (h : Gr H0 2 H v (es l)) (hk : ti.k = .slice e) (h0 : l ≠ []) (hx : l[l.length - 1]? = some x) :
    ∃ i ver, v = .rs i ver 2 0 (es l).length ∧ indexAddrA ti 2 v (.d (.int .i64 ((l.length : Int) - 1))) = some (.ptr i ver (l.length - 1) 0) ∧ ldV false 1 (.ptr i ver (l.length - 1) 0) H = some (.d (.int .i64 x.1)) ∧ ldV false 1 (.ptr i ver (l.length - 1) 1) H = some (.d (.int .i64 x.2)) ∧
      ∀ y, ∃ o, stoA false 1 (.ptr i ver (l.length - 1) 1) (.d (.int .i64 y)) H = some (.junk, [(i, o)]) ∧ Gr H0 2 (H.set i o) v (es (l.set (l.length - 1) (x.1, y))) := by
  have hpos : 0 < l.length := List.length_pos_iff.2 h0
  have ht : ((l.length : Int) - 1).toNat = l.length - 1 := by omega
  have hc : (es l)[((l.length : Int) - 1).toNat]? = some (ex x) := by rw [ht, es, List.getElem?_map, hx]; rfl
  obtain ⟨i, ver, L, rfl, h1, h2, h3⟩ := h.ix hk (by omega) hc
  rw [ht] at h1 h3
  refine ⟨i, ver, rfl, h1, ?_, ?_, fun y => ?_⟩
  · simp only [ldV_get, h2, ldM, h3, ex, partV, List.map_cons, List.map_nil, List.drop_zero, List.take_succ_cons, List.take_zero, List.length_cons, List.length_nil, if_true, Bool.false_eq_true, if_false]
  · simp only [ldV_get, h2, ldM, h3, ex, partV, List.map_cons, List.map_nil, List.drop_succ_cons, List.drop_zero, List.take_succ_cons, List.take_zero, List.length_cons, List.length_nil, if_true, Bool.false_eq_true, if_false]
  · rw [ht] at hc
    obtain ⟨o, g1, g2⟩ := h.put (off := 1) (y := .int .i64 y) hc (by simp [ex])
    refine ⟨o, g1, ?_⟩
    rw [es_set] at g2
    exact g2
def short (l : List Ext) (bs : List Int) : List Ext := bs.foldl app1 l
theorem short_take {l : List Ext} {bs : List Int} {j : Nat} (h : j < bs.length) : short l (bs.take (j + 1)) = app1 (short l (bs.take j)) bs[j] := by
  simp only [short]
  rw [List.take_add_one, List.getElem?_eq_getElem h]
  simp only [List.foldl_append, Option.toList_some, List.foldl_cons, List.foldl_nil]
theorem short_len {l : List Ext} {bs : List Int} : (short l bs).length ≤ l.length + bs.length := by
  induction bs generalizing l with
  | nil => simp [short]
  | cons b r ih =>
    have h1 := ih (l := app1 l b)
    have h2 := app1_len (out := l) (b := b)
    simp only [short, List.foldl_cons, List.length_cons] at h1 ⊢
    omega
theorem short_bd {c : Int} {l : List Ext} {bs : List Int} (h : Bd c l) (hc : 0 ≤ c) (hb : ∀ b ∈ bs, 0 ≤ b ∧ b ≤ 300) : Bd (c + bs.length) (short l bs) := by
  induction bs generalizing l c with
  | nil => simpa [short] using h
  | cons b r ih =>
    have h1 := ih (c := c + 1) (l := app1 l b) (h.app1 hc (hb b (List.mem_cons_self ..))) (by omega) fun y hy => hb y (List.mem_cons_of_mem _ hy)
    have e : short l (b :: r) = short (app1 l b) r := rfl
    rw [e, List.length_cons]
    have e2 : c + 1 + (r.length : Int) = c + ((r.length + 1 : Nat) : Int) := by omega
    rw [← e2]
    exact h1
theorem of_c {nl : Bool} {bs : List Int} (hb : ∀ b ∈ bs, 0 ≤ b ∧ b ≤ 300) (hl : bs.length < 2 ^ 20) {H : AHeap} {K : AV → AHeap → Prop} (h : ∀ nl, (nl = true → short [] bs = []) → K (.d (.sl nl (es (short [] bs)))) H) : CallsA Try.prog 48 [.d (.sl nl (ints bs))] H K := by
  apply C48
  unfold S48
  simp only [ints_len, go_sem]
  refine loop_ind (fun r vs G => ∃ (j : Nat) (v : AV), j ≤ bs.length ∧ r = bs.length - j ∧ Gr H 2 G v (es (short [] (bs.take j))) ∧ vs = [v, .d (.sl nl (ints bs)), .d (.int .i64 bs.length), .d (.int .i64 j)]) (n := bs.length)
    ⟨0, _, by omega, by omega, Gr.nil le_refl', rfl⟩ ?_
  rintro X r vs G ⟨j, v, hj, rfl, hG, rfl⟩ hX
  simp only [List.getD_cons_succ, List.getD_cons_zero, hG.len, es_len, go_sem]
  split
  · rename_i hlt
    have hj' : j < bs.length := by omega
    have hbj := hb bs[j] (List.getElem_mem hj')
    have ht := short_take (l := []) hj'
    have hlen := short_len (l := []) (bs := bs.take j)
    have htl : (bs.take j).length ≤ bs.length := by simp; omega
    simp only [List.length_nil, Nat.zero_add] at hlen
    have hbd := short_bd (c := 0) (l := []) (bs := bs.take j) (by simp [Bd]) (by omega) fun b hb' => hb b (List.mem_of_mem_take hb')
    generalize hbv : bs[j] = b at hbj ht
    generalize hout : short [] (bs.take j) = out at hG ht hlen hbd
    have hix : indexAddrA ti33 1 (.d (.sl nl (ints bs))) (.d (.int .i64 j)) = some (.vptr [.int .i64 b] 0) := sl_get (e := 3) rfl (by omega) (by rw [Int.toNat_natCast, ints_get hj', hbv]) rfl
    simp only [hix, List.map_cons, List.map_nil, go_sem]
    have next : ∀ v4 G4, Gr H 2 G4 v4 (es (app1 out b)) → X [v4, .d (.sl nl (ints bs)), .d (.int .i64 bs.length), .d (.int .i64 (IntKind.i64.wrap (j + 1)))] G4 := fun v4 G4 hG4 => by
      rw [wrap_i64 (by omega) (by omega)]
      exact hX (bs.length - (j + 1)) _ _ (by omega) ⟨j + 1, v4, by omega, rfl, by rw [ht]; exact hG4, rfl⟩
    by_cases h0 : out = []
    · subst h0
      rw [if_neg (by simp)]
      try simp only [bd66_eq, go_sem]
      intro n43 _
      simp only [bs66_1, go_sem]
      refine ext_more hG (by simp) fun v4 G4 hG4 _ _ => ?_
      exact next _ _ hG4
    · have hpos : 0 < out.length := List.length_pos_iff.2 h0
      obtain ⟨x, hx⟩ : ∃ x, out[out.length - 1]? = some x := ⟨_, List.getElem?_eq_getElem (by omega)⟩
      have hxb := hbd x (List.mem_of_getElem? hx)
      rw [if_pos (by omega)]
      obtain ⟨i, ver, hv, e1, e2, e3, e4⟩ := gr_last hG (ti := ti23) (e := 66) rfl h0 hx
      rw [wrap_i64 (n := (out.length : Int) - 1) (by omega) (by omega)]
      simp only [e1, ti66_f0, ti66_f1, e2, e3, go_sem]
      rw [wrap_i64 (n := x.1 + x.2) (by omega) (by omega)]
      split
      · rename_i heq
        rw [wrap_i64 (n := x.2 + 1) (by omega) (by omega)]
        obtain ⟨o, g1, g2⟩ := e4 (x.2 + 1)
        simp only [g1, go_sem]
        refine next _ _ ?_
        unfold app1
        rw [hx]
        simp only [heq, if_true]
        exact g2
      · rename_i hne
        try simp only [bd66_eq, go_sem]
        intro n43 _
        simp only [bs66_1, go_sem]
        refine ext_more hG (by omega) fun v4 G4 hG4 _ _ => ?_
        refine next _ _ ?_
        unfold app1
        rw [hx]
        simp only [hne, if_false]
        exact hG4
  · rename_i hge
    rw [List.take_of_length_le (by omega)] at hG
    exact ret_es hG le_refl' h
theorem short_c {nl n2 : Bool} {l : List Ext} {bs : List Int} (hll : l.length < 2 ^ 20) (hlb : Bd 300 l) (hb : ∀ b ∈ bs, 0 ≤ b ∧ b ≤ 300) (hl : bs.length < 2 ^ 20) {H : AHeap} {K : AV → AHeap → Prop} (h : ∀ nl, (nl = true → short l bs = []) → K (.d (.sl nl (es (short l bs)))) H) : CallsA Try.prog 52 [.d (.sl n2 (es l)), .d (.sl nl (ints bs))] H K := by
  apply C52
  unfold S52
  intro n1 _
  simp only [bs66_0, go_sem]
  refine Gr.app (l := []) (Gr.lit le_refl') (x := .d (.sl n2 (es l))) (ys := es l) rfl (by omega) (by omega) es_2 (by rw [es_len]; simp [mostBytes]; omega) fun v0 H0 hG0 _ _ _ => ?_
  rw [List.nil_append] at hG0
  refine loop_ind (fun r vs G => ∃ (j : Nat) (v : AV), j ≤ bs.length ∧ r = bs.length - j ∧ Gr H 2 G v (es (short l (bs.take j))) ∧ vs = [.d (.sl nl (ints bs)), v, .d (.int .i64 j)]) (n := bs.length)
    ⟨0, _, by omega, by omega, hG0, rfl⟩ ?_
  rintro X r vs G ⟨j, v, hj, rfl, hG, rfl⟩ hX
  simp only [List.getD_cons_succ, List.getD_cons_zero, ints_len, hG.len, es_len, go_sem]
  split
  · rename_i hlt
    have hj' : j < bs.length := by omega
    have hbj := hb bs[j] (List.getElem_mem hj')
    have ht := short_take (l := l) hj'
    have hlen := short_len (l := l) (bs := bs.take j)
    have htl : (bs.take j).length ≤ bs.length := by simp; omega
    have hbd := short_bd (c := 300) (l := l) (bs := bs.take j) hlb (by omega) fun b hb' => hb b (List.mem_of_mem_take hb')
    generalize hbv : bs[j] = b at hbj ht
    generalize hout : short l (bs.take j) = out at hG ht hlen hbd
    have hix : indexAddrA ti33 1 (.d (.sl nl (ints bs))) (.d (.int .i64 j)) = some (.vptr [.int .i64 b] 0) := sl_get (e := 3) rfl (by omega) (by rw [Int.toNat_natCast, ints_get hj', hbv]) rfl
    have next : ∀ v4 G4, Gr H 2 G4 v4 (es (app1 out b)) → X [.d (.sl nl (ints bs)), v4, .d (.int .i64 (IntKind.i64.wrap (j + 1)))] G4 := fun v4 G4 hG4 => by
      rw [wrap_i64 (by omega) (by omega)]
      exact hX (bs.length - (j + 1)) _ _ (by omega) ⟨j + 1, v4, by omega, rfl, by rw [ht]; exact hG4, rfl⟩
    by_cases h0 : out = []
    · subst h0
      rw [wrap_i64 (n := ((([] : List Ext).length : Nat) : Int) - 1) (by simp) (by simp), if_neg (by simp)]
      simp only [hix, List.map_cons, List.map_nil, bd66_eq, go_sem]
      intro n43 _
      simp only [bs66_1, go_sem]
      refine ext_more hG (by simp) fun v4 G4 hG4 _ _ => ?_
      exact next _ _ hG4
    · have hpos : 0 < out.length := List.length_pos_iff.2 h0
      obtain ⟨x, hx⟩ : ∃ x, out[out.length - 1]? = some x := ⟨_, List.getElem?_eq_getElem (by omega)⟩
      have hxb := hbd x (List.mem_of_getElem? hx)
      obtain ⟨i, ver, hv, e1, e2, e3, e4⟩ := gr_last hG (ti := ti23) (e := 66) rfl h0 hx
      rw [wrap_i64 (n := (out.length : Int) - 1) (by omega) (by omega), if_pos (show (0 : Int) ≤ (out.length : Int) - 1 by omega)]
      simp only [hix, List.map_cons, List.map_nil, e1, ti66_f0, ti66_f1, e2, e3, go_sem]
      rw [wrap_i64 (n := x.1 + x.2) (by omega) (by omega)]
      split
      · rename_i heq
        rw [wrap_i64 (n := x.2 + 1) (by omega) (by omega)]
        obtain ⟨o, g1, g2⟩ := e4 (x.2 + 1)
        simp only [g1, go_sem]
        refine next _ _ ?_
        unfold app1
        rw [hx]
        simp only [heq, if_true]
        exact g2
      · rename_i hne
        simp only [hix, List.map_cons, List.map_nil, bd66_eq, go_sem]
        intro n43 _
        simp only [bs66_1, go_sem]
        refine ext_more hG (by omega) fun v4 G4 hG4 _ _ => ?_
        refine next _ _ ?_
        unfold app1
        rw [hx]
        simp only [hne, if_false]
        exact hG4
  · rename_i hge
    rw [List.take_of_length_le (by omega)] at hG
    exact ret_es hG le_refl' h
end Go.Proofs.Ytlaojbclmcageaa

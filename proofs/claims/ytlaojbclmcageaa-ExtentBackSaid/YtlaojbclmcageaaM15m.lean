/- How a list grows: two lists joined. -/
import Derived.Test.YtlaojbclmcageaaM15l
set_option autoImplicit false
set_option maxRecDepth 100000
set_option linter.unusedVariables false
set_option linter.unusedSimpArgs false
namespace Go.Proofs.Ytlaojbclmcageaa
open Go Go.AM Go.Proofs
theorem clonee_c {nl : Bool} {l : List Ext} (hl : l.length < 2 ^ 40) (hnl : nl = true → l = []) {H : AHeap} {K : AV → AHeap → Prop} (h : ∀ v G, Gr H 2 G v (es l) → nilS v = nl → K v G) : CallsA Try.prog 68 [.d (.sl nl (es l))] H K := by
  apply C68m
  unfold S68m
  simp only [nilA_eql (nl2 := true), go_sem]
  cases nl with
  | true =>
    rw [hnl rfl] at h
    simp only [go_sem]
    exact ⟨H, le_refl', h _ _ (Gr.nil le_refl') rfl⟩
  | false =>
    simp only [go_sem]
    intro n hn
    simp only [bs66_0, go_sem]
    refine (Gr.lit le_refl').app (ys := es l) rfl (by decide) (by decide) es_2 (by rw [es_len]; simp [mostBytes]; omega) fun v' H3 hv' _ _ hn3 => ?_
    rw [List.nil_append] at hv'
    exact ⟨H3, le_refl', h _ _ hv' hn3⟩
/-- One list behind another, joined where they meet. -/
def joinL (l y : List Ext) : List Ext := match l[l.length - 1]?, y with
  | some x, z :: r => if x.1 + x.2 = z.1 then l.set (l.length - 1) (x.1, x.2 + z.2) ++ r else l ++ z :: r
  | _, y => l ++ y
theorem Bd.at {c : Int} {l : List Ext} (h : Bd c l) {j : Nat} {x : Ext} (hx : l[j]? = some x) : (0 ≤ x.1 ∧ x.1 ≤ 300) ∧ (0 ≤ x.2 ∧ x.2 ≤ c) := h x (List.mem_of_getElem? hx)
theorem join_c {n1 n2 : Bool} {l y : List Ext} (hl : l.length < 2 ^ 20) (hy : y.length < 2 ^ 20) (hlb : Bd 100000 l) (hyb : Bd 100000 y) (hn1 : n1 = true → l = []) (hn2 : n2 = true → y = []) {H : AHeap} {K : AV → AHeap → Prop} (h : ∀ nl, (nl = true → joinL l y = []) → K (.d (.sl nl (es (joinL l y)))) H) : CallsA Try.prog 57 [.d (.sl n1 (es l)), .d (.sl n2 (es y))] H K := by
  apply C57
  unfold S57
  simp only [go_sem]
  refine clonee_c (by omega) hn1 fun v G hG _ => ?_
  simp only [hG.len, es_len, go_sem]
  have plain : joinL l y = l ++ y → newK G (fun n => apA 2 16 v (.d (.sl n2 (es y))) G n) fun v H' => retF [v] H' K := fun he => by
    refine hG.app (ys := es y) rfl (by decide) (by decide) es_2 (by rw [es_len, es_len]; simp [mostBytes]; omega) fun v' H3 hv' _ _ _ => ?_
    rw [← es_app, ← he] at hv'
    exact ret_es hv' le_refl' h
  split
  · rename_i h0
    split
    · rename_i h1
      have hne : l ≠ [] := by rintro rfl; simp at h0
      obtain ⟨x, hx⟩ : ∃ x, l[l.length - 1]? = some x := ⟨_, List.getElem?_eq_getElem (by omega)⟩
      obtain ⟨z, r, rfl⟩ : ∃ z r, y = z :: r := by
        cases y with
        | nil => simp at h1
        | cons z r => exact ⟨z, r, rfl⟩
      have hxb := hlb.at hx
      have hzb := hyb z (List.mem_cons_self ..)
      obtain ⟨i, ver, hv, e1, e2, e3, e4⟩ := gr_last hG (ti := ti23) (e := 66) rfl hne hx
      have hix : indexAddrA ti23 2 (.d (.sl n2 (es (z :: r)))) (.d (.int .i64 0)) = some (.vptr (ex z) 0) := sl_get (e := 66) rfl (by omega) rfl rfl
      rw [wrap_i64 (n := (l.length : Int) - 1) (by omega) (by omega)]
      simp only [e1, e2, e3, hix, ex, ti66_f0, ti66_f1, ti66_v0, ti66_v1, go_sem]
      rw [wrap_i64 (n := x.1 + x.2) (by omega) (by omega)]
      split
      · rename_i heq
        rw [wrap_i64 (n := x.2 + z.2) (by omega) (by omega)]
        obtain ⟨o, g1, g2⟩ := e4 (x.2 + z.2)
        have hn2' : n2 = false := by
          cases n2 with
          | false => rfl
          | true => cases hn2 rfl
        have hsl : ∀ H', sliceA 2 (.d (.sl n2 (es (z :: r)))) (some (.d (.int .i64 1))) none none H' = some (.d (.sl n2 (es r))) := fun H' => by
          have e : (es (z :: r)).length = r.length + 1 := by rw [es_len]; rfl
          have hh : headLen 2 (es (z :: r)) = true := rfl
          have hd : ((es (z :: r)).drop 1).take (r.length + 1 - 1) = es r := by
            have : (es (z :: r)).drop 1 = es r := rfl
            rw [this, List.take_of_length_le (by rw [es_len]; omega)]
          simp only [sliceA, bnd, e, hh, show (0 : Int) ≤ 1 by omega, if_true, Int.toNat_one]
          rw [if_pos ⟨by omega, by omega, .inr trivial⟩, hd]
        simp only [g1, hsl, true_and, go_sem]
        refine g2.app (ys := es r) rfl (by decide) (by decide) es_2 (by rw [es_len, es_len, List.length_set]; simp only [List.length_cons] at hy; simp [mostBytes]; omega) fun v' H3 hv' _ _ _ => ?_
        have he : joinL l (z :: r) = l.set (l.length - 1) (x.1, x.2 + z.2) ++ r := by
          simp only [joinL, hx, heq, if_true]
        rw [← es_app, ← he] at hv'
        exact ret_es hv' le_refl' h
      · rename_i hne2
        refine plain ?_
        simp only [joinL, hx, hne2, if_false]
    · rename_i h1
      refine plain ?_
      obtain rfl : y = [] := by
        cases y with
        | nil => rfl
        | cons z r => simp at h1
      unfold joinL
      cases l[l.length - 1]? <;> rfl
  · rename_i h0
    refine plain ?_
    obtain rfl : l = [] := by
      cases l with
      | nil => rfl
      | cons z r => simp at h0
    simp [joinL]
/-! joined with a short list: short -/
def sh (d : Int) : List Ext → List Ext
  | [] => []
  | x :: r => (x.1 - d, x.2 + d) :: r
theorem sh_app1 {d : Int} {out : List Ext} {b : Int} (h : out ≠ []) : app1 (sh d out) b = sh d (app1 out b) := by
  rcases List.eq_nil_or_concat out with rfl | ⟨o, x, rfl⟩
  · exact absurd rfl h
  · rw [List.concat_eq_append]
    cases o with
    | nil =>
      have e : sh d ([] ++ [x]) = [] ++ [(x.1 - d, x.2 + d)] := rfl
      rw [e, app1_snoc, app1_snoc]
      simp only [show x.1 - d + (x.2 + d) = x.1 + x.2 by omega]
      split
      · simp only [List.nil_append, sh, List.cons.injEq, Prod.mk.injEq, and_true, true_and]; omega
      · rfl
    | cons w o =>
      have e : sh d (w :: o ++ [x]) = ((w.1 - d, w.2 + d) :: o) ++ [x] := rfl
      rw [e, app1_snoc, app1_snoc]
      split <;> rfl
theorem app1_ne {out : List Ext} {b : Int} : app1 out b ≠ [] := by
  rcases List.eq_nil_or_concat out with rfl | ⟨o, x, rfl⟩
  · simp [app1_nil]
  · rw [List.concat_eq_append, app1_snoc]; split <;> simp
theorem sh_short {d : Int} {bs : List Int} : ∀ {out : List Ext}, out ≠ [] → short (sh d out) bs = sh d (short out bs) := by
  induction bs with
  | nil => intro out _; rfl
  | cons b r ih => intro out h; rw [short_cons, short_cons, sh_app1 h, ih app1_ne]
theorem pre_app1 {p out : List Ext} {b : Int} (h : out ≠ []) : app1 (p ++ out) b = p ++ app1 out b := by
  rcases List.eq_nil_or_concat out with rfl | ⟨o, x, rfl⟩
  · exact absurd rfl h
  · rw [List.concat_eq_append, ← List.append_assoc, app1_snoc, app1_snoc]
    split <;> simp
theorem pre_short {p : List Ext} {bs : List Int} : ∀ {out : List Ext}, out ≠ [] → short (p ++ out) bs = p ++ short out bs := by
  induction bs with
  | nil => intro out _; rfl
  | cons b r ih => intro out h; rw [short_cons, short_cons, pre_app1 h, ih app1_ne]
theorem short_head {b : Int} {r : List Int} : ∃ c t, short [] (b :: r) = (b, c) :: t := by
  have key : ∀ (r : List Int) (c : Int) (t : List Ext), ∃ c' t', short ((b, c) :: t) r = (b, c') :: t' := by
    intro r
    induction r with
    | nil => intro c t; exact ⟨c, t, rfl⟩
    | cons y r ih =>
      intro c t
      rw [short_cons]
      rcases List.eq_nil_or_concat t with rfl | ⟨o, x, rfl⟩
      · have e : ((b, c) :: [] : List Ext) = [] ++ [(b, c)] := rfl
        rw [e, app1_snoc]
        split
        · exact ih _ _
        · exact ih _ _
      · have e : ((b, c) :: o.concat x : List Ext) = ((b, c) :: o) ++ [x] := by simp
        rw [e, app1_snoc]
        split
        · exact ih _ _
        · exact ih _ _
  exact key r 1 []
theorem joinL_snoc {o : List Ext} {x z : Ext} {r : List Ext} : joinL (o ++ [x]) (z :: r) = if x.1 + x.2 = z.1 then o ++ (x.1, x.2 + z.2) :: r else o ++ x :: z :: r := by
  have hx : (o ++ [x])[(o ++ [x]).length - 1]? = some x := by simp
  have hs : (o ++ [x]).set ((o ++ [x]).length - 1) (x.1, x.2 + z.2) = o ++ [(x.1, x.2 + z.2)] := by
    rw [List.length_append, List.length_singleton, Nat.add_sub_cancel, List.set_append_right _ _ (Nat.le_refl _)]
    simp
  simp only [joinL, hx, hs]
  split <;> simp
theorem join_short {l : List Ext} {bs : List Int} : joinL l (short [] bs) = short l bs := by
  rcases List.eq_nil_or_concat l with rfl | ⟨o, x, rfl⟩
  · cases hs : short [] bs <;> simp [joinL]
  · rw [List.concat_eq_append]
    cases bs with
    | nil => simp [joinL, short]
    | cons b r =>
      obtain ⟨c, t, ht⟩ := short_head (b := b) (r := r)
      rw [ht, joinL_snoc, short_cons, app1_snoc]
      have h1 : short [(b, 1)] r = (b, c) :: t := by rw [← ht]; rfl
      split
      · rename_i he
        simp only at he
        rw [pre_short (by simp)]
        have e : ([(x.1, x.2 + 1)] : List Ext) = sh x.2 [(b, 1)] := by
          simp only [sh, List.cons.injEq, Prod.mk.injEq, and_true]; omega
        rw [e, sh_short (by simp), h1]
        simp only [sh, List.append_cancel_left_eq, List.cons.injEq, Prod.mk.injEq, and_true]; omega
      · rw [pre_short (by simp), h1]
        simp
end Go.Proofs.Ytlaojbclmcageaa

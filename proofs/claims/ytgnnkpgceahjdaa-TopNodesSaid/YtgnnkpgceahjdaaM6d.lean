/- A fast link: Probe, Leave, answers, clashes, New. -/
import Derived.Test.YtgnnkpgceahjdaaM6c
set_option autoImplicit false
set_option maxRecDepth 100000
set_option linter.unusedVariables false
set_option linter.unusedSimpArgs false
set_option linter.unnecessarySimpa false
namespace Go.Proofs.Ytgnnkpgceahjdaa
open Go Go.AM Go.Proofs
def Pt.leave (s : Pt) : Pt := { s with state := 0, k := 0, sent := 0 }
theorem z600 : (0 : Int) ≤ 0 ∧ (0 : Int) ≤ 600 := by decide
theorem z10 : (0 : Int) ≤ 0 ∧ (0 : Int) ≤ 10 := by decide
theorem z61 : (0 : Int) < 600 ∧ (0 : Int) < 10 := by decide
theorem Pt.Ok.leave {s : Pt} (h : s.Ok) : s.leave.Ok := ⟨z600, z10, (fun h => by cases h), h.wf, h.len⟩
theorem Pt.Ok.probe {s : Pt} (h : s.Ok) : ({ s.leave with state := 1 } : Pt).Ok := ⟨z600, z10, (fun _ => z61), h.wf, h.len⟩
section
variable {H G : AHeap} {k : Nat} {sv : AV} {ids : List Nat} {sts : List Pt} {f : Int} {K : AV → AHeap → Prop}
theorem st8 {p n : Nat} {cs : List AV} {v : AV} (h : H p = some (.mem 0 0 8 [cs])) (hn : n < cs.length) (hv : v.storable = true) (hv2 : v.cells = [v]) : stoA false 1 (.ptr p 0 0 n) v H = some (.junk, [(p, .mem 0 0 8 [cs.set n v])]) :=
  stoA_at h (Nat.zero_le _) rfl hn hv hv2
theorem leave_c {p : Nat} {s : Pt} (hp : H p = some (pObj s)) (hk : K (.tup []) (H.set p (pObj s.leave))) : CallsA Try.prog 156 [.ptr p 0 0 0] H K := by
  apply C156
  unfold S156
  have s1 := st8 hp (n := 1) (v := .d (.int .i64 0)) (show 1 < 8 by decide) rfl rfl
  have s2 := st8 (H := H.set p (.mem 0 0 8 [s.cells.set 1 (.d (.int .i64 0))])) set_self (n := 2) (v := .d (.int .i64 0)) (show 2 < 8 by decide) rfl rfl
  have s3 := st8 (H := H.set p (.mem 0 0 8 [(s.cells.set 1 (.d (.int .i64 0))).set 2 (.d (.int .i64 0))])) set_self (n := 3) (v := .d (.int .i64 0)) (show 3 < 8 by decide) rfl rfl
  have s4 := st8 (H := H.set p (.mem 0 0 8 [((s.cells.set 1 (.d (.int .i64 0))).set 2 (.d (.int .i64 0))).set 3 (.d (.int .i64 0))])) set_self (n := 6) (v := .d (.sl true [])) (show 6 < 8 by decide) rfl rfl
  have s5 := st8 (H := H.set p (.mem 0 0 8 [(((s.cells.set 1 (.d (.int .i64 0))).set 2 (.d (.int .i64 0))).set 3 (.d (.int .i64 0))).set 6 (.d (.sl true []))])) set_self (n := 7) (v := .d (.sl true [])) (show 7 < 8 by decide) rfl rfl
  simp only [nilCk_ptr, ti169_f1, ti169_f2, ti169_f3, ti169_f5, ti169_f6, Nat.zero_add, optA_some, s1, stepK_some, sets_cons, sets_nil', s2, set_set, s3, s4, s5]
  simp only [go_sem]
  exact ⟨_, le_refl', hk⟩
theorem pset_id {j : Nat} (hj : j < sts.length) : sts.set j (sts.getD j default) = sts := by
  rw [List.getD_eq_getElem?_getD, List.getElem?_eq_getElem hj]
  exact List.set_getElem_self hj
theorem Probe_c (h : LinkAt H k sv ids sts f) (hA : PAlone sts) {i : Int} (hk : ∀ (n : Int) H' sts', LinkAt H' k sv ids sts' f → PAlone sts' → (∀ x, ¬ foot k sv ids x → H' x = H x) → K (.d (.int .i64 n)) H') : CallsA Try.prog 78 [.ptr k 0 0 0, .d (.int .i64 i)] H K := by
  apply C78
  unfold S78
  simp only [frzLK_ptr, frzLK_d, frzLK_nil]
  refine pasked_c h ?_
  by_cases hi : 0 ≤ i ∧ i < sts.length
  · obtain ⟨j, rfl⟩ : ∃ j : Nat, i = j := ⟨i.toNat, by omega⟩
    have hj : j < sts.length := by omega
    rw [if_pos hi]
    obtain ⟨p, e1, e2⟩ := h.sts.ix hj
    have e3 := h.sts.obj j hj
    have okj := h.sts.okj hj
    have hput := h.put hj okj.probe
    have hmem := h.sts.mem hj
    have hset := hA.set hj (s := { (sts.getD j default).leave with state := 1 }) (show (1 : Int) ≠ 2 by decide)
    obtain ⟨_, _, _, l3, _⟩ := h.ld
    generalize ids.getD j 0 = q at *
    generalize sts.getD j default = s at *
    obtain ⟨_, q1, _⟩ := ld169 e3
    simp only [intA_neq, Int.reduceEq, Int.reduceNe, Int.reduceLT, Int.reduceLE, not_true_eq_false, not_false_eq_true, decide_true, decide_false, Int.reduceAdd, Int.reduceSub, Int.reduceMul, optA_some, ifA_f, nilCk_ptr, ti159_f3, ti169_f1, Nat.zero_add, l3, e1, e2, q1, ifA_ite, ne_eq, frzLK_ptr, frzLK_nil]
    refine ite_of (fun h1 => ?_) fun h1 => ?_
    · refine leave_c e3 ?_
      have s1 := st8 (H := H.set q (pObj s.leave)) set_self (n := 1) (v := .d (.int .i64 1)) (show 1 < 8 by decide) rfl rfl
      simp only [s1, stepK_some, sets_cons, sets_nil', set_set]
      simp only [go_sem]
      exact ⟨_, le_refl', hk 0 _ _ hput hset fun x hx => set_ne fun he => hx (.inr (.inr (he ▸ hmem)))⟩
    · simp only [go_sem]
      exact ⟨_, le_refl', hk 0 H sts h hA fun _ _ => rfl⟩
  · rw [if_neg hi]
    simp only [intA_neq, Int.reduceEq, Int.reduceNe, Int.reduceLT, Int.reduceLE, not_true_eq_false, not_false_eq_true, decide_true, decide_false, Int.reduceAdd, Int.reduceSub, Int.reduceMul, go_sem]
    exact ⟨_, le_refl', hk 2 H sts h hA fun _ _ => rfl⟩
theorem Leave_c (h : LinkAt H k sv ids sts f) (hA : PAlone sts) {i : Int} (hk : ∀ (n : Int) H' sts', LinkAt H' k sv ids sts' f → PAlone sts' → (∀ x, ¬ foot k sv ids x → H' x = H x) → K (.d (.int .i64 n)) H') : CallsA Try.prog 80 [.ptr k 0 0 0, .d (.int .i64 i)] H K := by
  apply C80
  unfold S80
  simp only [frzLK_ptr, frzLK_d, frzLK_nil]
  refine pasked_c h ?_
  by_cases hi : 0 ≤ i ∧ i < sts.length
  · obtain ⟨j, rfl⟩ : ∃ j : Nat, i = j := ⟨i.toNat, by omega⟩
    have hj : j < sts.length := by omega
    rw [if_pos hi]
    obtain ⟨p, e1, e2⟩ := h.sts.ix hj
    have e3 := h.sts.obj j hj
    have hput := h.put hj (h.sts.okj hj).leave
    have hmem := h.sts.mem hj
    have hset := hA.set hj (s := (sts.getD j default).leave) (show (0 : Int) ≠ 2 by decide)
    obtain ⟨_, _, _, l3, _⟩ := h.ld
    generalize ids.getD j 0 = q at *
    generalize sts.getD j default = s at *
    simp only [intA_neq, Int.reduceEq, Int.reduceNe, Int.reduceLT, Int.reduceLE, not_true_eq_false, not_false_eq_true, decide_true, decide_false, Int.reduceAdd, Int.reduceSub, Int.reduceMul, optA_some, ifA_f, nilCk_ptr, ti159_f3, Nat.zero_add, l3, e1, e2, frzLK_ptr, frzLK_nil, ne_eq]
    refine leave_c e3 ?_
    simp only [go_sem]
    exact ⟨_, le_refl', hk 0 _ _ hput hset fun x hx => set_ne fun he => hx (.inr (.inr (he ▸ hmem)))⟩
  · rw [if_neg hi]
    simp only [intA_neq, Int.reduceEq, Int.reduceNe, Int.reduceLT, Int.reduceLE, not_true_eq_false, not_false_eq_true, decide_true, decide_false, Int.reduceAdd, Int.reduceSub, Int.reduceMul, go_sem]
    exact ⟨_, le_refl', hk 2 H sts h hA fun _ _ => rfl⟩
theorem addr_eq {a b c d : Int} : aggA Try.prog .eql 165 (.agg [.d (.int .i64 a), .d (.int .i64 b)]) (.agg [.d (.int .i64 c), .d (.int .i64 d)]) = some (.d (.bool (a == c && (b == d && true)))) := by kernel_rfl
theorem pansw_c (h : LinkAt H k sv ids sts f) {i o : Nat} (hi : i < sts.length) (ho : o < sts.length) (hk : K (.d (.bool (pans sts i o))) H) : CallsA Try.prog 196 [.ptr k 0 0 0, .d (.int .i64 (i : Int)), .d (.int .i64 (o : Int))] H K := by
  apply C196
  unfold S196
  obtain ⟨_, _, _, l3, _⟩ := h.ld
  obtain ⟨p1, e1, e2⟩ := h.sts.ix hi
  obtain ⟨p2, g1, g2⟩ := h.sts.ix ho
  have e3 := h.sts.obj i hi
  have g3 := h.sts.obj o ho
  have oks := h.sts.okj hi
  have okt := h.sts.okj ho
  unfold pans at hk
  generalize ids.getD i 0 = ps at *
  generalize ids.getD o 0 = pt at *
  generalize sts.getD i default = s at *
  generalize sts.getD o default = t at *
  obtain ⟨_, _, t2, _⟩ := ld169 g3
  simp only [drA_true, nilCk_ptr, ti159_f3, ti169_f2, Nat.zero_add, l3, e1, e2, g1, g2, optA_some, intA_eql, ifA_ite, t2, frzLK_ptr, frzLK_d, frzLK_nil]
  refine ite_of (fun hio => ?_) fun hio => ?_
  · rw [if_pos (show i = o by omega)] at hk
    simp only [go_sem]
    exact ⟨_, le_refl', hk⟩
  rw [if_neg (show ¬ i = o by omega)] at hk
  refine addr_c h.node g3 okt.wf okt.k ?_
  refine alloc_open fun u G hG hle hu => ?_
  have sto : stoA true 2 (.ptr u 0 0 0) (.agg [.d (.int .i64 (paNet (paX t.row t.k))), .d (.int .i64 (paNode (paX t.row t.k)))]) G = some (.junk, [(u, .mem 0 0 2 [[.d (.int .i64 (paNet (paX t.row t.k))), .d (.int .i64 (paNode (paX t.row t.k)))]])]) := by
    simp only [getM_of hG, stoA_agg, stoA_get, stoM, setCells, and_self, true_and, Nat.le_refl, Nat.reduceLeDiff, List.cons_append, List.set_cons_zero, List.getElem?_cons_zero, go_sem]
  rw [sto]
  simp only [stepK_some, sets_cons, sets_nil']
  obtain ⟨G2, hG2⟩ : ∃ X, G.set u (.mem 0 0 2 [[.d (.int .i64 (paNet (paX t.row t.k))), .d (.int .i64 (paNode (paX t.row t.k)))]]) = X := ⟨_, rfl⟩
  rw [hG2]
  have hle2 : AHeap.le H G2 := fun x ox hx => by rw [← hG2, set_ne (le_ne hx hu)]; exact hle _ _ hx
  have ldu : ldV true 2 (.ptr u 0 0 0) G2 = some (.agg [.d (.int .i64 (paNet (paX t.row t.k))), .d (.int .i64 (paNode (paX t.row t.k)))]) := by
    rw [← hG2]; simp only [ldV, set_self, if_true]; rfl
  have hL2 := h.le hle2
  have e3' := hle2 _ _ e3
  obtain ⟨_, s1, s2, s3, s4, _⟩ := ld169 e3'
  obtain ⟨_, _, _, t3, _⟩ := ld169 (hle2 _ _ g3)
  have fin : ∀ b : Bool, b = (if s.state = 2 then decide (s.net = paNet t.x ∧ s.node = paNode t.x) else if s.state = 1 then decide ((paNet s.x = paNet t.x ∧ paNode s.x = paNode t.x) ∧ (t.sent < s.sent ∨ s.sent = t.sent ∧ i < o)) else false) → retF [.d (.bool b)] G2 K := fun b hb => by
    simp only [go_sem]
    exact ⟨H, hle2, hb ▸ hk⟩
  have tx : paX t.row t.k = t.x := rfl
  have sx : paX s.row s.k = s.x := rfl
  rw [tx] at ldu
  simp only [drA_true, nilCk_ptr, ti169_f1, ti169_f2, ti169_f3, ti169_f4, Nat.zero_add, s1, s2, s3, s4, t3, ldu, optA_some, intA_eql, ifA_ite, addr_eq]
  refine ite_of (fun h2 => ?_) fun h2 => ?_
  · refine fin _ ?_
    rw [if_pos h2]
    by_cases he : s.net = paNet t.x ∧ s.node = paNode t.x
    · simp [he.1, he.2]
    · rw [decide_eq_false he]
      cases hx : (s.net == paNet t.x && (s.node == paNode t.x && true)) with
      | false => rfl
      | true => exact absurd (by simpa using hx) he
  refine ite_of (fun h1 => ?_) fun h1 => ?_
  · rw [if_neg h2, if_pos h1] at fin
    simp only [aggL_ptr, aggL_d, noRsA_nil, rsOf_ptr, rsOf_d, ap_nil, true_and, frzLK_ptr, frzLK_d, frzLK_nil]
    refine ⟨_, addr_c hL2.node e3' oks.wf oks.k ⟨rfl, le_refl'⟩, ?_⟩
    rw [sx]
    simp only [ldu, optA_some, addr_eq]
    by_cases he : paNet s.x = paNet t.x ∧ paNode s.x = paNode t.x
    · have hb : (paNet s.x == paNet t.x && (paNode s.x == paNode t.x && true)) = true := by simp [he.1, he.2]
      simp only [hb, ifA_t, s3, t3, optA_some, intA_gtr, intA_eql, ifA_ite]
      refine ite_of (fun h3 => fin _ (by simp [he, h3])) fun h3 => ?_
      refine ite_of (fun h4 => ?_) fun h4 => fin _ (by simp [he, h3, h4])
      simp only [intA_lss, optA_some]
      refine fin _ ?_
      simp only [he, h4, Int.lt_irrefl, false_or, true_and, and_self, decide_eq_decide]
      omega
    · have hb : (paNet s.x == paNet t.x && (paNode s.x == paNode t.x && true)) = false := by
        cases hx : (paNet s.x == paNet t.x && (paNode s.x == paNode t.x && true)) with
        | false => rfl
        | true => exact absurd (by simpa using hx) he
      simp only [hb, ifA_f]
      exact fin _ (by simp [he])
  · exact fin _ (by rw [if_neg h2, if_neg h1])
theorem pClashes_c (h : LinkAt H k sv ids sts f) (hA : PAlone sts) (hk : K (.d (.sl true [])) H) : CallsA Try.prog 30 [.ptr k 0 0 0] H K := by
  apply C30
  unfold S30
  simp only [frzLK_ptr, frzLK_nil]
  refine pnone_c h ?_
  obtain ⟨_, _, _, lv, _⟩ := h.ld
  have hn := h.sts.n40
  simp only [ifA_f, nilCk_ptr, ti159_f3, Nat.zero_add, lv, h.sts.lenS, optA_some]
  refine loop_ind (fun n vs G => ∃ (j : Nat) (a b c : AV), j ≤ sts.length ∧ n = sts.length - j ∧ vs = [.ptr k 0 0 0, .d (.sl true []), a, b, c, sv, .d (.int .i64 sts.length), .d (.int .i64 (j : Int))] ∧ G = H) (n := sts.length) ⟨0, _, _, _, Nat.zero_le _, rfl, rfl, rfl⟩ ?_
  rintro X n vs G ⟨j, a, b, c, hj, rfl, rfl, rfl⟩ hX
  by_cases hjl : j = sts.length
  · subst hjl
    simp only [List.getD_cons_succ, List.getD_cons_zero, intA_lss, Int.lt_irrefl, Int.reduceEq, Int.reduceNe, Int.reduceLT, Int.reduceLE, not_true_eq_false, not_false_eq_true, decide_true, decide_false, Int.reduceAdd, Int.reduceSub, Int.reduceMul, go_sem]
    exact ⟨_, le_refl', hk⟩
  · have hj' : j < sts.length := by omega
    have hlt : (j : Int) < (sts.length : Int) := by omega
    obtain ⟨p, e1, e2⟩ := h.sts.ix hj'
    have e3 := h.sts.obj j hj'
    have hw : IntKind.i64.wrap ((j : Int) + 1) = ((j + 1 : Nat) : Int) := by rw [wrap_i64 (by omega) (by omega)]; omega
    obtain ⟨_, m1, _, _, m4, _⟩ := ld169 e3
    simp only [List.getD_cons_succ, List.getD_cons_zero, intA_lss, optA_some, hlt, decide_true, ifA_t, e1, e2, intA_add, hw]
    refine loop_ind (fun n vs G' => ∃ (i : Nat), j < i ∧ i ≤ sts.length ∧ n = sts.length - i ∧ vs = [.ptr k 0 0 0, .d (.sl true []), .d (.int .i64 (j : Int)), .ptr (ids.getD j 0) 0 0 0, .d (.int .i64 (i : Int)), sv, .d (.int .i64 sts.length), .d (.int .i64 (j : Int))] ∧ G' = G) (n := sts.length - (j + 1)) ⟨j + 1, by omega, by omega, rfl, rfl, rfl⟩ ?_
    rintro X' n vs G' ⟨i, hji, hi, rfl, rfl, rfl⟩ hX'
    by_cases hil : i = sts.length
    · have hni : ¬ ((i : Int) < (sts.length : Int)) := by omega
      simp only [List.getD_cons_succ, List.getD_cons_zero, nilCk_ptr, ti159_f3, Nat.zero_add, lv, h.sts.lenS, intA_lss, optA_some, hni, decide_false, ifA_f, intA_add, hw]
      exact hX (sts.length - (j + 1)) _ _ (by omega) ⟨j + 1, _, _, _, by omega, rfl, rfl, rfl⟩
    · have hi' : i < sts.length := by omega
      have hlt2 : (i : Int) < (sts.length : Int) := by omega
      obtain ⟨p2, g1, g2⟩ := h.sts.ix hi'
      obtain ⟨_, n1, _, _, n4, _⟩ := ld169 (h.sts.obj i hi')
      have hw2 : IntKind.i64.wrap ((i : Int) + 1) = ((i + 1 : Nat) : Int) := by rw [wrap_i64 (by omega) (by omega)]; omega
      have next := hX' (sts.length - (i + 1)) _ G' (by omega) ⟨i + 1, by omega, by omega, rfl, rfl, rfl⟩
      simp only [List.getD_cons_succ, List.getD_cons_zero, nilCk_ptr, ti159_f3, Nat.zero_add, lv, h.sts.lenS, intA_lss, optA_some, hlt2, decide_true, ifA_t, g1, g2, drA_true, ti169_f1, ti169_f4, m1, n1, m4, n4, intA_eql, intA_add, hw2, ifA_ite, addr_eq]
      refine ite_of (fun h1 => ?_) fun h1 => next
      refine ite_of (fun h2 => ?_) fun h2 => next
      have hne := hA.ne j i hj' hi' (by omega) h1 h2
      have hb : ((sts.getD j default).net == (sts.getD i default).net && ((sts.getD j default).node == (sts.getD i default).node && true)) = false := by
        cases hx : ((sts.getD j default).net == (sts.getD i default).net && ((sts.getD j default).node == (sts.getD i default).node && true)) with
        | false => rfl
        | true => exact absurd (by simpa using hx) hne
      rw [hb]
      exact next
end
end Go.Proofs.Ytgnnkpgceahjdaa

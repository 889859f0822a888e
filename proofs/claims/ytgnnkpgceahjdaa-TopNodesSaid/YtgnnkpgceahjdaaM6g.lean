/- A fast link: the probes of a step, walked. -/
import Derived.Test.YtgnnkpgceahjdaaM6f
set_option autoImplicit false
set_option maxRecDepth 100000
set_option linter.unusedVariables false
set_option linter.unusedSimpArgs false
set_option linter.unnecessarySimpa false
namespace Go.Proofs.Ytgnnkpgceahjdaa
open Go Go.AM Go.Proofs
section
variable {H G : AHeap} {k : Nat} {sv : AV} {ids : List Nat} {sts : List Pt} {f : Int} {K : AV → AHeap → Prop} {a w va : AV} {la lw ask : List Nat} {A : List Bool}
/-- What is done so far to those that probe. -/
structure Part (sts : List Pt) (A : List Bool) (done : List Nat) (S : List Pt) : Prop where
  len : S.length = sts.length
  at' : ∀ x, x < sts.length → S.getD x default = if x ∈ done then (sts.getD x default).fin (A.getD x false) else sts.getD x default
theorem Part.nil : Part sts A [] sts := ⟨rfl, fun x _ => by simp⟩
theorem Part.snoc {done : List Nat} {S : List Pt} (h : Part sts A done S) {x : Nat} (hx : x < sts.length) (hn : x ∉ done) : Part sts A (done ++ [x]) (S.set x ((sts.getD x default).fin (A.getD x false))) := by
  refine ⟨by rw [List.length_set]; exact h.len, fun y hy => ?_⟩
  by_cases hxy : x = y
  · subst hxy
    rw [gD_set_self (by rw [h.len]; exact hx), if_pos (List.mem_append_right _ (List.mem_singleton.2 rfl))]
  · rw [gD_set_ne hxy, h.at' y hy]
    have : y ∈ done ++ [x] ↔ y ∈ done := by
      rw [List.mem_append, List.mem_singleton]
      exact ⟨fun h => h.resolve_right fun he => hxy he.symm, .inl⟩
    simp only [this]
set_option maxHeartbeats 2000000 in
theorem probe_c (h : LinkAt H k sv ids sts f) (hk : ∀ H' sts' f', LinkAt H' k sv ids sts' f' → PStep sts sts' → (∀ i, (H i).isSome → ¬ foot k sv ids i → H' i = H i) → K (.tup []) H') : CallsA Try.prog 157 [.ptr k 0 0 0] H K := by
  have hn := h.sts.n40
  have hkS : (H k).isSome := by rw [h.node]; rfl
  have al : ∀ n, (askP sts n).length ≤ n := fun n => askP_len
  apply C157
  unfold S157
  obtain ⟨_, _, _, l3, _⟩ := h.ld
  simp only [nilCk_ptr, ti159_f3, Nat.zero_add, l3, h.sts.lenS, optA_some]
  refine loop_ind (fun r vs G => ∃ (j : Nat) (a w : AV) (f' : Int), j ≤ sts.length ∧ r = sts.length - j ∧ G k = some (lObj sv f') ∧ P2 H G k a w (askP sts j) (askP sts j) ∧ vs = [.ptr k 0 0 0, a, w, .junk, .junk, sv, .d (.int .i64 sts.length), .d (.int .i64 (j : Int)), .junk, .junk, .junk, .junk, .junk, .junk, .junk, .junk]) (n := sts.length)
    ⟨0, _, _, f, Nat.zero_le _, rfl, h.node, ⟨fun _ _ _ => rfl, by simpa [askP, nats, ints] using Gr.nil no_le, by simpa [askP, nats, ints] using Gr.nil no_le, by simp [idOf], by simp [idOf], by simp [idOf]⟩, rfl⟩ ?_
  rintro X r vs G ⟨j, a, w, f', hj, rfl, hnode, h2, rfl⟩ hX
  have hL := h.now hnode h2.fr
  by_cases hjl : j = sts.length
  · subst hjl
    clear hX
    have hmem : ∀ x, x ∈ askP sts sts.length ↔ x < sts.length ∧ (sts.getD x default).state = 1 := fun x => askP_mem
    have hnd : (askP sts sts.length).Nodup := askP_nodup
    have hal := al sts.length
    obtain ⟨ask, hask⟩ : ∃ l, askP sts sts.length = l := ⟨_, rfl⟩
    rw [hask] at h2 hmem hnd hal
    have lw : lenSl w = some (.d (.int .i64 (ask.length : Int))) := by rw [h2.mw.len, ints_len, nats_len]
    have la : lenSl a = some (.d (.int .i64 (ask.length : Int))) := by rw [h2.ma.len, ints_len, nats_len]
    obtain ⟨_, _, _, g3, _⟩ := hL.ld
    simp only [List.getD_cons_succ, List.getD_cons_zero, intA_lss, Int.lt_irrefl, decide_false, optA_some, ifA_f, nilCk_ptr, ti159_f3, Nat.zero_add, g3, hL.sts.lenS]
    refine make_c (by omega) fun va ia G1 hia hia0 hle1 hA1 => ?_
    have same1 : ∀ i, (G i).isSome → G1 i = G i := fun i hi => by
      obtain ⟨o, ho⟩ := Option.isSome_iff_exists.1 hi
      rw [hle1 i o ho, ho]
    have hnode1 := hle1 _ _ hnode
    have hvN : ∀ i, idOf va = some i → H i = none := fun i hi => by
      rw [hia] at hi; cases hi
      cases hh : H ia with
      | none => rfl
      | some o =>
        by_cases hik : ia = k
        · subst hik; rw [hnode] at hia0; cases hia0
        · have := h2.fr ia (by rw [hh]; rfl) hik
          rw [hia0, hh] at this; cases this
    have h3 : P3 H G1 k a w va ask (List.replicate sts.length false) := by
      refine ⟨⟨fun i hi hik => ?_, h2.ma.keep fun i hi => same1 i (h2.ma.obj hi), h2.mw.keep fun i hi => same1 i (h2.mw.obj hi), h2.aN, h2.wN, h2.aw⟩, hA1, hvN, fun i hi => ⟨fun he => ?_, fun he => ?_⟩⟩
      · rw [same1 i (by rw [h2.fr i hi hik]; exact hi), h2.fr i hi hik]
      · rw [hia] at hi; cases hi; have := h2.ma.obj he; rw [hia0] at this; cases this
      · rw [hia] at hi; cases hi; have := h2.mw.obj he; rw [hia0] at this; cases this
    simp only [lw, optA_some]
    have hrep : ∀ x, (List.replicate sts.length false).getD x false = false := fun x => by rw [List.getD_eq_getElem?_getD, List.getElem?_replicate]; split <;> rfl
    -- who is answered
    refine loop_ind (fun r vs G' => ∃ (j : Nat) (A : List Bool) (f' : Int) (y z u : AV), j ≤ ask.length ∧ r = ask.length - j ∧ G' k = some (lObj sv f') ∧ P3 H G' k a w va ask A ∧ A.length = sts.length ∧ (∀ x, x < sts.length → A.getD x false = (decide (x ∈ ask.take j) && exP sts sts.length x)) ∧ vs = [.ptr k 0 0 0, a, w, va, y, sv, .d (.int .i64 sts.length), .d (.int .i64 (sts.length : Int)), w, .d (.int .i64 ask.length), .d (.int .i64 (j : Int)), z, u, .junk, .junk, .junk]) (n := ask.length)
      ⟨0, _, f', _, _, _, Nat.zero_le _, rfl, hnode1, h3, by simp, fun x hx => by rw [hrep]; simp, rfl⟩ ?_
    rintro X r vs G2 ⟨j, A, f2, y, z, u, hj, rfl, hnode2, h3, hAl, hAx, rfl⟩ hX
    have hL2 := h.now hnode2 h3.two.fr
    obtain ⟨_, _, _, m3, _⟩ := hL2.ld
    by_cases hjl : j = ask.length
    · subst hjl
      clear hX
      simp only [List.getD_cons_succ, List.getD_cons_zero, intA_lss, Int.lt_irrefl, decide_false, optA_some, ifA_f, la]
      rw [List.take_length] at hAx
      refine loop_ind (fun r vs G3 => ∃ (q : Nat) (S : List Pt), q ≤ ask.length ∧ r = ask.length - q ∧ LinkAt G3 k sv ids S f2 ∧ Part sts A (ask.take q) S ∧ (∀ i, i ∉ ids → G3 i = G2 i) ∧ vs = [.ptr k 0 0 0, a, w, va, y, sv, .d (.int .i64 sts.length), .d (.int .i64 (sts.length : Int)), w, .d (.int .i64 ask.length), .d (.int .i64 (ask.length : Int)), z, u, a, .d (.int .i64 ask.length), .d (.int .i64 (q : Int))]) (n := ask.length)
        ⟨0, sts, Nat.zero_le _, rfl, hL2, Part.nil, fun _ _ => rfl, rfl⟩ ?_
      rintro X r vs G3 ⟨q, S, hq, rfl, hB, hP, hO, rfl⟩ hX
      have notid : ∀ i, H i = none → i ∉ ids := fun i hn hm => by have := h.sts.isS (i := i) (.inr hm); rw [hn] at this; cases this
      have ha3 : Mine G3 a (ints (nats ask)) := h3.two.ma.keep fun i hi => hO i (notid i (h3.two.aN i hi))
      have hv3 : Mine G3 va (bls A) := h3.mv.keep fun i hi => hO i (notid i (h3.vN i hi))
      by_cases hql : q = ask.length
      · subst hql
        rw [List.take_length] at hP
        simp only [List.getD_cons_succ, List.getD_cons_zero, intA_lss, Int.lt_irrefl, decide_false, optA_some, ifA_f]
        simp only [go_sem]
        refine ⟨_, le_refl', hk G3 S f2 hB ⟨hP.len, fun x hx => ?_⟩ fun i hi hni => ?_⟩
        · rw [hP.at' x hx]
          by_cases hs1 : (sts.getD x default).state = 1
          · have hxm := (hmem x).2 ⟨hx, hs1⟩
            rw [if_pos hxm, if_pos hs1, hAx x hx, decide_eq_true hxm, Bool.true_and]
            rfl
          · rw [if_neg (fun hm => hs1 ((hmem x).1 hm).2), if_neg hs1]
        · rw [hO i (fun hm => hni (.inr (.inr hm))), h3.two.fr i hi (fun he => hni (.inl he))]
      · have hlt : (q : Int) < (ask.length : Int) := by omega
        obtain ⟨x, hx⟩ : ∃ x, ask[q]? = some x := ⟨_, List.getElem?_eq_getElem (by omega)⟩
        obtain ⟨hxl, hx1⟩ := (hmem x).1 (List.mem_of_getElem? hx)
        have hqlt : q < ask.length := by omega
        have hgx : ask[q] = x := (List.getElem?_eq_some_iff.1 hx).2
        have hnew : x ∉ ask.take q := fun hm => by
          obtain ⟨y, hy, he⟩ := List.mem_iff_getElem.1 hm
          rw [List.length_take] at hy
          rw [List.getElem_take] at he
          have := (List.getElem_inj hnd).1 (he.trans hgx.symm)
          omega
        have htk1 : ask.take (q + 1) = ask.take q ++ [x] := by rw [List.take_add_one, hx]; rfl
        have hPs := hP.snoc hxl hnew
        have hSx := hP.at' x hxl
        rw [if_neg hnew] at hSx
        have hSl := hP.len
        obtain ⟨p, e1, e2⟩ := ask_ix ha3 hx
        obtain ⟨p2, e5, e6⟩ := bls_ix hv3 (x := x) (by omega)
        obtain ⟨_, _, _, n3, _⟩ := hB.ld
        obtain ⟨q1, g1, g2⟩ := hB.sts.ix (j := x) (by omega)
        have g3 := hB.sts.obj x (by omega)
        have hmemx := hB.sts.mem (j := x) (by omega)
        have okx : (sts.getD x default).Ok := by rw [← hSx]; exact hB.sts.okj (by omega)
        rw [hSx] at g3
        have hput := hB.put (j := x) (by omega) (okx.fin hx1 (A.getD x false))
        have hgo := okx.go hx1
        have hkx := okx.k
        have hsx := okx.sent
        have hw : IntKind.i64.wrap ((q : Int) + 1) = ((q + 1 : Nat) : Int) := by rw [wrap_i64 (by omega) (by omega)]; omega
        have kne : k ≠ ids.getD x 0 := fun he => hB.kne.2 (he ▸ hmemx)
        have hX' : ∀ G4, G4 = G3.set (ids.getD x 0) (pObj ((sts.getD x default).fin (A.getD x false))) → X [.ptr k 0 0 0, a, w, va, y, sv, .d (.int .i64 sts.length), .d (.int .i64 (sts.length : Int)), w, .d (.int .i64 ask.length), .d (.int .i64 (ask.length : Int)), z, u, a, .d (.int .i64 ask.length), .d (.int .i64 ((q + 1 : Nat) : Int))] G4 := fun G4 hG4 => by
          subst hG4
          refine hX (ask.length - (q + 1)) _ _ (by omega) ⟨q + 1, _, by omega, rfl, hput, by rw [htk1]; exact hPs, fun i hi => ?_, rfl⟩
          rw [set_ne (fun he : i = ids.getD x 0 => hi (he ▸ hmemx))]
          exact hO i hi
        have hnd3 := hB.node
        generalize ids.getD x 0 = ps at *
        generalize sts.getD x default = s at *
        obtain ⟨_, _, c2, c3, _⟩ := ld169 g3
        simp only [List.getD_cons_succ, List.getD_cons_zero, intA_lss, hlt, decide_true, optA_some, ifA_t, e1, e2, nilCk_ptr, ti159_f3, Nat.zero_add, n3, g1, g2, e5, e6]
        have w1 : IntKind.i64.wrap (s.k + 1) = s.k + 1 := by rw [wrap_i64 (by omega) (by omega)]
        have w2 : IntKind.i64.wrap (s.sent + 1) = s.sent + 1 := by rw [wrap_i64 (by omega) (by omega)]
        cases hA : A.getD x false with
        | true =>
          rw [hA] at hX'
          have s1 := st8 g3 (n := 2) (v := .d (.int .i64 (s.k + 1))) (show 2 < 8 by decide) rfl rfl
          have s2 := st8 (H := G3.set ps (.mem 0 0 8 [s.cells.set 2 (.d (.int .i64 (s.k + 1)))])) set_self (n := 3) (v := .d (.int .i64 0)) (show 3 < 8 by decide) rfl rfl
          have r2 : ldV false 1 (.ptr ps 0 0 2) (G3.set ps (.mem 0 0 8 [(s.cells.set 2 (.d (.int .i64 (s.k + 1)))).set 3 (.d (.int .i64 0))])) = some (.d (.int .i64 (s.k + 1))) := ldV_at set_self rfl rfl
          have s3 := st8 (H := G3.set ps (.mem 0 0 8 [(s.cells.set 2 (.d (.int .i64 (s.k + 1)))).set 3 (.d (.int .i64 0))])) set_self (n := 1) (v := .d (.int .i64 3)) (show 1 < 8 by decide) rfl rfl
          simp only [ifA_t, nilCk_ptr, ti169_f1, ti169_f2, ti169_f3, Nat.zero_add, optA_some, c2, intA_add, w1, s1, stepK_some, sets_cons, sets_nil', s2, set_set, r2, intA_eql, ifA_ite, s3, hw]
          refine ite_of (fun h6 => hX' _ ?_) fun h6 => hX' _ ?_
          · unfold Pt.fin
            simp only [if_true, h6]
            rfl
          · unfold Pt.fin
            simp only [if_true, h6, if_false]
            rfl
        | false =>
          rw [hA] at hX'
          have s1 := st8 g3 (n := 3) (v := .d (.int .i64 (s.sent + 1))) (show 3 < 8 by decide) rfl rfl
          have r3 : ldV false 1 (.ptr ps 0 0 3) (G3.set ps (.mem 0 0 8 [s.cells.set 3 (.d (.int .i64 (s.sent + 1)))])) = some (.d (.int .i64 (s.sent + 1))) := ldV_at set_self rfl rfl
          have r2 : ldV false 1 (.ptr ps 0 0 2) (G3.set ps (.mem 0 0 8 [s.cells.set 3 (.d (.int .i64 (s.sent + 1)))])) = some (.d (.int .i64 s.k)) := ldV_at set_self rfl rfl
          simp only [ifA_f, nilCk_ptr, ti169_f1, ti169_f2, ti169_f3, ti169_f4, Nat.zero_add, optA_some, c3, intA_add, w2, s1, stepK_some, sets_cons, sets_nil', r3, r2, intA_eql, ifA_ite, hw, frzLK_ptr, frzLK_d, frzLK_nil]
          refine ite_of (fun h10 => ?_) fun h10 => hX' _ ?_
          · have g3' : (G3.set ps (.mem 0 0 8 [s.cells.set 3 (.d (.int .i64 (s.sent + 1)))])) ps = some (pObj { s with sent := s.sent + 1 }) := set_self
            have hnd4 : (G3.set ps (.mem 0 0 8 [s.cells.set 3 (.d (.int .i64 (s.sent + 1)))])) k = some (lObj sv f2) := by rw [set_ne kne]; exact hnd3
            refine addr_c hnd4 g3' okx.wf okx.k ?_
            have s4 := st8 g3' (n := 1) (v := .d (.int .i64 2)) (show 1 < 8 by decide) rfl rfl
            have s5 : stoA true 2 (.ptr ps 0 0 4) (.agg [.d (.int .i64 (paNet (paX s.row s.k))), .d (.int .i64 (paNode (paX s.row s.k)))]) (G3.set ps (.mem 0 0 8 [Pt.cells { s with sent := s.sent + 1, state := 2 }])) = some (.junk, [(ps, .mem 0 0 8 [Pt.cells { s with sent := s.sent + 1, state := 2, net := paNet (paX s.row s.k), node := paNode (paX s.row s.k) }])]) := by
              simp only [Pt.cells, getM_set, stoA_agg, stoA_get, stoM, setCells, and_self, true_and, Nat.le_refl, Nat.reduceLeDiff, List.cons_append, List.set_cons_zero, List.getElem?_cons_zero, List.take_succ_cons, List.take_zero, List.drop_succ_cons, List.drop_zero, go_sem]
            have e4 : Pt.cells { s with sent := s.sent + 1, state := 2 } = (Pt.cells { s with sent := s.sent + 1 }).set 1 (.d (.int .i64 2)) := rfl
            rw [e4] at s5
            simp only [s4, stepK_some, sets_cons, sets_nil', set_set, s5]
            refine hX' _ ?_
            unfold Pt.fin
            simp only [Bool.false_eq_true, if_false, h10, if_true]
            rfl
          · unfold Pt.fin
            simp only [Bool.false_eq_true, if_false, h10]
            rfl
    · have hlt : (j : Int) < (ask.length : Int) := by omega
      obtain ⟨x, hx⟩ : ∃ x, ask[j]? = some x := ⟨_, List.getElem?_eq_getElem (by omega)⟩
      obtain ⟨hxl, hx1⟩ := (hmem x).1 (List.mem_of_getElem? hx)
      have hgx : ask[j]'(by omega) = x := (List.getElem?_eq_some_iff.1 hx).2
      have hnew : x ∉ ask.take j := fun hm => by
        obtain ⟨y, hy, he⟩ := List.mem_iff_getElem.1 hm
        rw [List.length_take] at hy
        rw [List.getElem_take] at he
        have := (List.getElem_inj hnd).1 (he.trans hgx.symm)
        omega
      have htk1 : ask.take (j + 1) = ask.take j ++ [x] := by rw [List.take_add_one, hx]; rfl
      obtain ⟨p, e1, e2⟩ := ask_ix h3.two.mw hx
      have hw : IntKind.i64.wrap ((j : Int) + 1) = ((j + 1 : Nat) : Int) := by rw [wrap_i64 (by omega) (by omega)]; omega
      simp only [List.getD_cons_succ, List.getD_cons_zero, intA_lss, hlt, decide_true, optA_some, ifA_t, e1, e2, nilCk_ptr, ti159_f3, Nat.zero_add, m3, hL2.sts.lenS]
      refine loop_ind (fun r vs G3 => ∃ (i : Nat) (B : List Bool) (f3 : Int), i ≤ sts.length ∧ r = sts.length - i ∧ G3 k = some (lObj sv f3) ∧ P3 H G3 k a w va ask B ∧ B.length = sts.length ∧ (∀ y, y < sts.length → B.getD y false = if y = x then exP sts i x else A.getD y false) ∧ vs = [.ptr k 0 0 0, a, w, va, .d (.int .i64 (x : Int)), sv, .d (.int .i64 sts.length), .d (.int .i64 (sts.length : Int)), w, .d (.int .i64 ask.length), .d (.int .i64 (j : Int)), .d (.int .i64 sts.length), .d (.int .i64 (i : Int)), .junk, .junk, .junk]) (n := sts.length)
        ⟨0, A, f2, Nat.zero_le _, rfl, hnode2, h3, hAl, fun y hy => ?_, rfl⟩ ?_
      · split
        · rename_i hyx
          rw [hAx y hy, hyx, decide_eq_false hnew, Bool.false_and]
          exact (decide_eq_false (by rintro ⟨k, hk, _⟩; omega)).symm
        · rfl
      rintro X' r vs G3 ⟨i, B, f3, hi, rfl, hnode3, h4, hBl, hBx, rfl⟩ hX'
      have hL3 := h.now hnode3 h4.two.fr
      by_cases hil : i = sts.length
      · subst hil
        simp only [List.getD_cons_succ, List.getD_cons_zero, intA_lss, Int.lt_irrefl, decide_false, optA_some, ifA_f, intA_add, hw]
        refine hX (ask.length - (j + 1)) _ _ (by omega) ⟨j + 1, B, f3, _, _, _, by omega, rfl, hnode3, h4, hBl, fun y hy => ?_, rfl⟩
        rw [hBx y hy, htk1]
        split
        · rename_i hyx
          subst hyx
          simp
        · rename_i hyx
          rw [hAx y hy]
          have : y ∈ ask.take j ++ [x] ↔ y ∈ ask.take j := by
            rw [List.mem_append, List.mem_singleton]
            exact ⟨fun h => h.resolve_right hyx, .inl⟩
          simp only [this]
      · have hi' : i < sts.length := by omega
        have hlt2 : (i : Int) < (sts.length : Int) := by omega
        have hw2 : IntKind.i64.wrap ((i : Int) + 1) = ((i + 1 : Nat) : Int) := by rw [wrap_i64 (by omega) (by omega)]; omega
        have hes := exP_s (sts := sts) (m := i) (x := x)
        simp only [List.getD_cons_succ, List.getD_cons_zero, intA_lss, hlt2, decide_true, optA_some, ifA_t, frzLK_ptr, frzLK_d, frzLK_nil]
        refine pansw_c hL3 hi' hxl ?_
        cases hans : pans sts i x with
        | false =>
          rw [hans, Bool.or_false] at hes
          simp only [ifA_f, intA_add, hw2, optA_some]
          exact hX' (sts.length - (i + 1)) _ _ (by omega) ⟨i + 1, B, f3, by omega, rfl, hnode3, h4, hBl, fun y hy => by rw [hes]; exact hBx y hy, rfl⟩
        | true =>
          rw [hans, Bool.or_true] at hes
          simp only [ifA_t, frzLK_ptr, frzLK_nil]
          refine pframe_c hL3 fun f4 G4 hL4 hfr4 => ?_
          have h5 := h4.only hkS hfr4
          obtain ⟨im, ver, o, t1, t2, h6, hin⟩ := h5.mark (b := x) (by omega)
          simp only [ifA_t, t1, t2, optA_some, stepK_some, sets_cons, sets_nil', intA_add, hw2]
          refine hX' (sts.length - (i + 1)) _ _ (by omega) ⟨i + 1, B.set x true, f4, by omega, rfl, ?_, h6, by rw [List.length_set]; exact hBl, fun y hy => ?_, rfl⟩
          · rw [set_ne (fun he => by rw [← he] at hin; rw [hin] at hkS; cases hkS)]; exact hL4.node
          · rw [hes]
            by_cases hyx : y = x
            · subst hyx
              rw [if_pos rfl, gD_set_self (by omega)]
            · rw [if_neg hyx, gD_set_ne (Ne.symm hyx), hBx y hy, if_neg hyx]
  · have hj' : j < sts.length := by omega
    have hlt : (j : Int) < (sts.length : Int) := by omega
    obtain ⟨p, e1, e2⟩ := hL.sts.ix hj'
    have e3 := hL.sts.obj j hj'
    obtain ⟨_, c1, _⟩ := ld169 e3
    have hsucc := askP_s (sts := sts) (n := j)
    have alj := al j
    have hw : IntKind.i64.wrap ((j : Int) + 1) = ((j + 1 : Nat) : Int) := by rw [wrap_i64 (by omega) (by omega)]; omega
    simp only [List.getD_cons_succ, List.getD_cons_zero, intA_lss, hlt, decide_true, optA_some, ifA_t, e1, e2, nilCk_ptr, ti169_f1, Nat.zero_add, c1, intA_eql, ifA_ite]
    refine ite_of (fun hs1 => ?_) fun hs1 => ?_
    · rw [if_pos hs1] at hsucc
      simp only [bs3_1, newK_iff, stepK_some, sets_nil']
      intro _ _
      refine h2.app hkS (by rw [hnode]; rfl) (by omega) fun v1 G1 h21 hk1 => ?_
      simp only [frzLK_ptr, frzLK_nil]
      have hnode1 := hk1.trans hnode
      refine pframe_c (h.now hnode1 h21.fr) fun f4 G4 hL4 hfr4 => ?_
      have h22 := h21.only hkS hfr4
      simp only [ifA_t, bs3_1, newK_iff, stepK_some, sets_nil']
      intro _ _
      refine h22.swap.app hkS (by rw [hL4.node]; rfl) (by omega) fun w1 G5 h23 hk5 => ?_
      simp only [intA_add, hw, optA_some]
      exact hX (sts.length - (j + 1)) _ _ (by omega) ⟨j + 1, v1, w1, f4, by omega, rfl, hk5.trans hL4.node, by rw [hsucc]; exact h23.swap, rfl⟩
    · rw [if_neg hs1, List.append_nil] at hsucc
      simp only [intA_add, hw, optA_some]
      exact hX (sts.length - (j + 1)) _ _ (by omega) ⟨j + 1, a, w, f', by omega, rfl, hnode, by rw [hsucc]; exact h2, rfl⟩
end
end Go.Proofs.Ytgnnkpgceahjdaa

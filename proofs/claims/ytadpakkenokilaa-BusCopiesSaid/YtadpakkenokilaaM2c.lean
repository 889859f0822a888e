/- A step of a bus. -/
import Derived.Test.YtadpakkenokilaaM2b
set_option autoImplicit false
set_option maxRecDepth 100000
set_option linter.unusedVariables false
set_option linter.unusedSimpArgs false
namespace Go.Proofs.Ytadpakkenokilaa
open Go Go.AM Go.Proofs
def nats (l : List Nat) : List Int := l.map fun (n : Nat) => (n : Int)
theorem nats_len {l : List Nat} : (nats l).length = l.length := by simp [nats]
def bls (l : List Bool) : List (List Dat) := l.map fun b => [.bool b]
theorem bls_len {l : List Bool} : (bls l).length = l.length := by simp [bls]
theorem no_le {H : AHeap} : AHeap.le noHeap H := fun i o h => by cases h
abbrev Mine (H : AHeap) (v : AV) (l : List (List Dat)) : Prop := Gr noHeap 1 H v l
theorem Mine.keep {H H' : AHeap} {v : AV} {l : List (List Dat)} (h : Mine H v l) (hk : ∀ i, idOf v = some i → H' i = H i) : Mine H' v l := Gr.keep h no_le hk fun _ _ _ => rfl
theorem Mine.obj {H : AHeap} {v : AV} {l : List (List Dat)} (h : Mine H v l) {i : Nat} (hi : idOf v = some i) : (H i).isSome := by
  obtain ⟨⟨ver, L, g⟩, _⟩ := Gr.obj h hi
  rw [g]; rfl
theorem bs3_1 {x : Dat} {H : AHeap} {n : Nat} : bsA ti3 1 [0] [.d x] H n = some (.lit [[x]], []) := rfl
theorem one_more {H : AHeap} {v : AV} {l : List Int} {n : Int} (h : Mine H v (ints l)) (hl : l.length < 2 ^ 40) {K : AV → AHeap → Prop} (hk : ∀ v' H', Mine H' v' (ints (l ++ [n])) → (∀ i, (H i).isSome → idOf v ≠ some i → H' i = H i) → (∀ i, idOf v' = some i → idOf v = some i ∨ H i = none) → K v' H') : newK H (fun m => apA 1 8 v (.lit [[.int .i64 n]]) H m) K := by
  refine Gr.app h (ys := [[.int .i64 n]]) rfl (by omega) (by omega) (by simp) (by rw [ints_len]; simp [mostBytes]; omega) fun v' H' h1 h2 h3 _ => hk v' H' ?_ h2 h3
  rw [ints_app]
  exact h1
theorem gr_get {H : AHeap} {v : AV} {l : List (List Dat)} {j : Nat} {x : Dat} (h : Mine H v l) {ti : TI} {e : Nat} (hk : ti.k = .slice e) (hx : l[j]? = some [x]) : ∃ p, indexAddrA ti 1 v (.d (.int .i64 (j : Int))) = some p ∧ ldV false 1 p H = some (.d x) := by
  obtain ⟨i, ver, L, rfl, g1, g2, g3⟩ := Gr.ix h (j := (j : Int)) hk (by omega) (by rw [Int.toNat_natCast]; exact hx)
  rw [Int.toNat_natCast] at g1 g3
  refine ⟨_, g1, ?_⟩
  simp only [ldV_get, g2, ldM, g3, partV, List.map_cons, List.map_nil, List.drop_zero, List.take_succ_cons, List.take_zero, List.length_cons, List.length_nil, if_true, Bool.false_eq_true, if_false]
theorem bls_put {H : AHeap} {v : AV} {m : List Bool} {b : Nat} {u : Bool} (h : Mine H v (bls m)) (h1 : b < m.length) {ti : TI} {e : Nat} (hk : ti.k = .slice e) :
    ∃ i ver o, idOf v = some i ∧ indexAddrA ti 1 v (.d (.int .i64 (b : Int))) = some (.ptr i ver b 0) ∧ stoA false 1 (.ptr i ver b 0) (.d (.bool u)) H = some (.junk, [(i, o)]) ∧ Mine (H.set i o) v (bls (m.set b u)) := by
  have hc : (bls m)[b]? = some [.bool m[b]] := by simp [bls, h1]
  obtain ⟨i, ver, L, rfl, g1, g2, g3⟩ := Gr.ix h (j := (b : Int)) hk (by omega) (by rw [Int.toNat_natCast]; exact hc)
  rw [Int.toNat_natCast] at g1
  obtain ⟨o, g4, g5⟩ := Gr.put h (off := 0) (y := .bool u) hc (by simp)
  refine ⟨i, ver, o, rfl, g1, g4, ?_⟩
  have e : (bls m).set b ([Dat.bool m[b]].set 0 (.bool u)) = bls (m.set b u) := by simp [bls, List.map_set]
  rw [e] at g5
  exact g5
theorem make_c {n : Nat} (h1 : n ≤ 300) {H : AHeap} {K : AV → AHeap → Prop} (h : ∀ v i H', idOf v = some i → H i = none → AHeap.le H H' → Mine H' v (bls (List.replicate n false)) → K v H') : newK H (fun n5 => mkSlA ti4 (.d (.int .i64 n)) (.d (.int .i64 n)) n5) K := by
  intro m hm
  have e : mkSlA ti4 (.d (.int .i64 n)) (.d (.int .i64 n)) m = some (.rs m 0 1 0 n, [(m, .mem 0 0 1 (repl n [.d (.bool false)]))]) := by
    have e1 : ti4.bytes = 1 := by kernel_rfl
    have e2 : ti4.size = 1 := rfl
    have e3 : ti4.zero = [.d (.bool false)] := rfl
    simp only [mkSlA, e1, e2, e3]
    rw [if_pos (by unfold mostBytes; omega)]
    simp
  simp only [e, stepK, optA, AHeap.sets]
  have hr : repl n [AV.d (.bool false)] = avs (bls (List.replicate n false)) := by simp [repl, avs, bls]
  rw [hr]
  have hl : n = (bls (List.replicate n false)).length := by simp [bls]
  conv => arg 1; rw [hl]
  exact h _ m _ rfl hm (le_set le_refl' hm) (Gr.rs no_le (by simp [bls]) set_self (by rw [← avs_length]; exact List.take_length) (by rw [avs_length]; exact Nat.le_refl _) rfl)
section
variable {H : AHeap} {k : Nat} {ln : Bool} {lost : List Int} {sv : AV} {ids : List Nat} {sts : List St} {f : Int} {K : AV → AHeap → Prop}
theorem BusAt.now (h : BusAt H k ln lost sv ids sts f) {G : AHeap} {f' : Int} (hn : G k = some (.mem 0 0 4 [[.d (.bool true), .d (.sl ln (ints lost)), sv, .d (.int .i64 f')]])) (hf : ∀ i, (H i).isSome → i ≠ k → G i = H i) : BusAt G k ln lost sv ids sts f' :=
  ⟨hn, h.sts.keep (fun i hi => hf i (h.sts.isS (.inl hi)) (h.kne.1 i hi)) fun i hi => hf i (h.sts.isS (.inr hi)) fun he => h.kne.2 (he ▸ hi)⟩
theorem step_tail (h : BusAt H k ln lost sv ids sts f) {G : AHeap} {va v : AV} {A : List Bool} {f2 : Int} {l : List Nat} (hG : BusAt G k ln lost sv ids sts f2) (hfr : ∀ i, (H i).isSome → i ≠ k → G i = H i) (hA : Mine G va (bls A)) (hv : Mine G v (ints (nats l))) (hvF : ∀ i, idOf v = some i → H i = none) (haF : ∀ i, idOf va = some i → H i = none) (hAl : A.length = sts.length)
    (hl : l = askS sts sts.length) (hk : ∀ H', BusAt H' k ln lost sv ids (finS A sts l) f2 → (∀ i, (H i).isSome → ¬ foot k sv ids i → H' i = H i) → K (.d (.int .i64 0)) H') {u0 u4 u5 u6 u7 u8 u9 u10 u11 u12 : AV} :
    loopA (fun X76 l77 H78 => optA (intA .lss (l77.getD 15 .junk) (l77.getD 14 .junk)) fun v79 => ifA v79 (optA (indexAddrA ti22 1 (l77.getD 13 .junk) (l77.getD 15 .junk)) fun v80 => optA (ldV false 1 v80 H78) fun v81 => drA true (optA (nilCkA (l77.getD 0 .junk)) fun v82 => optA (fieldA ti52 v82 2) fun v83 => optA (ldV false 1 v83 H78) fun v84 => optA (indexAddrA ti50 1 v84 v81) fun v85 => optA (ldV false 1 v85 H78) fun v86 => optA (indexAddrA ti71 1 (l77.getD 3 .junk) v81) fun v87 => optA (ldV false 1 v87 H78) fun v88 => frzLK [v86, v88] H78 fun l91 H92 => (CallsA Try.prog) 38 l91 H92 fun v89 H90 => optA (intA .add (l77.getD 15 .junk) (.d (.int .i64 1))) fun v93 => X76 [l77.getD 0 .junk, l77.getD 1 .junk, l77.getD 2 .junk, l77.getD 3 .junk, l77.getD 4 .junk, l77.getD 5 .junk, l77.getD 6 .junk, l77.getD 7 .junk, l77.getD 8 .junk, l77.getD 9 .junk, l77.getD 10 .junk, l77.getD 11 .junk, l77.getD 12 .junk, l77.getD 13 .junk, l77.getD 14 .junk, v93] H90)) (retF [.d (.int .i64 0)] H78 K)) [.ptr k 0 0 0, v, u0, va, u4, u5, u6, u7, u8, u9, u10, u11, u12, v, .d (.int .i64 l.length), .d (.int .i64 0)] G := by
  have hlt : ∀ i ∈ l, i < sts.length ∧ (sts.getD i default).state = 1 := fun i hi => by
    rw [hl] at hi
    refine ⟨askS_lt hi, ?_⟩
    simp only [askS, List.mem_filter, decide_eq_true_eq] at hi
    exact hi.2
  have hnd : l.Nodup := by rw [hl]; exact (List.filter_sublist.nodup List.nodup_range)
  have hll : l.length ≤ 40 := by rw [hl]; have := askS_len (sts := sts) (n := sts.length); have := h.sts.n40; omega
  refine loop_ind (fun r vs G' => ∃ j : Nat, j ≤ l.length ∧ r = l.length - j ∧ BusAt G' k ln lost sv ids (finS A sts (l.take j)) f2 ∧ (∀ i, ¬ i ∈ ids → G' i = G i) ∧ (∀ i, i < sts.length → i ∉ l.take j → (finS A sts (l.take j)).getD i default = sts.getD i default) ∧ vs = [.ptr k 0 0 0, v, u0, va, u4, u5, u6, u7, u8, u9, u10, u11, u12, v, .d (.int .i64 l.length), .d (.int .i64 j)]) (n := l.length)
    ⟨0, by omega, by omega, hG, fun _ _ => rfl, fun _ _ _ => rfl, rfl⟩ ?_
  rintro X r vs G' ⟨j, hj, rfl, hB, hO, hsame, rfl⟩ hX
  simp only [List.getD_cons_succ, List.getD_cons_zero, go_sem]
  have notid : ∀ i, H i = none → i ∉ ids := fun i hn hm => by have := h.sts.isS (i := i) (.inr hm); rw [hn] at this; cases this
  have hv' : Mine G' v (ints (nats l)) := hv.keep fun i hi => hO i (notid i (hvF i hi))
  have hA' : Mine G' va (bls A) := hA.keep fun i hi => hO i (notid i (haF i hi))
  split
  · rename_i hlt1
    have hj' : j < l.length := by omega
    obtain ⟨hi1, hi2⟩ := hlt l[j] (List.getElem_mem hj')
    have hnew : l[j] ∉ l.take j := fun hm => by
      obtain ⟨x, hx, he⟩ := List.mem_iff_getElem.1 hm
      rw [List.length_take] at hx
      rw [List.getElem_take] at he
      have := (List.getElem_inj hnd).1 he
      omega
    have htk := finS_take (A := A) (sts := sts) hj'
    have hs1 := hsame _ hi1 hnew
    have htk1 : l.take (j + 1) = l.take j ++ [l[j]] := by rw [List.take_add_one, List.getElem?_eq_getElem hj']; rfl
    have hfl : (finS A sts (l.take j)).length = sts.length := finS_len
    have hxj : (ints (nats l))[j]? = some [.int .i64 ((l[j] : Nat) : Int)] := by simp [ints, nats, hj']
    generalize l[j] = i at *
    obtain ⟨p, e1, e2⟩ := gr_get hv' (ti := ti22) (e := 3) rfl hxj
    obtain ⟨q, e3, e4⟩ := hB.sts.ix (j := i) (by omega)
    have hAi : (bls A)[i]? = some [.bool (A.getD i false)] := by simp [bls, List.getD_eq_getElem?_getD, show i < A.length by omega]
    obtain ⟨q2, e5, e6⟩ := gr_get hA' (ti := ti71) (e := 4) rfl hAi
    have e7 := hB.sts.obj i (by omega)
    have hok := hB.sts.okj (j := i) (by omega)
    simp only [e1, e2, nilCk_ptr, ti52_f2, getM_of hB.node, e3, e4, e5, e6, go_sem]
    refine end_c e7 hok (by rw [hs1]; exact hi2) ?_
    rw [wrap_i64 (by omega) (by omega)]
    refine hX (l.length - (j + 1)) _ _ (by omega) ⟨j + 1, by omega, rfl, ?_, fun x hx => ?_, fun x hx hn => ?_, rfl⟩
    · rw [htk]
      exact hB.put (by omega) (hok.fin (by rw [hs1]; exact hi2) _)
    · rw [set_ne (fun he : x = ids.getD i 0 => hx (he ▸ hB.sts.mem (by omega)))]
      exact hO x hx
    · rw [htk1, List.mem_append, List.mem_singleton, not_or] at hn
      rw [htk, getD_set_ne (Ne.symm hn.2)]
      exact hsame x hx hn.1
  · rename_i hge
    rw [List.take_of_length_le (by omega)] at hB
    refine ⟨G', le_refl', hk G' hB fun i hi hn => ?_⟩
    rw [hO i (fun hm => hn (.inr (.inr hm))), hfr i hi (fun he => hn (.inl he))]
theorem Step_c (h : BusAt H k ln lost sv ids sts f) (hr : Rising lost) (hll : lost.length < 2 ^ 40) (hf : 0 ≤ f ∧ f < 2 ^ 39) (hk : ∀ H', BusAt H' k ln lost sv ids (step (lostB lost) sts f).1 (step (lostB lost) sts f).2 → (∀ i, (H i).isSome → ¬ foot k sv ids i → H' i = H i) → K (.d (.int .i64 0)) H') : CallsA Try.prog 15 [.ptr k 0 0 0] H K := by
  have hn := h.sts.n40
  apply C15
  unfold S15
  simp only [go_sem]
  refine none_c h ?_
  simp only [nilCk_ptr, ti52_f2, getM_of h.node, h.sts.lenS, go_sem]
  have al : ∀ n, (askS sts n).length ≤ n := fun n => askS_len
  refine loop_ind (fun r vs G => ∃ (j : Nat) (v w : AV), j ≤ sts.length ∧ r = sts.length - j ∧ G k = some (.mem 0 0 4 [[.d (.bool true), .d (.sl ln (ints lost)), sv, .d (.int .i64 (f + (askS sts j).length))]]) ∧ (∀ i, (H i).isSome → i ≠ k → G i = H i) ∧ Mine G v (ints (nats (askS sts j))) ∧ Mine G w (ints (nats (hearS (lostB lost) (askS sts j) f))) ∧ (∀ i, idOf v = some i → H i = none) ∧ (∀ i, idOf w = some i → H i = none) ∧ (∀ i, idOf v = some i → idOf w ≠ some i) ∧
      vs = [.ptr k 0 0 0, v, w, .junk, .junk, sv, .d (.int .i64 sts.length), .d (.int .i64 j), .junk, .junk, .junk, .junk, .junk, .junk, .junk, .junk]) (n := sts.length)
    ⟨0, _, _, by omega, by omega, by simpa [askS] using h.node, fun _ _ _ => rfl, by simpa [askS, nats, ints] using Gr.nil no_le, by simpa [askS, hearS, nats, ints] using Gr.nil no_le, by simp [idOf], by simp [idOf], by simp [idOf], rfl⟩ ?_
  rintro X r vs G ⟨j, v, w, hj, rfl, hnode, hfr, hv, hw, hvF, hwF, hvw, rfl⟩ hX
  have hB := h.now hnode hfr
  simp only [List.getD_cons_succ, List.getD_cons_zero, go_sem]
  have kS : (H k).isSome := by rw [h.node]; rfl
  split
  · rename_i hlt
    have hj' : j < sts.length := by omega
    obtain ⟨p, e1, e2⟩ := hB.sts.ix hj'
    have e3 := hB.sts.obj j hj'
    have hsucc := askS_succ (sts := sts) (n := j)
    have alj := al j
    simp only [e1, e2, nilCk_ptr, ti68_f2, getM_of e3, St.cells, go_sem]
    split
    · rename_i hs1
      rw [if_pos hs1] at hsucc
      intro n21 _
      simp only [bs3_1, go_sem]
      refine one_more hv (by rw [nats_len]; omega) fun v1 G1 hv1 hf1 hi1 => ?_
      have hv1F : ∀ i, idOf v1 = some i → H i = none := fun i hi => by
        rcases hi1 i hi with h2 | h2
        · exact hvF i h2
        · cases hh : H i with
          | none => rfl
          | some o =>
            by_cases hik : i = k
            · subst hik; rw [hnode] at h2; cases h2
            · have := hfr i (by rw [hh]; rfl) hik
              rw [h2, hh] at this; cases this
      have hnode1 : G1 k = _ := (hf1 k (by rw [hnode]; rfl) (fun he => by rw [hvF k he] at kS; cases kS)).trans hnode
      have hfr1 : ∀ i, (H i).isSome → i ≠ k → G1 i = H i := fun i hi hik => by
        rw [hf1 i (by rw [hfr i hi hik]; exact hi) (fun he => by rw [hvF i he] at hi; cases hi)]
        exact hfr i hi hik
      have hw1 : Mine G1 w _ := hw.keep fun i hi => hf1 i (hw.obj hi) fun he => hvw i he hi
      have hv1w : ∀ i, idOf v1 = some i → idOf w ≠ some i := fun i hi hwi => by
        rcases hi1 i hi with h2 | h2
        · exact hvw i h2 hwi
        · have := hw.obj hwi; rw [h2] at this; cases this
      refine frame_c (h.now hnode1 hfr1) hr hll (by omega) fun G2 hB2 hO2 => ?_
      have hnode2 : G2 k = some (.mem 0 0 4 [[.d (.bool true), .d (.sl ln (ints lost)), sv, .d (.int .i64 (f + (askS sts (j + 1)).length))]]) := by
        have e : f + (((askS sts (j + 1)).length : Nat) : Int) = f + ((askS sts j).length : Int) + 1 := by rw [hsucc, List.length_append, List.length_singleton]; omega
        rw [hB2.node, e]
      have hfr2 : ∀ i, (H i).isSome → i ≠ k → G2 i = H i := fun i hi hik => by rw [hO2 i hik]; exact hfr1 i hi hik
      have hv2 : Mine G2 v1 (ints (nats (askS sts (j + 1)))) := by
        have : nats (askS sts (j + 1)) = nats (askS sts j) ++ [(j : Int)] := by rw [hsucc]; simp [nats]
        rw [this]
        exact hv1.keep fun i hi => hO2 i fun he => by have := hv1F i hi; rw [he] at this; rw [this] at kS; cases kS
      have hw2 : Mine G2 w (ints (nats (hearS (lostB lost) (askS sts j) f))) := hw1.keep fun i hi => hO2 i fun he => by have := hwF i hi; rw [he] at this; rw [this] at kS; cases kS
      have hhear : hearS (lostB lost) (askS sts (j + 1)) f = hearS (lostB lost) (askS sts j) f ++ if lostB lost (f + ((askS sts j).length : Int)) then [] else [j] := by rw [hsucc, hearS_snoc]
      have hhl := hearS_len (lost := lostB lost) (l := askS sts j) (f := f)
      simp only [go_sem]
      cases hlo : lostB lost (f + ((askS sts j).length : Int)) with
      | false =>
        rw [hlo] at hhear
        simp only [Bool.not_false, if_true, go_sem]
        intro n31 _
        simp only [bs3_1, go_sem]
        refine one_more hw2 (by rw [nats_len]; omega) fun w3 G3 hw3 hf3 hi3 => ?_
        rw [wrap_i64 (by omega) (by omega)]
        refine hX (sts.length - (j + 1)) _ _ (by omega) ⟨j + 1, v1, w3, by omega, rfl, ?_, fun i hi hik => ?_, ?_, ?_, hv1F, fun i hi => ?_, fun i hi hwi => ?_, rfl⟩
        · rw [hf3 k (by rw [hnode2]; rfl) (fun he => by rw [hwF k he] at kS; cases kS)]; exact hnode2
        · rw [hf3 i (by rw [hfr2 i hi hik]; exact hi) (fun he => by rw [hwF i he] at hi; cases hi)]
          exact hfr2 i hi hik
        · exact hv2.keep fun i hi => hf3 i (hv2.obj hi) fun he => hv1w i hi he
        · have : nats (hearS (lostB lost) (askS sts (j + 1)) f) = nats (hearS (lostB lost) (askS sts j) f) ++ [(j : Int)] := by rw [hhear]; simp [nats]
          rw [this]
          exact hw3
        · rcases hi3 i hi with h2 | h2
          · exact hwF i h2
          · cases hh : H i with
            | none => rfl
            | some o =>
              by_cases hik : i = k
              · subst hik; rw [hnode2] at h2; cases h2
              · have := hfr2 i (by rw [hh]; rfl) hik
                rw [h2, hh] at this; cases this
        · rcases hi3 i hwi with h2 | h2
          · exact hv1w i hi h2
          · have := hv2.obj hi; rw [h2] at this; cases this
      | true =>
        rw [hlo] at hhear
        try simp only [Bool.not_true, Bool.false_eq_true, if_false, go_sem]
        rw [wrap_i64 (by omega) (by omega)]
        refine hX (sts.length - (j + 1)) _ _ (by omega) ⟨j + 1, v1, w, by omega, rfl, hnode2, hfr2, hv2, ?_, hv1F, hwF, hv1w, rfl⟩
        rw [hhear]
        simpa using hw2
    · rename_i hs1
      rw [if_neg hs1, List.append_nil] at hsucc
      rw [wrap_i64 (by omega) (by omega)]
      exact hX (sts.length - (j + 1)) _ _ (by omega) ⟨j + 1, v, w, by omega, rfl, by rw [hsucc]; exact hnode, hfr, by rw [hsucc]; exact hv, by rw [hsucc]; exact hw, hvF, hwF, hvw, rfl⟩
  · rename_i hge
    have hje : j = sts.length := by omega
    subst hje
    clear hX
    have hal := al sts.length
    have hhl := hearS_len (lost := lostB lost) (l := askS sts sts.length) (f := f)
    generalize hask : askS sts sts.length = ask at *
    generalize hhr : hearS (lostB lost) ask f = hear at *
    have hheard : ∀ i ∈ hear, i < sts.length := fun i hi => by
      rw [← hhr] at hi
      have := hearS_sub hi
      rw [← hask] at this
      exact askS_lt this
    simp only [nilCk_ptr, ti52_f2, getM_of hnode, hB.sts.lenS, go_sem]
    refine make_c (by omega) fun va ia G1 hia hia0 hle1 hA1 => ?_
    have lw : lenSl w = some (.d (.int .i64 hear.length)) := by rw [hw.len, ints_len, nats_len]
    have lv : lenSl v = some (.d (.int .i64 ask.length)) := by rw [hv.len, ints_len, nats_len]
    have haF0 : ∀ i, idOf va = some i → H i = none := fun i hi => by
      rw [hia] at hi; cases hi
      cases hh : H ia with
      | none => rfl
      | some o =>
        by_cases hik : ia = k
        · subst hik; rw [hnode] at hia0; cases hia0
        · have := hfr ia (by rw [hh]; rfl) hik
          rw [hia0, hh] at this; cases this
    have hav : ∀ i, idOf va = some i → idOf v ≠ some i := fun i hi hvi => by rw [hia] at hi; cases hi; have := hv.obj hvi; rw [hia0] at this; cases this
    have haw : ∀ i, idOf va = some i → idOf w ≠ some i := fun i hi hvi => by rw [hia] at hi; cases hi; have := hw.obj hvi; rw [hia0] at this; cases this
    have hnode1 := hle1 _ _ hnode
    have same1 : ∀ i, (G i).isSome → G1 i = G i := fun i hi => by
      cases hg : G i with
      | none => rw [hg] at hi; cases hi
      | some o => exact hle1 i o hg
    simp only [lw, go_sem]
    refine loop_ind (fun r vs G' => ∃ (j : Nat) (u4 u11 u12 : AV), j ≤ hear.length ∧ r = hear.length - j ∧ G' k = some (.mem 0 0 4 [[.d (.bool true), .d (.sl ln (ints lost)), sv, .d (.int .i64 (an3 (lostB lost) sts (f + ask.length, List.replicate sts.length false) (hear.take j)).1)]]) ∧ Mine G' va (bls (an3 (lostB lost) sts (f + ask.length, List.replicate sts.length false) (hear.take j)).2) ∧ (∀ i, (G i).isSome → i ≠ k → G' i = G i) ∧
        vs = [.ptr k 0 0 0, v, w, va, u4, sv, .d (.int .i64 sts.length), .d (.int .i64 sts.length), w, .d (.int .i64 hear.length), .d (.int .i64 j), u11, u12, .junk, .junk, .junk]) (n := hear.length)
      ⟨0, _, _, _, by omega, by omega, hnode1, hA1, fun i hi _ => same1 i hi, rfl⟩ ?_
    rintro X2 r2 vs2 G2 ⟨j, u4, u11, u12, hj, rfl, hn2, hA2, hO2, rfl⟩ hX2
    have hfr2 : ∀ i, (H i).isSome → i ≠ k → G2 i = H i := fun i hi hik => by
      rw [hO2 i (by rw [hfr i hi hik]; exact hi) hik]; exact hfr i hi hik
    have hB2 := h.now hn2 hfr2
    have hv2 : Mine G2 v (ints (nats ask)) := hv.keep fun i hi => hO2 i (hv.obj hi) fun he => by have := hvF i hi; rw [he] at this; rw [this] at kS; cases kS
    have hw2 : Mine G2 w (ints (nats hear)) := hw.keep fun i hi => hO2 i (hw.obj hi) fun he => by have := hwF i hi; rw [he] at this; rw [this] at kS; cases kS
    have a3 := an3_bd (lost := lostB lost) (sts := sts) (l := hear.take j) (s := (f + ask.length, List.replicate sts.length false))
    have htl : (hear.take j).length ≤ 40 := by rw [List.length_take]; omega
    have hmul : (hear.take j).length * sts.length ≤ 1600 := Nat.le_trans (Nat.mul_le_mul htl hn) (by omega)
    have hmul' : ((hear.take j).length : Int) * (sts.length : Int) ≤ 1600 := by exact_mod_cast hmul
    simp only [List.length_replicate] at a3
    simp only [List.getD_cons_succ, List.getD_cons_zero, go_sem]
    split
    · rename_i hlt
      have hj' : j < hear.length := by omega
      have hi1 := hheard _ (List.getElem_mem hj')
      have ht3 := an3_take (lost := lostB lost) (sts := sts) (s := (f + ask.length, List.replicate sts.length false)) hj'
      have hxj : (ints (nats hear))[j]? = some [.int .i64 ((hear[j] : Nat) : Int)] := by simp [ints, nats, hj']
      generalize hear[j] = i0 at *
      obtain ⟨p, e1, e2⟩ := gr_get hw2 (ti := ti22) (e := 3) rfl hxj
      simp only [e1, e2, nilCk_ptr, ti52_f2, getM_of hn2, hB2.sts.lenS, go_sem]
      generalize hS : an3 (lostB lost) sts (f + ask.length, List.replicate sts.length false) (hear.take j) = S at *
      refine loop_ind (fun r vs G' => ∃ (m : Nat), m ≤ sts.length ∧ r = sts.length - m ∧ G' k = some (.mem 0 0 4 [[.d (.bool true), .d (.sl ln (ints lost)), sv, .d (.int .i64 (an1s (lostB lost) sts i0 S m).1)]]) ∧ Mine G' va (bls (an1s (lostB lost) sts i0 S m).2) ∧ (∀ i, (G i).isSome → i ≠ k → G' i = G i) ∧
          vs = [.ptr k 0 0 0, v, w, va, .d (.int .i64 (i0 : Int)), sv, .d (.int .i64 sts.length), .d (.int .i64 sts.length), w, .d (.int .i64 hear.length), .d (.int .i64 j), .d (.int .i64 sts.length), .d (.int .i64 m), .junk, .junk, .junk]) (n := sts.length)
        ⟨0, by omega, by omega, hn2, hA2, hO2, rfl⟩ ?_
      rintro X3 r3 vs3 G3 ⟨m, hm, rfl, hn3, hA3, hO3, rfl⟩ hX3
      have hfr3 : ∀ i, (H i).isSome → i ≠ k → G3 i = H i := fun i hi hik => by
        rw [hO3 i (by rw [hfr i hi hik]; exact hi) hik]; exact hfr i hi hik
      have hB3 := h.now hn3 hfr3
      have a1 := an1s_bd (lost := lostB lost) (sts := sts) (i := i0) (s := S) (n := m)
      simp only [List.getD_cons_succ, List.getD_cons_zero, go_sem]
      split
      · rename_i hlt3
        have hm' : m < sts.length := by omega
        have hsc := an1s_succ (lost := lostB lost) (sts := sts) (i := i0) (n := m) (s := S)
        refine answers_c hB3 hm' hi1 ?_
        unfold an1 at hsc
        generalize hT : an1s (lostB lost) sts i0 S m = T at *
        simp only [go_sem]
        cases hans : ans sts m i0 with
        | false =>
          rw [hans] at hsc
          simp only [Bool.false_eq_true, if_false, go_sem] at hsc ⊢
          rw [wrap_i64 (by omega) (by omega)]
          exact hX3 (sts.length - (m + 1)) _ _ (by omega) ⟨m + 1, by omega, rfl, by rw [hsc]; exact hn3, by rw [hsc]; exact hA3, hO3, rfl⟩
        | true =>
          rw [hans] at hsc
          simp only [if_true, go_sem] at hsc ⊢
          refine frame_c hB3 hr hll (by omega) fun G4 hB4 hO4 => ?_
          have hA4 : Mine G4 va (bls T.2) := hA3.keep fun i hi => hO4 i fun he => by have := haF0 i hi; rw [he] at this; rw [this] at kS; cases kS
          have hO4' : ∀ i, (G i).isSome → i ≠ k → G4 i = G i := fun i hi hik => by rw [hO4 i hik]; exact hO3 i hi hik
          simp only [go_sem]
          cases hlo : lostB lost T.1 with
          | true =>
            rw [hlo] at hsc
            simp only [Bool.not_true, Bool.false_eq_true, if_false, if_true, go_sem] at hsc ⊢
            rw [wrap_i64 (by omega) (by omega)]
            exact hX3 (sts.length - (m + 1)) _ _ (by omega) ⟨m + 1, by omega, rfl, by rw [hsc]; exact hB4.node, by rw [hsc]; exact hA4, hO4', rfl⟩
          | false =>
            rw [hlo] at hsc
            simp only [Bool.not_false, Bool.false_eq_true, if_false, if_true, go_sem] at hsc ⊢
            obtain ⟨i, ver, o, g1, g2, g3, g4⟩ := bls_put (u := true) hA4 (b := i0) (by omega) (ti := ti71) (e := 4) rfl
            have hik : i ≠ k := fun he => by have := haF0 i g1; rw [he] at this; rw [this] at kS; cases kS
            simp only [g2, g3, go_sem]
            rw [wrap_i64 (by omega) (by omega)]
            refine hX3 (sts.length - (m + 1)) _ _ (by omega) ⟨m + 1, by omega, rfl, by rw [hsc, set_ne (Ne.symm hik)]; exact hB4.node, by rw [hsc]; exact g4, fun x hx hxk => ?_, rfl⟩
            have hxi : x ≠ i := fun he => by rw [hia] at g1; cases g1; subst he; rw [hia0] at hx; cases hx
            rw [set_ne hxi]
            exact hO4' x hx hxk
      · rename_i hge3
        have : m = sts.length := by omega
        subst this
        rw [wrap_i64 (by omega) (by omega)]
        exact hX2 (hear.length - (j + 1)) _ _ (by omega) ⟨j + 1, _, _, _, by omega, rfl, by rw [ht3]; exact hn3, by rw [ht3]; exact hA3, hO3, rfl⟩
    · rename_i hge2
      rw [List.take_of_length_le (by omega)] at hn2 hA2 hB2 a3
      have hst : step (lostB lost) sts f = (finS (an3 (lostB lost) sts (f + ask.length, List.replicate sts.length false) hear).2 sts ask, (an3 (lostB lost) sts (f + ask.length, List.replicate sts.length false) hear).1) := by
        unfold step
        simp only [hask, hhr]
      rw [hst] at hk
      simp only [lv, go_sem]
      have t := step_tail (u0 := w) (u4 := u4) (u5 := sv) (u6 := .d (.int .i64 sts.length)) (u7 := .d (.int .i64 sts.length)) (u8 := w) (u9 := .d (.int .i64 hear.length)) (u10 := .d (.int .i64 j)) (u11 := u11) (u12 := u12) h hB2 hfr2 hA2 hv2 hvF haF0 a3.2.2 hask.symm hk
      simp only [go_sem] at t
      exact t
end
end Go.Proofs.Ytadpakkenokilaa

/- The law of how lists are cut, and joined. -/
import Derived.Test.YtlaojbclmcageaaM15q
set_option autoImplicit false
set_option maxRecDepth 100000
set_option linter.unusedVariables false
set_option linter.unusedSimpArgs false
namespace Go.Proofs.Ytlaojbclmcageaa
open Go Go.AM Go.Proofs
section
variable {nl : Bool} {l : List Ext} {n : Int}
theorem rCut_c (hw : Wide l) (hl : l.length ≤ 400) {H : AHeap} {K : AV → AHeap → Prop} (h : ∀ n1 n2, (n1 = true → cutK l n = []) → (n2 = true → cutD l n = []) → K (.tup [.d (.sl n1 (es (cutK l n))), .d (.sl n2 (es (cutD l n))), .d (.int .i64 (cutE l n))]) H) : CallsA Try.prog 42 [.d (.sl nl (es l)), .d (.int .i64 n)] H K := by
  apply C42
  unfold S42
  unfold cutK cutD cutE at h
  have no : ¬ CutOk l n → finA (.tup [.d (.sl true []), .d (.sl true []), .d (.int .i64 2)]) H K := fun hn => by
    simp only [hn, if_false] at h
    exact ⟨H, le_refl', h true true (fun _ => trivial) fun _ => trivial⟩
  simp only [go_sem]
  refine right_c hw (by omega) ?_
  simp only [go_sem]
  split
  · rename_i h1
    exact no fun hh => h1 hh.1
  rename_i h1
  have hv : Val 300 l := Classical.not_not.1 h1
  try simp only [go_sem]
  split
  · exact no fun hh => by have := hh.2.1; omega
  rename_i h2
  try simp only [go_sem]
  refine rblocks_c (val_ok hv) (by omega) fun n1 hn1 => ?_
  simp only [ints_len, go_sem]
  split
  · exact no fun hh => by have := hh.2.2; omega
  rename_i h3
  have hok : CutOk l n := ⟨hv, by omega, by omega⟩
  simp only [hok, if_true] at h
  have hbl := blk_len (val_ok hv)
  try simp only [es_len, go_sem]
  refine loop_ind (fun r vs G => ∃ (j : Nat) (v w : AV) (A B : List Ext) (N : Int), j ≤ l.length ∧ r = l.length - j ∧ Gr2 H G v w A B ∧ A.length ≤ j ∧ B.length ≤ j ∧ 0 ≤ N ∧ N ≤ n ∧ kp l n = A ++ kp (l.drop j) N ∧ dp l n = B ++ dp (l.drop j) N ∧ vs = [.d (.sl nl (es l)), .d (.int .i64 N), v, w, .d (.int .i64 j)]) (n := l.length)
    ⟨0, _, _, [], [], n, by omega, by omega, ⟨Gr.nil le_refl', Gr.nil le_refl', by simp [idOf]⟩, by simp, by simp, by omega, by omega, by simp, by simp, rfl⟩ ?_
  rintro X r vs G ⟨j, v, w, A, B, N, hj, rfl, hG, hA, hB, hN0, hNn, hkp, hdp, rfl⟩ hX
  simp only [List.getD_cons_succ, List.getD_cons_zero, es_len, go_sem]
  split
  · rename_i hlt
    have hj' : j < l.length := by omega
    have hox := val_ok hv l[j] (List.getElem_mem hj')
    rw [List.drop_eq_getElem_cons hj'] at hkp hdp
    simp only [kp, dp] at hkp hdp
    generalize hxj : l[j] = x at hox hkp hdp
    unfold Ok1 at hox
    have hix : indexAddrA ti23 2 (.d (.sl nl (es l))) (.d (.int .i64 j)) = some (.vptr (ex x) 0) := sl_get (e := 66) rfl (by omega) (by rw [Int.toNat_natCast, es_get hj', hxj]) rfl
    simp only [hix, ex, List.map_cons, List.map_nil, ti66_v1, go_sem]
    generalize hc : min N x.2 = c at *
    have next : ∀ v' w' G' (A' B' : List Ext), A'.length ≤ 1 → B'.length ≤ 1 → A' = (if 0 < c then [(x.1, c)] else []) → B' = (if 0 < x.2 - c then [(x.1 + c, x.2 - c)] else []) → Gr2 H G' v' w' (A ++ A') (B ++ B') → X [.d (.sl nl (es l)), .d (.int .i64 (IntKind.i64.wrap (N - c))), v', w', .d (.int .i64 (IntKind.i64.wrap (j + 1)))] G' := fun v' w' G' A' B' a1 b1 hA' hB' hG' => by
      rw [wrap_i64 (n := N - c) (by omega) (by omega), wrap_i64 (by omega) (by omega)]
      refine hX (l.length - (j + 1)) _ _ (by omega) ⟨j + 1, v', w', A ++ A', B ++ B', N - c, by omega, rfl, hG', by simp; omega, by simp; omega, by omega, by omega, ?_, ?_, rfl⟩
      · rw [hkp, hA', List.append_assoc]
      · rw [hdp, hB', List.append_assoc]
    split
    · rename_i hgt
      obtain rfl : c = N := by omega
      split
      · rename_i hc0
        simp only [hix, ex, List.map_cons, List.map_nil, ti66_v0, ti66_v1, bd66_eq, go_sem]
        intro n32 _
        simp only [bs66_1, go_sem]
        refine hG.fst (by omega) fun v3 G3 hG3 hf3 => ?_
        try simp only [hix, ex, List.map_cons, List.map_nil, ti66_v0, ti66_v1, go_sem]
        try rw [if_pos hgt]
        try simp only [hix, ex, List.map_cons, List.map_nil, ti66_v0, ti66_v1, go_sem]
        rw [wrap_i64 (n := x.1 + c) (by omega) (by omega), wrap_i64 (n := x.2 - c) (by omega) (by omega)]
        try simp only [bd66_eq, go_sem]
        intro n53 _
        simp only [bs66_1, go_sem]
        refine hG3.snd (by omega) fun w4 G4 hG4 hf4 => ?_
        exact next _ _ _ [(x.1, c)] [(x.1 + c, x.2 - c)] (by simp) (by simp) (by rw [if_pos hc0]) (by rw [if_pos (by omega)]) hG4
      · rename_i hc0
        try simp only [hix, ex, List.map_cons, List.map_nil, ti66_v0, ti66_v1, go_sem]
        try rw [if_pos hgt]
        try simp only [hix, ex, List.map_cons, List.map_nil, ti66_v0, ti66_v1, go_sem]
        rw [wrap_i64 (n := x.1 + c) (by omega) (by omega), wrap_i64 (n := x.2 - c) (by omega) (by omega)]
        simp only [bd66_eq, go_sem]
        intro n53 _
        simp only [bs66_1, go_sem]
        refine hG.snd (by omega) fun w4 G4 hG4 hf4 => ?_
        exact next _ _ _ [] [(x.1 + c, x.2 - c)] (by simp) (by simp) (by rw [if_neg hc0]) (by rw [if_pos (by omega)]) (by rw [List.append_nil]; exact hG4)
    · rename_i hgt
      obtain rfl : c = x.2 := by omega
      rw [if_pos (show 0 < x.2 by omega)]
      try simp only [hix, ex, List.map_cons, List.map_nil, ti66_v0, ti66_v1, bd66_eq, go_sem]
      intro n32 _
      simp only [bs66_1, go_sem]
      refine hG.fst (by omega) fun v3 G3 hG3 hf3 => ?_
      try simp only [hix, ex, List.map_cons, List.map_nil, ti66_v0, ti66_v1, go_sem]
      try rw [if_neg (show ¬ x.2 < x.2 by omega)]
      try simp only [go_sem]
      exact next _ _ _ [(x.1, x.2)] [] (by simp) (by simp) (by rw [if_pos (by omega)]) (by rw [if_neg (by omega)]) (by rw [List.append_nil]; exact hG3)
  · rename_i hge
    rw [List.drop_eq_nil_of_le (by omega)] at hkp hdp
    simp only [kp, dp, List.append_nil] at hkp hdp
    rw [← hkp, ← hdp] at hG
    exact hG.ret h
end
/-! slices.Concat of two lists -/
theorem grow_c {n : Int} {H : AHeap} {K : AV → AHeap → Prop} (h0 : 0 ≤ n) (h1 : n < 2 ^ 40) (h : ∀ v H', Own H 2 H' v [] → K v H') : CallsA Try.prog 69 [.d (.sl true []), .d (.int .i64 n)] H K := by
  apply C69
  simp only [S69, go_sem]
  rw [if_neg (by omega)]
  simp only [capA, go_sem]
  have e1 : IntKind.i64.wrap (0 - ((0 : Nat) : Int)) = 0 := rfl
  simp only [List.length_nil, e1]
  rw [wrap_i64 (by omega) (by omega)]
  split
  · rename_i hn
    have e2 : sliceA 2 (.d (.sl true [])) none (some (.d (.int .i64 0))) none H = some (.d (.sl true [])) := rfl
    simp only [e2, go_sem]
    intro m hm
    have e3 : apzA ti66 (.d (.sl true [])) (.d (.int .i64 (n - 0))) H m = some (.rs m 0 2 0 n.toNat, [(m, .mem 0 0 2 (repl n.toNat [.d (.int .i64 0), .d (.int .i64 0)]))]) := by
      simp only [apzA, appA, Int.sub_zero]
      have hc : n.toNat * 16 ≤ mostBytes := by unfold mostBytes; omega
      rw [if_pos ⟨h0, by decide, by decide, hc⟩]
      cases hk : repl n.toNat ti66.zero with
      | nil => simp [repl] at hk; omega
      | cons y r =>
        have hl : (y :: r).length = n.toNat := by rw [← hk]; simp [repl]
        simp only [hl]
        have hk2 : y :: r = repl n.toNat [.d (.int .i64 0), .d (.int .i64 0)] := hk.symm
        rw [hk2]
        exact if_pos hc
    simp only [e3, go_sem]
    have e4 : sliceA 2 (.rs m 0 2 0 n.toNat) none (some (.d (.int .i64 ((0 : Nat) : Int)))) none (H.set m (.mem 0 0 2 (repl n.toNat [.d (.int .i64 0), .d (.int .i64 0)]))) = some (.rs m 0 2 0 0) := by
      simp [sliceA, set_self, bnd]
    simp only [e4, go_sem]
    exact ⟨_, le_refl', h _ _ (Own.rs (l := []) (le_set le_refl' hm) (by simp) set_self (by simp [avs]) (by simp) hm)⟩
  · exact ⟨H, le_refl', h _ _ (Own.nil le_refl')⟩
theorem concat_c {n1 n2 : Bool} {a b : List Ext} (ha : a.length ≤ 400) (hb : b.length ≤ 400) {H : AHeap} {K : AV → AHeap → Prop} (h : ∀ nl, K (.d (.sl nl (es (a ++ b)))) H) : CallsA Try.prog 60 [.d (.sl false [[.sl n1 (es a)], [.sl n2 (es b)]])] H K := by
  apply C60
  unfold S60
  simp only [go_sem]
  have g0 : ∀ H : AHeap, indexAddrA ti81 1 (.d (.sl false [[.sl n1 (es a)], [.sl n2 (es b)]])) (.d (.int .i64 0)) = some (.vptr [.sl n1 (es a)] 0) := fun _ => rfl
  have g1 : ∀ H : AHeap, indexAddrA ti81 1 (.d (.sl false [[.sl n1 (es a)], [.sl n2 (es b)]])) (.d (.int .i64 1)) = some (.vptr [.sl n2 (es b)] 0) := fun _ => rfl
  have z2 : (((0 + 1 + 1 : Nat)) : Int) = 2 := rfl
  refine loop_ind (fun r vs G => G = H ∧ ∃ j : Nat, j ≤ 2 ∧ r = 2 - j ∧ vs = [.d (.sl false [[.sl n1 (es a)], [.sl n2 (es b)]]), .d (.int .i64 (if j = 0 then 0 else if j = 1 then a.length else a.length + b.length)), .junk, .d (.sl false [[.sl n1 (es a)], [.sl n2 (es b)]]), .d (.int .i64 2), .d (.int .i64 j), .junk, .junk, .junk]) (n := 2) ⟨rfl, 0, by omega, by omega, rfl⟩ ?_
  rintro X r vs G ⟨rfl, j, hj, rfl, rfl⟩ hX
  simp only [List.getD_cons_succ, List.getD_cons_zero, go_sem]
  have hj3 : j = 0 ∨ j = 1 ∨ j = 2 := by omega
  rcases hj3 with rfl | rfl | rfl
  · rw [if_pos (by omega)]
    simp only [show ((0 : Nat) : Int) = 0 from rfl, g0 G, List.map_cons, List.map_nil, es_len, if_true, go_sem]
    rw [wrap_i64 (n := 0 + (a.length : Int)) (by omega) (by omega), if_neg (by omega), wrap_i64 (by omega) (by omega)]
    exact hX 1 _ _ (by omega) ⟨rfl, 1, by omega, rfl, by simp⟩
  · rw [if_pos (by omega)]
    simp only [show ((1 : Nat) : Int) = 1 from rfl, g1 G, List.map_cons, List.map_nil, es_len, if_true, Nat.one_ne_zero, if_false, go_sem]
    rw [wrap_i64 (n := (a.length : Int) + (b.length : Int)) (by omega) (by omega), if_neg (by omega), wrap_i64 (by omega) (by omega)]
    exact hX 0 _ _ (by omega) ⟨rfl, 2, by omega, rfl, by simp⟩
  · rw [if_neg (by omega)]
    simp only [show ((2 : Nat) = 0) = False by simp, show ((2 : Nat) = 1) = False by simp, if_false, go_sem]
    refine grow_c (by omega) (by omega) fun v H1 hv => ?_
    simp only [z2]
    refine loop_ind (fun r vs G' => ∃ (j : Nat) (v : AV), j ≤ 2 ∧ r = 2 - j ∧ Own G 2 G' v (es (if j = 0 then [] else if j = 1 then a else a ++ b)) ∧ vs = [.d (.sl false [[.sl n1 (es a)], [.sl n2 (es b)]]), .d (.int .i64 ((a.length : Int) + b.length)), v, .d (.sl false [[.sl n1 (es a)], [.sl n2 (es b)]]), .d (.int .i64 2), .d (.int .i64 2), .d (.sl false [[.sl n1 (es a)], [.sl n2 (es b)]]), .d (.int .i64 2), .d (.int .i64 j)]) (n := 2)
      ⟨0, v, by omega, by omega, hv, rfl⟩ ?_
    rintro X2 r2 vs2 G2 ⟨j, v, hj, rfl, hv, rfl⟩ hX2
    simp only [List.getD_cons_succ, List.getD_cons_zero, go_sem]
    have hj3 : j = 0 ∨ j = 1 ∨ j = 2 := by omega
    rcases hj3 with rfl | rfl | rfl
    · rw [if_pos (by omega)]
      simp only [show ((0 : Nat) : Int) = 0 from rfl, g0 G2, List.map_cons, List.map_nil, if_true, go_sem] at hv ⊢
      refine hv.app (ys := es a) (by rw [elemsA_sl]) (by decide) (by decide) es_2 (by rw [es_len, es_len]; simp only [List.length_nil]; unfold mostBytes; omega) fun v' H3 hv' _ _ _ => ?_
      rw [wrap_i64 (by omega) (by omega)]
      exact hX2 1 _ _ (by omega) ⟨1, v', by omega, rfl, by simpa [es] using hv', rfl⟩
    · rw [if_pos (by omega)]
      simp only [show ((1 : Nat) : Int) = 1 from rfl, g1 G2, List.map_cons, List.map_nil, if_true, Nat.one_ne_zero, if_false, go_sem] at hv ⊢
      refine hv.app (ys := es b) (by rw [elemsA_sl]) (by decide) (by decide) es_2 (by rw [es_len, es_len]; unfold mostBytes; omega) fun v' H3 hv' _ _ _ => ?_
      rw [wrap_i64 (by omega) (by omega)]
      exact hX2 0 _ _ (by omega) ⟨2, v', by omega, rfl, by rw [← es_app] at hv'; simpa using hv', rfl⟩
    · rw [if_neg (by omega)]
      simp only [show ((2 : Nat) = 0) = False by simp, show ((2 : Nat) = 1) = False by simp, if_false] at hv
      exact hv.ret le_refl' (h _)
/-! Join -/
theorem blk_app {a b : List Ext} : blk (a ++ b) = blk a ++ blk b := by simp [blk]
theorem val_app {n : Int} {a b : List Ext} (h : Val n (a ++ b)) : Val n a ∧ Val n b := by
  obtain ⟨h1, h2, h3⟩ := h
  rw [blk_app, List.nodup_append] at h3
  exact ⟨⟨h1, fun x hx => h2 x (List.mem_append_left _ hx), h3.1⟩, ⟨h1, fun x hx => h2 x (List.mem_append_right _ hx), h3.2.1⟩⟩
theorem wide_app {a b : List Ext} (ha : Wide a) (hb : Wide b) : Wide (a ++ b) := fun x hx => by
  rcases List.mem_append.1 hx with hx | hx
  · exact ha x hx
  · exact hb x hx
def joinP (a b : List Ext) : List Ext := if Val 300 (a ++ b) then joinL a b else []
def joinE (a b : List Ext) : Int := if Val 300 (a ++ b) then 0 else 2
theorem bs23_2 {x y : Dat} {H : AHeap} {n : Nat} : bsA ti23 2 [0, 1] [.d x, .d y] H n = some (.lit [[x], [y]], []) := rfl
section
variable {n1 n2 : Bool} {a b : List Ext}
theorem Join_c (ha : a.length ≤ 400) (hb : b.length ≤ 400) (hwa : Wide a) (hwb : Wide b) (hn1 : n1 = true → a = []) (hn2 : n2 = true → b = []) {H : AHeap} {K : AV → AHeap → Prop} (h : ∀ nl, (nl = true → joinP a b = []) → K (.tup [.d (.sl nl (es (joinP a b))), .d (.int .i64 (joinE a b))]) H) : CallsA Try.prog 43 [.d (.sl n1 (es a)), .d (.sl n2 (es b))] H K := by
  apply C43
  unfold S43
  intro n _
  simp only [bs23_2, go_sem]
  refine concat_c ha hb fun n3 => ?_
  simp only [go_sem]
  refine valid_c (wide_app hwa hwb) (by rw [List.length_append]; omega) ?_
  unfold joinP joinE at h
  simp only [go_sem]
  split
  · rename_i hv
    simp only [hv, if_false] at h
    exact ⟨H, le_refl', h true fun _ => trivial⟩
  · rename_i hv
    have hv := Classical.not_not.1 hv
    simp only [hv, if_true] at h
    obtain ⟨va, vb⟩ := val_app hv
    try simp only [go_sem]
    refine join_c (by omega) (by omega) (val_bd va (by omega)) (val_bd vb (by omega)) hn1 hn2 fun n4 hn4 => ?_
    simp only [go_sem]
    exact ⟨H, le_refl', h n4 hn4⟩
theorem joinL_more {l y : List Ext} {z : Ext} (hy : y ≠ []) : joinL l (y ++ [z]) = joinL l y ++ [z] := by
  cases y with
  | nil => exact absurd rfl hy
  | cons w r =>
    rcases List.eq_nil_or_concat l with rfl | ⟨o, x, rfl⟩
    · simp [joinL]
    · rw [List.concat_eq_append, List.cons_append, joinL_snoc, joinL_snoc]
      split <;> simp
theorem joinL_len {l y : List Ext} : (joinL l y).length ≤ l.length + y.length := by
  cases y with
  | nil => cases h : l[l.length - 1]? <;> simp [joinL, h]
  | cons w r =>
    rcases List.eq_nil_or_concat l with rfl | ⟨o, x, rfl⟩
    · simp [joinL]
    · rw [List.concat_eq_append, joinL_snoc]
      split <;> simp <;> omega
theorem rJoin_c (ha : a.length ≤ 400) (hb : b.length ≤ 400) (hwa : Wide a) (hwb : Wide b) {H : AHeap} {K : AV → AHeap → Prop} (h : ∀ nl, (nl = true → joinP a b = []) → K (.tup [.d (.sl nl (es (joinP a b))), .d (.int .i64 (joinE a b))]) H) : CallsA Try.prog 44 [.d (.sl n1 (es a)), .d (.sl n2 (es b))] H K := by
  apply C44
  unfold S44
  unfold joinP joinE at h
  have no : ¬ Val 300 (a ++ b) → ∀ G, AHeap.le H G → finA (.tup [.d (.sl true []), .d (.int .i64 2)]) G K := fun hn G hle => by
    simp only [hn, if_false] at h
    exact ⟨H, hle, h true fun _ => trivial⟩
  simp only [go_sem]
  refine right_c hwa (by omega) ?_
  simp only [go_sem]
  split
  · rename_i hv
    exact no (fun hh => hv (val_app hh).1) _ le_refl'
  try simp only [go_sem]
  refine right_c hwb (by omega) ?_
  simp only [go_sem]
  split
  · rename_i hv
    exact no (fun hh => hv (val_app hh).2) _ le_refl'
  try simp only [go_sem]
  intro n _
  simp only [bs66_0, go_sem]
  refine (Own.lit (sz := 2) (l := []) le_refl' (by simp)).app (ys := es a) (by rw [elemsA_sl]) (by decide) (by decide) es_2 (by rw [es_len]; simp only [List.length_nil]; unfold mostBytes; omega) fun v1 G1 hG1 _ _ _ => ?_
  refine hG1.app (ys := es b) (by rw [elemsA_sl]) (by decide) (by decide) es_2 (by rw [List.nil_append, es_len, es_len]; unfold mostBytes; omega) fun v2 G2 hG2 _ _ _ => ?_
  rw [List.nil_append, ← es_app] at hG2
  obtain ⟨us, _, f2, f3, _⟩ := hG2.frz
  rw [frzLK_of f2]
  simp only [go_sem]
  refine right_c (wide_app hwa hwb) (by rw [List.length_append]; omega) ?_
  simp only [go_sem]
  split
  · rename_i hv
    exact no hv _ f3
  rename_i hv
  have hv := Classical.not_not.1 hv
  simp only [hv, if_true] at h
  obtain ⟨va, vb⟩ := val_app hv
  try simp only [go_sem]
  intro n5 _
  simp only [bs66_0, go_sem]
  refine (Gr.lit (sz := 2) f3).app (ys := es a) (by rw [elemsA_sl]) (by decide) (by decide) es_2 (by rw [es_len]; simp only [List.length_nil]; unfold mostBytes; omega) fun v3 G3 hG3 _ _ _ => ?_
  rw [List.nil_append] at hG3
  refine loop_ind (fun r vs G => ∃ (j : Nat) (v : AV), j ≤ b.length ∧ r = b.length - j ∧ Gr H 2 G v (es (joinL a (b.take j))) ∧ vs = [.d (.sl n2 (es b)), v, .d (.int .i64 j)]) (n := b.length)
    ⟨0, _, by omega, by omega, by rw [show joinL a (b.take 0) = a by simp [joinL]]; exact hG3, rfl⟩ ?_
  rintro X r vs G ⟨j, v, hj, rfl, hG, rfl⟩ hX
  simp only [List.getD_cons_succ, List.getD_cons_zero, es_len, hG.len, go_sem]
  have hjl := joinL_len (l := a) (y := b.take j)
  have htl : (b.take j).length ≤ b.length := by simp; omega
  split
  · rename_i hlt
    have hj' : j < b.length := by omega
    have hzb := val_ok vb b[j] (List.getElem_mem hj')
    have htk : b.take (j + 1) = b.take j ++ [b[j]] := by rw [List.take_add_one, List.getElem?_eq_getElem hj']; rfl
    have hixj : indexAddrA ti23 2 (.d (.sl n2 (es b))) (.d (.int .i64 j)) = some (.vptr (ex b[j]) 0) := sl_get (e := 66) rfl (by omega) (by rw [Int.toNat_natCast, es_get hj']) rfl
    rw [wrap_i64 (n := ((joinL a (b.take j)).length : Int) - 1) (by omega) (by omega)]
    have next : ∀ v' G', Gr H 2 G' v' (es (joinL a (b.take (j + 1)))) → X [.d (.sl n2 (es b)), v', .d (.int .i64 (IntKind.i64.wrap (j + 1)))] G' := fun v' G' hG' => by
      rw [wrap_i64 (by omega) (by omega)]
      exact hX (b.length - (j + 1)) _ _ (by omega) ⟨j + 1, v', by omega, rfl, hG', rfl⟩
    have add : joinL a (b.take (j + 1)) = joinL a (b.take j) ++ [b[j]] → newK G (fun n70 => apA 2 16 v (.lit [[.int .i64 b[j].1, .int .i64 b[j].2]]) G n70) fun v68 H69 => X [.d (.sl n2 (es b)), v68, .d (.int .i64 (IntKind.i64.wrap (j + 1)))] H69 := fun he => by
      refine ext_more hG (by omega) fun v4 G4 hG4 _ _ => next _ _ ?_
      rw [he]
      exact hG4
    split
    · rename_i hj0
      have hj0 : j = 0 := by omega
      subst hj0
      obtain ⟨z, rb, rfl⟩ : ∃ z rb, b = z :: rb := by
        cases b with
        | nil => simp at hj'
        | cons z rb => exact ⟨z, rb, rfl⟩
      have e0 : joinL a ((z :: rb).take 0) = a := by simp [joinL]
      have e1 : (z :: rb).take (0 + 1) = [z] := rfl
      rw [e0] at hG add
      rw [e1] at next add
      simp only [List.getElem_cons_zero] at hixj add hzb
      unfold Ok1 at hzb
      simp only [e0]
      have hixj' : indexAddrA ti23 2 (.d (.sl n2 (es (z :: rb)))) (.d (.int .i64 0)) = some (.vptr (ex z) 0) := hixj
      simp only [show ((0 : Nat) : Int) = 0 from rfl] at *
      split
      · rename_i h0
        have hne : a ≠ [] := by rintro rfl; simp at h0
        obtain ⟨x, hx⟩ : ∃ x, a[a.length - 1]? = some x := ⟨_, List.getElem?_eq_getElem (by omega)⟩
        have hxb := val_ok va x (List.mem_of_getElem? hx)
        unfold Ok1 at hxb
        obtain ⟨i, ver, hvv, g1, g2, g3, g4⟩ := gr_last hG (ti := ti23) (e := 66) rfl hne hx
        simp only [g1, g2, g3, hixj', ex, List.map_cons, List.map_nil, ti66_f0, ti66_f1, ti66_v0, ti66_v1, go_sem]
        rw [wrap_i64 (n := x.1 + x.2) (by omega) (by omega)]
        split
        · rename_i heq
          rw [wrap_i64 (n := x.2 + z.2) (by omega) (by omega)]
          obtain ⟨o, g5, g6⟩ := g4 (x.2 + z.2)
          simp only [g5, go_sem]
          refine next _ _ ?_
          have he : joinL a [z] = a.set (a.length - 1) (x.1, x.2 + z.2) := by simp [joinL, hx, heq]
          rw [he]
          exact g6
        · rename_i hneq
          intro n67 _
          simp only [bs66_1, go_sem]
          exact add (by simp [joinL, hx, hneq])
      · rename_i h0
        simp only [hixj', ex, List.map_cons, List.map_nil, go_sem]
        intro n67 _
        simp only [bs66_1, go_sem]
        obtain rfl : a = [] := by
          cases a with
          | nil => rfl
          | cons y r => simp at h0
        exact add (by simp [joinL])
    · rename_i hj0
      simp only [hixj, ex, List.map_cons, List.map_nil, go_sem]
      intro n67 _
      simp only [bs66_1, go_sem]
      refine add ?_
      rw [htk, joinL_more]
      intro hh
      have := congrArg List.length hh
      rw [List.length_take] at this
      simp only [List.length_nil] at this
      omega
  · rename_i hge
    rw [List.take_of_length_le (by omega)] at hG
    refine hG.own.ret_d le_refl' (h _ fun hn => es_isnil hG.own.nilS hn)
end
theorem cuts_law {n1 n2 : Bool} {a b : List Ext} {n : Int} (hwa : Wide a) (hwb : Wide b) (hn1 : n1 = true → a = []) (hn2 : n2 = true → b = []) : CallsA Try.prog 10 [.d (.sl n1 (es a)), .d (.sl n2 (es b)), .d (.int .i64 n)] noHeap fun v _ => v = .d (.bool true) := by
  apply C10
  unfold S10
  simp only [es_len, go_sem]
  split
  · exact first_end
  rename_i h1
  try simp only [es_len, go_sem]
  split
  · exact first_end
  rename_i h2
  try simp only [go_sem]
  refine Cut_c hwa (by omega) fun n3 n4 _ _ => ?_
  simp only [go_sem]
  refine rCut_c hwa (by omega) fun n5 n6 _ _ => ?_
  simp only [go_sem]
  refine Join_c (by omega) (by omega) hwa hwb hn1 hn2 fun n7 _ => ?_
  simp only [go_sem]
  refine rJoin_c (by omega) (by omega) hwa hwb fun n8 _ => ?_
  have hk := kp_len (l := a) (n := n)
  have hd := dp_len (l := a) (n := n)
  have hj := joinL_len (l := a) (y := b)
  simp only [go_sem]
  refine same_c (by unfold cutK; split <;> first | omega | simp) ?_
  simp only [decide_true, if_true, go_sem]
  refine same_c (by unfold cutD; split <;> first | omega | simp) ?_
  simp only [decide_true, if_true, go_sem]
  refine same_c (by unfold joinP; split <;> first | omega | simp) ?_
  simp only [decide_true, if_true, go_sem]
  exact first_end
theorem cuts_row (xs : List Dat) (h : DatOk Try.prog 9 23 xs) (ys : List Dat) (h2 : DatOk Try.prog 9 23 ys) (zs : List Dat) (h3 : DatOk Try.prog 9 3 zs) : CallsA Try.prog 10 [argAV (aggT Try.prog 23) xs, argAV (aggT Try.prog 23) ys, argAV (aggT Try.prog 3) zs] noHeap fun v _ => v = .d (.bool true) := by
  obtain ⟨n1, a, ha, hn1, hwa, _⟩ := exts_open h
  obtain ⟨n2, b, hb, hn2, hwb, _⟩ := exts_open h2
  obtain ⟨n, hn, _⟩ := int_open h3
  rw [ha, hb, hn]
  exact cuts_law hwa hwb hn1 hn2
end Go.Proofs.Ytlaojbclmcageaa

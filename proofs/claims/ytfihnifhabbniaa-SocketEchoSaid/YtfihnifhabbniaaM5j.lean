/- The laws of the echo and of what is sent. -/
import Derived.Test.YtfihnifhabbniaaM5i
set_option autoImplicit false
set_option maxRecDepth 100000
set_option linter.unusedVariables false
set_option linter.unusedSimpArgs false
namespace Go.Proofs.Ytfihnifhabbniaa
open Go Go.AM Go.Proofs
open P4 (Pk)
abbrev IsAt (a b : Int) : Prop := (0 ≤ a ∧ a ≤ 65279) ∧ (1 ≤ b ∧ b ≤ 254)
def echoed (a b c d : Int) (nl : Bool) (x : List UInt8) : Pk := ⟨0, a, b, c, d, 128, 4, 4, nl, 2 :: x, true⟩
theorem echoed_eq {a b c d : Int} {nl : Bool} {x : List UInt8} (ha : IsAt a b) (hc : IsAt c d) (hx : x.length < 586) : ((sent a b 128 c d 4 4 false (1 :: x)).back (2 :: x)).wnl nl = echoed a b c d nl x := by
  have h : (sent a b 128 c d 4 4 false (1 :: x)).Backs (2 :: x) := by
    unfold P4.Pk.Backs sent P4.Pk.back0 P4.Pk.Valid
    simp only [List.length_cons]
    omega
  unfold P4.Pk.back
  rw [if_pos h]
  rfl
theorem echoed_valid {a b c d : Int} {nl : Bool} {x : List UInt8} (ha : IsAt a b) (hc : IsAt c d) (hx : x.length < 586) : (echoed a b c d nl x).Valid := by
  unfold echoed P4.Pk.Valid
  simp only [List.length_cons]
  omega
theorem Own.aggL {H0 H : AHeap} {sz : Nat} {v : AV} {l : List (List Dat)} (h : Own H0 sz H v l) : aggL v = [] := by
  rcases h.2.2 with ⟨rfl, _⟩ | rfl | ⟨i, ver, L, rfl, _⟩ <;> rfl
theorem Own.str {H0 H : AHeap} {v : AV} {l : List UInt8} (h : Own H0 1 H v (bs l)) : cvBS v H = some (.d (.str ⟨l.toArray⟩)) := by
  rcases h.2.2 with ⟨rfl, h1⟩ | rfl | ⟨i, ver, L, rfl, h1, h2, h3, _⟩
  · cases l with
    | nil => rfl
    | cons x r => cases h1
  · exact cvBS_lit
  · simp only [cvBS, elemsOf, h1, if_true, List.drop_zero, h2, toDatss_avs, bytesOfDats_bs]
theorem newK_const {H : AHeap} {v : AV} {us : Ups} {K : AV → AHeap → Prop} (h : stepK (some (v, us)) H K) : newK H (fun _ => some (v, us)) K := fun _ _ => h
theorem echo_law {a b c d : Int} {nl : Bool} {x : List UInt8} (hnl : nl = true → x = []) (hx : x.length ≤ 2 ^ 47) : CallsA Try.prog 5 [.agg [.d (.int .i64 a), .d (.int .i64 b)], .agg [.d (.int .i64 c), .d (.int .i64 d)], .d (.sl nl (bs x))] noHeap fun v _ => v = .d (.bool true) := by
  apply C5
  unfold S5
  refine box_open rfl fun k1 G1 hG1 hle1 hk1 => ?_
  refine box_open rfl fun k2 G2 hG2 hle2 hk2 => ?_
  have hG1' := hle2 _ _ hG1
  simp only [AV.cells] at hG1' hG2
  simp only [getM_of hG1', getM_of hG2, go_sem]
  by_cases ha : IsAt a b
  · refine new_c ha fun kx mx H1 hl1 hkx hmx hNx => ?_
    have q1 := hl1 _ _ hG1'
    have q2 := hl1 _ _ hG2
    simp only [getM_of q2, go_sem]
    by_cases hc : IsAt c d
    · refine new_c hc fun ky my H2 hl2 hky hmy hNy => ?_
      have q1' := hl2 _ _ q1
      have q2' := hl2 _ _ q2
      have hNx' := hNx.le hl2
      simp only [nilP_eql, bs_length, ne_eq, not_true_eq_false, decide_false, if_false, Bool.false_eq_true, go_sem]
      split
      · exact first_end
      rename_i hlen
      try simp only [nilP_eql, bs_length, ne_eq, not_true_eq_false, decide_false, if_false, Bool.false_eq_true, go_sem]
      refine open0q_c hNx' fun H3 hqx hf3 => ?_
      have fr3 : ∀ i o, H2 i = some o → i ≠ mx → H3 i = some o := fun i o h hne => by rw [hf3 i hne, h]
      have q2'' := fr3 _ _ q2' (fun he => by rw [he, hmx] at hG2; cases hG2)
      have q1'' := fr3 _ _ q1' (fun he => by rw [he, hmx] at hG1'; cases hG1')
      obtain ⟨clx, hmx1⟩ := hNx.map0
      have hNy3 : Nd H3 ky my c d [] := by
        obtain ⟨es, cl, g1, g2⟩ := hNy.map
        exact ⟨fr3 _ _ hNy.node (fun he => by rw [he, hmx1] at hky; cases hky), ⟨es, cl, fr3 _ _ g1 (fun he => by rw [he, hmx1] at hmy; cases hmy), g2⟩, hNy.nodup⟩
      simp only [getM_of q2'', go_sem]
      intro n48 _
      simp only [bs5_1, go_sem]
      have hxl : x.length < 2 ^ 40 := by omega
      refine byte_app (x := 1) (a := x) hxl fun v5 H5 hv5 hnil5 => ?_
      have hag : aggL v5 = [] := Own.aggL hv5
      obtain ⟨us, f1, f2, f3, _⟩ := hv5.frz
      rw [hag, noRsA_nil, frzLK_of f2]
      simp only [hnil5, go_sem]
      generalize hX5 : H5.sets us = X5
      rw [hX5] at f3
      have hlenx : x.length < 586 := by omega
      have hval : (sent a b 128 c d 4 4 false (1 :: x)).Valid := by
        unfold sent P4.Pk.Valid
        simp only [List.length_cons]
        omega
      have hqx5 := hqx.le f3
      refine ⟨_, send_c hqx5.nd (by simp) (by simp only [List.length_cons]; omega) (by simp) hval ⟨rfl, le_refl'⟩, ?_⟩
      simp only [P4.Pk.av, sent, go_sem]
      refine alloc_open fun k7 G7 hG7 hle7 hk7 => ?_
      simp only [getM_of hG7, stoA_agg, stoA_get, stoM, setCells, and_self, true_and, Nat.le_refl, Nat.reduceLeDiff, List.cons_append, List.set_cons_zero, List.getElem?_cons_zero, go_sem]
      generalize hX7 : G7.set k7 _ = X7
      have hX7k : X7 k7 = some (.mem 0 0 10 [(Pk.cells (sent a b 128 c d 4 4 false (1 :: x))).map AV.d]) := by rw [← hX7]; exact set_self
      have hle7' : AHeap.le X5 X7 := by rw [← hX7]; exact set_le hle7 hk7
      clear hX7 hG7 hle7
      try simp only [getM_of hX7k, Pk.cells, sent, go_sem]
      have hNy7 := hNy3.le (le_trans' f3 hle7')
      refine takeE_c (p := sent a b 128 c d 4 4 false (1 :: x)) hNy7 hval ⟨.inl rfl, .inl rfl⟩ rfl rfl rfl rfl fun nl hnl7 => ?_
      have hd7 : ((sent a b 128 c d 4 4 false (1 :: x)).back (2 :: x)).data = 2 :: x := congrArg (·.data) (echoed_eq (nl := nl) ha hc hlenx)
      rw [hd7] at hnl7
      rw [echoed_eq ha hc hlenx]
      have hvq := echoed_valid (nl := nl) ha hc hlenx
      simp only [P4.Pk.av, echoed, go_sem]
      refine alloc_open fun k8 G8 hG8 hle8 hk8 => ?_
      simp only [getM_of hG8, stoA_agg, stoA_get, stoM, setCells, and_self, true_and, Nat.le_refl, Nat.reduceLeDiff, List.cons_append, List.set_cons_zero, List.getElem?_cons_zero, go_sem]
      generalize hX8 : G8.set k8 _ = X8
      have hX8k : X8 k8 = some (.mem 0 0 10 [(Pk.cells (echoed a b c d nl x)).map AV.d]) := by rw [← hX8]; exact set_self
      have hle8' : AHeap.le X7 X8 := by rw [← hX8]; exact set_le hle8 hk8
      clear hX8 hG8 hle8
      simp only [not_true_eq_false, if_false, getM_of hX8k, Pk.cells, echoed, go_sem]
      have hqx8 := hqx5.le (le_trans' hle7' hle8')
      refine take_c (p := echoed a b c d nl x) hqx8 hvq ⟨.inl rfl, .inl rfl⟩ rfl (by omega) hnl7 (by simp) (fun h => by simp at h) fun _ H9 v9 hq9 hf9 _ => ?_
      simp only [not_true_eq_false, if_false, go_sem]
      refine next_c hq9 fun H10 v10 hq10 hf10 => ?_
      simp only [P4.Pk.av, echoed, go_sem]
      refine alloc_open fun k11 G11 hG11 hle11 hk11 => ?_
      simp only [getM_of hG11, stoA_agg, stoA_get, stoM, setCells, and_self, true_and, Nat.le_refl, Nat.reduceLeDiff, List.cons_append, List.set_cons_zero, List.getElem?_cons_zero, go_sem]
      generalize hX11 : G11.set k11 _ = X11
      have hX11k : X11 k11 = some (.mem 0 0 10 [(Pk.cells (echoed a b c d nl x)).map AV.d]) := by rw [← hX11]; exact set_self
      have hle11' : AHeap.le H10 X11 := by rw [← hX11]; exact set_le hle11 hk11
      clear hX11 hG11 hle11
      have fr9 : ∀ i o, X8 i = some o → (∀ ms cl, o ≠ .map ms cl) → H9 i = some o := fun i o h hne => by
        obtain ⟨_, _, g⟩ := hqx8.map
        rw [hf9 i (by rw [h]; rfl) (fun he => by rw [he, g] at h; cases h; exact hne _ _ rfl) (by simp [idOf])]
        exact h
      have fr11 : ∀ i o, X8 i = some o → (∀ ms cl, o ≠ .map ms cl) → X11 i = some o := fun i o h hne => by
        have h9 := fr9 i o h hne
        obtain ⟨_, _, g⟩ := hq9.map
        refine hle11' _ _ ?_
        rw [hf10 i (by rw [h9]; rfl) (fun he => by rw [he, g] at h9; cases h9; exact hne _ _ rfl)]
        exact h9
      have hle35 : AHeap.le H3 X8 := le_trans' f3 (le_trans' hle7' hle8')
      have g2 := fr11 _ _ (hle35 _ _ q2'') (by simp)
      have g1 := fr11 _ _ (hle35 _ _ q1'') (by simp)
      have g8 := fr11 _ _ hX8k (by simp)
      simp only [getM_of hX11k, ti36_f1, ti36_f2, ti36_f6, Pk.cells, echoed, go_sem]
      intro n106 _
      simp only [go_sem]
      refine byte_app (x := 2) (a := x) hxl fun v12 H12 hv12 hnil12 => ?_
      have hle12 : AHeap.le X11 H12 := hv12.1
      have hs12 : cvBS v12 H12 = cvBS (.d (.sl nl (bs (2 :: x)))) H12 := by rw [Own.str hv12, cvBS_bs]
      simp only [hs12, getM_of (hle12 _ _ hX11k), getM_of (hle12 _ _ g1), getM_of (hle12 _ _ g2), getM_of (hle12 _ _ g8), Pk.cells, echoed, go_sem]
      simp only [beq_self_eq_true, addr_eq, Bool.and_self, if_true, go_sem]
      refine ⟨_, P4.same_c (p := echoed a b c d nl x) (q := echoed a b c d nl x) (by simp only [echoed, List.length_cons]; omega) ⟨rfl, le_refl'⟩, ?_⟩
      have hsame : (echoed a b c d nl x).Same (echoed a b c d nl x) := ⟨⟨rfl, ⟨rfl, rfl⟩, ⟨rfl, rfl⟩, rfl, rfl, rfl⟩, rfl, rfl⟩
      simp only [hsame, decide_true, go_sem]
      refine ⟨_, first_c ⟨rfl, le_refl'⟩, ?_⟩
      simp only [go_sem]
      exact ⟨_, le_refl', rfl⟩
    · refine newbad_c hc ?_
      simp only [ne_eq, not_true_eq_false, not_false_eq_true, decide_true, decide_false, if_false, if_true, Int.reduceEq, go_sem]
      exact first_end
  · refine newbad_c ha ?_
    simp only [getM_of hG2, go_sem]
    by_cases hc : IsAt c d
    · refine new_c hc fun ky my H2 hl2 hky hmy hNy => ?_
      simp only [ne_eq, not_true_eq_false, not_false_eq_true, decide_true, decide_false, if_false, if_true, Int.reduceEq, go_sem]
      exact first_end
    · refine newbad_c hc ?_
      simp only [ne_eq, not_true_eq_false, not_false_eq_true, decide_true, decide_false, if_false, if_true, Int.reduceEq, go_sem]
      exact first_end
theorem echo_row (xs : List Dat) (h : DatOk Try.prog 9 28 xs) (ys : List Dat) (h2 : DatOk Try.prog 9 28 ys) (zs : List Dat) (h3 : DatOk Try.prog 9 22 zs) : CallsA Try.prog 5 [argAV (aggT Try.prog 28) xs, argAV (aggT Try.prog 28) ys, argAV (aggT Try.prog 22) zs] noHeap fun v _ => v = .d (.bool true) := by
  obtain ⟨a, b, hab, _⟩ := addr_open h
  obtain ⟨c, d, hcd, _⟩ := addr_open h2
  obtain ⟨nl, bl, hb, hnl, hlen⟩ := bytes_open h3
  rw [hab, hcd, hb]
  exact echo_law hnl hlen
theorem bytes_law {a b c d : Int} {nl : Bool} {x : List UInt8} {kd : UInt8} (hnl : nl = true → x = []) : CallsA Try.prog 6 [.agg [.d (.int .i64 a), .d (.int .i64 b)], .agg [.d (.int .i64 c), .d (.int .i64 d), .d (.sl nl (bs x)), .d (.int .u8 kd.toNat)]] noHeap fun v _ => v = .d (.bool true) := by
  have hkd := kd.toNat_lt
  apply C6
  unfold S6
  refine box_open rfl fun k1 G1 hG1 hle1 hk1 => ?_
  refine box_open rfl fun k2 G2 hG2 hle2 hk2 => ?_
  have hG1' := hle2 _ _ hG1
  simp only [AV.cells] at hG1' hG2
  simp only [getM_of hG1', getM_of hG2, go_sem]
  simp only [ti47_f0, ti47_f1, ti47_f2, getM_of hG2, go_sem]
  refine alloc_open fun k3 G3 hG3 hle3 hk3 => ?_
  have e32 : k3 ≠ k2 := fun he => le_ne hG2 hk3 he.symm
  have q1 := hle3 _ _ hG1'
  have e13 : k1 ≠ k3 := le_ne hG1' hk3
  refine ⟨e32, e32, ?_⟩
  simp only [getM_of hG3, getM_of q1, e13, stoA_agg, stoA_get, stoM, setCells, and_self, true_and, Nat.le_refl, Nat.reduceLeDiff, List.cons_append, List.set_cons_zero, List.getElem?_cons_zero, go_sem]
  generalize hX3 : G3.set k3 _ = X3
  have hX3k : X3 k3 = some (.mem 0 0 2 [[.d (.int .i64 c), .d (.int .i64 d)]]) := by rw [← hX3]; exact set_self
  have hle3' : AHeap.le G2 X3 := by rw [← hX3]; exact set_le hle3 hk3
  clear hX3 hG3 hle3 q1
  by_cases ha : IsAt a b
  · refine new_c ha fun kx mx H1 hl1 hkx hmx hNx => ?_
    have q3 := hl1 _ _ hX3k
    simp only [getM_of q3, go_sem]
    by_cases hc : IsAt c d
    · refine new_c hc fun ky my H2 hl2 hky hmy hNy => ?_
      have q3' := hl2 _ _ q3
      have hNx' := hNx.le hl2
      simp only [nilP_eql, bs_length, ne_eq, not_true_eq_false, decide_false, if_false, Bool.false_eq_true, go_sem]
      split
      · exact first_end
      rename_i hlen
      try simp only [nilP_eql, bs_length, ne_eq, not_true_eq_false, decide_false, if_false, Bool.false_eq_true, go_sem]
      refine open0q_c hNx' fun H3 hqx hf3 => ?_
      obtain ⟨clx, hmx1⟩ := hNx.map0
      have fr3 : ∀ i o, H2 i = some o → i ≠ mx → H3 i = some o := fun i o h hne => by rw [hf3 i hne, h]
      have q3'' := fr3 _ _ q3' (fun he => by rw [he, hmx] at hX3k; cases hX3k)
      have hNy3 : Nd H3 ky my c d [] := by
        obtain ⟨es, cl, g1, g2⟩ := hNy.map
        exact ⟨fr3 _ _ hNy.node (fun he => by rw [he, hmx1] at hky; cases hky), ⟨es, cl, fr3 _ _ g1 (fun he => by rw [he, hmx1] at hmy; cases hmy), g2⟩, hNy.nodup⟩
      simp only [go_sem]
      refine open0q_c hNy3 fun H4 hqy hf4 => ?_
      have emk : my ≠ mx := fun he => by rw [he, hmx1] at hmy; cases hmy
      obtain ⟨cly, hmy1⟩ := hNy.map0
      have hmyN : H1 my = none := hmy
      have hqx4 : Nq H4 kx mx a b 128 (.d (.sl true [])) [] := by
        obtain ⟨bn, cl, g⟩ := hqx.map
        have hkxmy : kx ≠ my := fun he => by have := hNx.node; rw [he, hmy] at this; cases this
        exact ⟨by rw [hf4 _ hkxmy]; exact hqx.node, ⟨bn, cl, by rw [hf4 _ (Ne.symm emk)]; exact g⟩, q_nil⟩
      have q4 : H4 k3 = some (.mem 0 0 2 [[.d (.int .i64 c), .d (.int .i64 d)]]) := by
        rw [hf4 _ (fun he => by rw [he, hmy] at q3; cases q3)]
        exact q3''
      simp only [ne_eq, not_true_eq_false, decide_false, if_false, getM_of q4, go_sem]
      simp only [intA_rem (b := 255) (by decide), go_sem]
      rw [wrap_i64 (n := (kd.toNat : Int)) (by omega) (by omega), Int.tmod_eq_emod_of_nonneg (by omega), wrap_i64 (n := 1 + (kd.toNat : Int) % 255) (by omega) (by omega)]
      generalize hty : 1 + (kd.toNat : Int) % 255 = ty
      have hty1 : 1 ≤ ty ∧ ty ≤ 255 := by omega
      clear hty hkd
      have hval : ∀ n, (sent a b 128 c d 128 ty n x).Valid := fun n => by
        unfold sent P4.Pk.Valid
        dsimp only
        omega
      refine send_c hqx4.nd (by simp) (by omega) hnl (hval nl) ?_
      simp only [P4.Pk.av, sent, go_sem]
      refine alloc_open fun k7 G7 hG7 hle7 hk7 => ?_
      simp only [getM_of hG7, stoA_agg, stoA_get, stoM, setCells, and_self, true_and, Nat.le_refl, Nat.reduceLeDiff, List.cons_append, List.set_cons_zero, List.getElem?_cons_zero, go_sem]
      generalize hX7 : G7.set k7 _ = X7
      have hX7k : X7 k7 = some (.mem 0 0 10 [(Pk.cells (sent a b 128 c d 128 ty nl x)).map AV.d]) := by rw [← hX7]; exact set_self
      have hle7' : AHeap.le H4 X7 := by rw [← hX7]; exact set_le hle7 hk7
      clear hX7 hG7 hle7
      try simp only [not_true_eq_false, if_false, getM_of hX7k, Pk.cells, sent, go_sem]
      refine P4.long_c (p := sent a b 128 c d 128 ty nl x) fun n8 hn8 => ?_
      have hlE : (sent a b 128 c d 128 ty nl x).longE = 0 := by unfold P4.Pk.longE; rw [if_pos (hval nl)]
      have hll := P4.long_len (hval nl)
      obtain ⟨hg1, hg2⟩ := P4.gl_long (hval nl)
      generalize hL : (sent a b 128 c d 128 ty nl x).long = lg at hn8 hll hg1 hg2 ⊢
      rw [hlE]
      simp only [go_sem]
      refine P4.getLong_c (by rw [hll]; unfold sent; simp only; omega) hn8 fun n9 hn9 => ?_
      rw [hg1]
      have hgp : P4.glP lg = (sent a b 128 c d 128 ty nl x).wnl true := by unfold P4.glP; rw [if_pos hg1, hg2]
      rw [hgp] at hn9 ⊢
      simp only [P4.Pk.wnl, P4.Pk.av, sent, go_sem]
      refine alloc_open fun k10 G10 hG10 hle10 hk10 => ?_
      simp only [getM_of hG10, stoA_agg, stoA_get, stoM, setCells, and_self, true_and, Nat.le_refl, Nat.reduceLeDiff, List.cons_append, List.set_cons_zero, List.getElem?_cons_zero, go_sem]
      generalize hX10 : G10.set k10 _ = X10
      have hX10k : X10 k10 = some (.mem 0 0 10 [(Pk.cells (sent a b 128 c d 128 ty n9 x)).map AV.d]) := by rw [← hX10]; exact set_self
      have hle10' : AHeap.le X7 X10 := by rw [← hX10]; exact set_le hle10 hk10
      clear hX10 hG10 hle10
      try simp only [not_true_eq_false, if_false, getM_of hX10k, Pk.cells, sent, go_sem]
      have hqy10 := hqy.le (le_trans' hle7' hle10')
      refine take_c (p := sent a b 128 c d 128 ty n9 x) hqy10 (hval n9) ⟨.inl rfl, .inl rfl⟩ rfl (by omega) hn9 (by simp) (fun h => by simp at h) fun _ H11 v11 hq11 hf11 _ => ?_
      have g7 : H11 k7 = some (.mem 0 0 10 [(Pk.cells (sent a b 128 c d 128 ty nl x)).map AV.d]) := by
        have h7 := hle10' _ _ hX7k
        obtain ⟨_, _, g⟩ := hqy10.map
        rw [hf11 k7 (by rw [h7]; rfl) (fun he => by rw [he, g] at h7; cases h7) (by simp [idOf])]
        exact h7
      simp only [zp, go_sem]
      refine alloc_open fun k12 G12 hG12 hle12 hk12 => ?_
      simp only [getM_of hG12, set_id hG12, not_true_eq_false, if_false, stoA_agg, stoA_get, stoM, setCells, and_self, true_and, Nat.le_refl, Nat.reduceLeDiff, List.cons_append, List.set_cons_zero, List.getElem?_cons_zero, go_sem]
      refine next_c (hq11.le hle12) fun H13 v13 hq13 hf13 => ?_
      have g7' : H13 k7 = some (.mem 0 0 10 [(Pk.cells (sent a b 128 c d 128 ty nl x)).map AV.d]) := by
        have h7 := hle12 _ _ g7
        obtain ⟨_, _, g⟩ := (hq11.le hle12).map
        rw [hf13 k7 (by rw [h7]; rfl) (fun he => by rw [he, g] at h7; cases h7)]
        exact h7
      simp only [P4.Pk.av, sent, go_sem]
      refine alloc_open fun k14 G14 hG14 hle14 hk14 => ?_
      simp only [getM_of hG14, stoA_agg, stoA_get, stoM, setCells, and_self, true_and, Nat.le_refl, Nat.reduceLeDiff, List.cons_append, List.set_cons_zero, List.getElem?_cons_zero, go_sem]
      generalize hX14 : G14.set k14 _ = X14
      have hX14k : X14 k14 = some (.mem 0 0 10 [(Pk.cells (sent a b 128 c d 128 ty n9 x)).map AV.d]) := by rw [← hX14]; exact set_self
      have hle14' : AHeap.le H13 X14 := by rw [← hX14]; exact set_le hle14 hk14
      clear hX14 hG14 hle14
      simp only [not_true_eq_false, if_false, getM_of hX14k, getM_of (hle14' _ _ g7'), Pk.cells, sent, go_sem]
      refine P4.rsame_c (p := sent a b 128 c d 128 ty n9 x) (q := sent a b 128 c d 128 ty nl x) (by unfold sent; simp only; omega) ?_
      have hsame : (sent a b 128 c d 128 ty n9 x).Same (sent a b 128 c d 128 ty nl x) := ⟨⟨rfl, ⟨rfl, rfl⟩, ⟨rfl, rfl⟩, rfl, rfl, rfl⟩, rfl, rfl⟩
      simp only [hsame, decide_true, go_sem]
      exact first_end
    · refine newbad_c hc ?_
      simp only [ne_eq, not_true_eq_false, not_false_eq_true, decide_true, decide_false, if_false, if_true, Int.reduceEq, go_sem]
      exact first_end
  · refine newbad_c ha ?_
    simp only [getM_of hX3k, go_sem]
    by_cases hc : IsAt c d
    · refine new_c hc fun ky my H2 hl2 hky hmy hNy => ?_
      simp only [ne_eq, not_true_eq_false, not_false_eq_true, decide_true, decide_false, if_false, if_true, Int.reduceEq, go_sem]
      exact first_end
    · refine newbad_c hc ?_
      simp only [ne_eq, not_true_eq_false, not_false_eq_true, decide_true, decide_false, if_false, if_true, Int.reduceEq, go_sem]
      exact first_end
theorem sent_open {xs : List Dat} (h : DatOk Try.prog 9 47 xs) : ∃ (c d : Int) (nl : Bool) (x : List UInt8) (kd : UInt8), argAV (aggT Try.prog 47) xs = .agg [.d (.int .i64 c), .d (.int .i64 d), .d (.sl nl (bs x)), .d (.int .u8 kd.toNat)] ∧ (nl = true → x = []) := by
  rw [datOk_struct Try.underlying47] at h
  simp only [datFs_cons, datFs_nil] at h
  obtain ⟨x0, y0, rfl, h0, x1, y1, rfl, h1, x2, y2, rfl, h2, rfl⟩ := h
  simp only [datOk_struct Try.underlying28, datOk_slice Try.underlying22, datFs_cons, datFs_nil, datOk_int Try.underlying3, datOk_int Try.underlying5] at h0 h1 h2
  obtain ⟨_, _, rfl, ⟨a0, rfl, w0⟩, _, _, rfl, ⟨a1, rfl, w1⟩, rfl⟩ := h0
  obtain ⟨nl, l, rfl, hnl, hl, hlen⟩ := h1
  obtain ⟨bl, rfl⟩ := DatOk_bytes (n := 7) Try.underlying5 (l := l) (fun c hc => by rw [datOk_int Try.underlying5]; exact hl c hc)
  obtain ⟨n, rfl, hw⟩ := h2
  have hb := Go.bounds_u8 hw
  have e : n = ((UInt8.ofNat n.toNat).toNat : Int) := by rw [UInt8.toNat_ofNat']; omega
  rw [show aggT Try.prog 47 = true by kernel_rfl]
  refine ⟨a0, a1, nl, bl, UInt8.ofNat n.toNat, ?_, fun h => ?_⟩
  · rw [← e]; rfl
  · have := hnl h
    cases bl with
    | nil => rfl
    | cons y r => cases this
theorem bytes_row (xs : List Dat) (h : DatOk Try.prog 9 28 xs) (ys : List Dat) (h2 : DatOk Try.prog 9 47 ys) : CallsA Try.prog 6 [argAV (aggT Try.prog 28) xs, argAV (aggT Try.prog 47) ys] noHeap fun v _ => v = .d (.bool true) := by
  obtain ⟨a, b, hab, _⟩ := addr_open h
  obtain ⟨c, d, nl, x, kd, hcd, hnl⟩ := sent_open h2
  rw [hab, hcd]
  exact bytes_law hnl
end Go.Proofs.Ytfihnifhabbniaa

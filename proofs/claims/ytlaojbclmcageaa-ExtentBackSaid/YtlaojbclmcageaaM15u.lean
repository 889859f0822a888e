/- The law that blocks and maps are what they were: joined. -/
import Derived.Test.YtlaojbclmcageaaM15t
set_option autoImplicit false
set_option maxRecDepth 100000
set_option linter.unusedVariables false
set_option linter.unusedSimpArgs false
namespace Go.Proofs.Ytlaojbclmcageaa
open Go Go.AM Go.Proofs
def tail11 (γ : Calld) (a0 a1 a2 : AV) (H : AHeap) (K : AV → AHeap → Prop) : Prop :=
  frzLK [a1] H fun l29 H30 => γ 27 l29 H30 fun v27 H28 => optA (extractA v27 0) fun v31 => optA (extractA v27 1) fun v32 => optA (intA .neq v32 (.d (.int .i64 0))) fun v33 => ifA v33 (frzLK [] H28 fun l36 H37 => γ 18 l36 H37 fun v34 H35 => retF [v34] H35 K) (frzLK [v31] H28 fun l40 H41 => γ 19 l40 H41 fun v38 H39 => optA (extractA v38 0) fun v42 => optA (extractA v38 1) fun v43 => optA (intA .neq v43 (.d (.int .i64 0))) fun v44 => ifA v44 (retF [.d (.bool false)] H39 K) (frzLK [v42] H39 fun l47 H48 => γ 28 l47 H48 fun v45 H46 => optA (unA .not v45) fun v49 => ifA v49 (retF [.d (.bool false)] H46 K) (frzLK [v42] H46 fun l52 H53 => γ 27 l52 H53 fun v50 H51 => optA (extractA v50 0) fun v54 => optA (extractA v50 1) fun v55 => optA (intA .neq v55 (.d (.int .i64 0))) fun v56 => ifA v56 (retF [.d (.bool false)] H51 K) (frzLK [v31, v54] H51 fun l59 H60 => γ 36 l59 H60 fun v57 H58 => optA (unA .not v57) fun v61 => ifA v61 (retF [.d (.bool false)] H58 K) (frzLK [a1, a2] H58 fun l64 H65 => γ 41 l64 H65 fun v62 H63 => optA (extractA v62 0) fun v66 => optA (extractA v62 1) fun v67 => optA (extractA v62 2) fun v68 => optA (intA .neq v68 (.d (.int .i64 0))) fun v69 => ifA v69 (frzLK [] H63 fun l72 H73 => γ 18 l72 H73 fun v70 H71 => retF [v70] H71 K) (frzLK [v66] H63 fun l76 H77 => γ 27 l76 H77 fun v74 H75 => optA (extractA v74 0) fun v78 => optA (extractA v74 1) fun v79 => frzLK [v67] H75 fun l82 H83 => γ 27 l82 H83 fun v80 H81 => optA (extractA v80 0) fun v84 => optA (extractA v80 1) fun v85 => optA (intA .neq v79 (.d (.int .i64 0))) fun v86 => ifA v86 (retF [.d (.bool false)] H81 K) (optA (intA .neq v85 (.d (.int .i64 0))) fun v87 => ifA v87 (retF [.d (.bool false)] H81 K) (optA (lenSl v78) fun v88 => optA (intA .neq v88 a2) fun v89 => ifA v89 (retF [.d (.bool false)] H81 K) (newK H81 (fun n92 => bsA ti3 0 [] [] H81 n92) fun v90 H91 => newK H91 (fun n95 => apA 1 8 v90 v78 H91 n95) fun v93 H94 => newK H94 (fun n98 => apA 1 8 v93 v84 H94 n98) fun v96 H97 => frzLK [v96, v31] H97 fun l101 H102 => γ 36 l101 H102 fun v99 H100 => optA (unA .not v99) fun v103 => ifA v103 (retF [.d (.bool false)] H100 K) (frzLK [v66, v67] H100 fun l106 H107 => γ 43 l106 H107 fun v104 H105 => optA (extractA v104 0) fun v108 => optA (extractA v104 1) fun v109 => frzLK [v108] H105 fun l112 H113 => γ 27 l112 H113 fun v110 H111 => optA (extractA v110 0) fun v114 => optA (extractA v110 1) fun v115 => optA (intA .eql v109 (.d (.int .i64 0))) fun v116 => ifA v116 (optA (intA .eql v115 (.d (.int .i64 0))) fun v117 => ifA v117 (frzLK [v114, v31] H111 fun l120 H121 => γ 36 l120 H121 fun v118 H119 => ifA v118 (frzLK [] H119 fun l124 H125 => γ 18 l124 H125 fun v122 H123 => retF [v122] H123 K) (retF [.d (.bool false)] H119 K)) (retF [.d (.bool false)] H111 K)) (retF [.d (.bool false)] H111 K)))))))))))
theorem back_tail {n1 n2 : Bool} {m : List Bool} {l : List Ext} {n : Int} (hw : Wide l) (hl : l.length ≤ 400) : tail11 (CallsA Try.prog) (.d (.sl n1 (bls m))) (.d (.sl n2 (es l))) (.d (.int .i64 n)) noHeap (fun v H => v = .d (.bool true)) := by
  unfold tail11
  simp only [go_sem]
  refine Blocks_c hw (by omega) fun n3 hn3 => ?_
  simp only [go_sem]
  split
  · exact first_end
  rename_i h1
  have hv : Val 300 l := Classical.not_not.1 fun hh => h1 (blkE_of.2 hh)
  have hbP : blkP l = blk l := by unfold blkP; rw [if_pos hv]
  rw [hbP]
  try simp only [go_sem]
  have hbm : ∀ b ∈ blk l, 0 ≤ b ∧ b < 300 := fun b hb => val_mem hv hb
  have hbl := blk_len (val_ok hv)
  have hofk : OfOk (blk l) := ⟨hbm, hv.2.2⟩
  have hofP : ofP (blk l) = short [] (blk l) := by unfold ofP; rw [if_pos hofk]
  have hofE : ofE (blk l) = 0 := by unfold ofE; rw [if_pos hofk]
  refine Of_c (by omega) fun n4 hn4 => ?_
  rw [hofP, hofE]
  obtain ⟨sv, sb⟩ := short_val (n := 300) (by omega) hbm hv.2.2
  have hsl := short_len (l := []) (bs := blk l)
  simp only [List.length_nil] at hsl
  have hish : IsSh (short [] (blk l)) := short_isSh fun i hi => by simp at hi
  generalize hS : short [] (blk l) = S at *
  simp only [not_true_eq_false, if_false, go_sem]
  refine isShort_c (by omega) (val_ok sv) hish ?_
  simp only [Bool.not_true, Bool.false_eq_true, not_true_eq_false, if_false, go_sem]
  have hwS : Wide S := fun x hx => by
    have := val_ok sv x hx
    unfold Ok1 at this
    omega
  refine Blocks_c hwS (by omega) fun n5 hn5 => ?_
  have hbS : blkP S = blk l := by unfold blkP; rw [if_pos sv, sb]
  have hbSE : blkE S = 0 := by unfold blkE; rw [if_pos sv]
  rw [hbS, hbSE]
  simp only [not_true_eq_false, if_false, go_sem]
  refine sameInts_c (by omega) ?_
  simp only [decide_true, Bool.not_true, Bool.false_eq_true, not_true_eq_false, if_false, go_sem]
  refine Cut_c hw hl fun n6 n7 hn6 hn7 => ?_
  simp only [go_sem]
  split
  · exact first_end
  rename_i h2
  have hok : CutOk l n := by
    unfold cutE at h2
    split at h2
    · assumption
    · exact absurd (by simp) h2
  have hcK : cutK l n = kp l n := by unfold cutK; rw [if_pos hok]
  have hcD : cutD l n = dp l n := by unfold cutD; rw [if_pos hok]
  rw [hcK] at hn6
  rw [hcD] at hn7
  rw [hcK, hcD]
  have ok1 := kp_ok (val_ok hv) hok.2.1
  have ok2 := dp_ok (val_ok hv) hok.2.1
  have bk1 := kp_blk (val_ok hv) hok.2.1
  have bk2 := dp_blk (val_ok hv) hok.2.1
  have bk12 : blk (kp l n) ++ blk (dp l n) = blk l := by rw [bk1, bk2, List.take_append_drop]
  have kl := kp_len (l := l) (n := n)
  have dl := dp_len (l := l) (n := n)
  have hnl : ((blk (kp l n)).length : Int) = n := by
    have := hok.2.2
    have := hok.2.1
    rw [bk1, List.length_take]; omega
  obtain ⟨jok, jb⟩ := joinL_ok ok1 ok2
  have jl := joinL_len (l := kp l n) (y := dp l n)
  generalize hKP : kp l n = P at *
  generalize hDP : dp l n = D at *
  have hvPD : Val 300 (P ++ D) := by
    refine ⟨by omega, fun x hx => ?_, by rw [blk_app, bk12]; exact hv.2.2⟩
    rcases List.mem_append.1 hx with hx | hx
    · exact ok1 x hx
    · exact ok2 x hx
  obtain ⟨vP, vD⟩ := val_app hvPD
  have wide : ∀ {L : List Ext}, (∀ x ∈ L, Ok1 300 x) → Wide L := fun hL x hx => by
    have := hL x hx
    unfold Ok1 at this
    omega
  have dlen : (blk D).length ≤ (blk l).length := by rw [← bk12, List.length_append]; omega
  have plen : (blk P).length ≤ (blk l).length := by rw [← bk12, List.length_append]; omega
  try simp only [go_sem]
  refine Blocks_c (wide ok1) (by omega) fun n8 hn8 => ?_
  simp only [go_sem]
  refine Blocks_c (wide ok2) (by omega) fun n9 hn9 => ?_
  have p1 : blkP P = blk P := by unfold blkP; rw [if_pos vP]
  have p2 : blkE P = 0 := by unfold blkE; rw [if_pos vP]
  have d1 : blkP D = blk D := by unfold blkP; rw [if_pos vD]
  have d2 : blkE D = 0 := by unfold blkE; rw [if_pos vD]
  rw [p1, p2, d1, d2]
  simp only [ints_len, hnl, not_true_eq_false, if_false, go_sem]
  have bs3_0 : ∀ {H : AHeap} {n : Nat}, bsA ti3 0 [] [] H n = some (.lit [], []) := rfl
  intro n10 _
  simp only [bs3_0, go_sem]
  refine (Own.lit (sz := 1) (l := []) (le_refl' (H := noHeap)) (by simp)).app (ys := ints (blk P)) (by rw [elemsA_sl]) (by decide) (by decide) ints_1 (by rw [ints_len]; simp only [List.length_nil]; unfold mostBytes; omega) fun v1 G1 hG1 _ _ _ => ?_
  refine hG1.app (ys := ints (blk D)) (by rw [elemsA_sl]) (by decide) (by decide) ints_1 (by rw [List.nil_append, ints_len, ints_len]; unfold mostBytes; omega) fun v2 G2 hG2 _ _ _ => ?_
  rw [List.nil_append, ← ints_app, bk12] at hG2
  obtain ⟨us, _, f2, f3, _⟩ := hG2.frz
  rw [frzLK_of f2]
  simp only [go_sem]
  refine sameInts_c (by omega) ?_
  simp only [decide_true, Bool.not_true, Bool.false_eq_true, not_true_eq_false, if_false, go_sem]
  refine Join_c (by omega) (by omega) (wide ok1) (wide ok2) hn6 hn7 fun n11 hn11 => ?_
  have j1 : joinP P D = joinL P D := by unfold joinP; rw [if_pos hvPD]
  have j2 : joinE P D = 0 := by unfold joinE; rw [if_pos hvPD]
  rw [j1, j2]
  simp only [go_sem]
  refine Blocks_c (wide jok) (by omega) fun n12 hn12 => ?_
  have hvJ : Val 300 (joinL P D) := ⟨by omega, jok, by rw [jb, bk12]; exact hv.2.2⟩
  have q1 : blkP (joinL P D) = blk l := by unfold blkP; rw [if_pos hvJ, jb, bk12]
  have q2 : blkE (joinL P D) = 0 := by unfold blkE; rw [if_pos hvJ]
  rw [q1, q2]
  simp only [if_true, go_sem]
  refine sameInts_c (by omega) ?_
  simp only [decide_true, if_true, go_sem]
  exact first_c (by simp only [go_sem]; exact ⟨_, le_refl', rfl⟩)
theorem back_law {n1 n2 : Bool} {m : List Bool} {l : List Ext} {n : Int} (hw : Wide l) : CallsA Try.prog 11 [.d (.sl n1 (bls m)), .d (.sl n2 (es l)), .d (.int .i64 n)] noHeap fun v _ => v = .d (.bool true) := by
  apply C11
  unfold S11
  simp only [es_len, go_sem]
  split
  · exact first_end
  rename_i h0
  have t : ∀ G, G = noHeap → tail11 (CallsA Try.prog) (.d (.sl n1 (bls m))) (.d (.sl n2 (es l))) (.d (.int .i64 n)) noHeap (fun v H => v = .d (.bool true)) := fun G _ => back_tail hw (by omega)
  have t := t noHeap rfl
  unfold tail11 at t
  simp only [go_sem] at t ⊢
  refine Pack_c fun n3 => ?_
  simp only [go_sem]
  split
  · rename_i hE
    have hm : m.length ≤ 300 := by
      unfold packE at hE
      split at hE
      · assumption
      · cases hE
    obtain ⟨u1, u2⟩ := un_pack hm
    try simp only [bls_len, go_sem]
    refine Unpack_c fun n4 hn4 => ?_
    rw [u1, u2]
    simp only [not_true_eq_false, if_false, go_sem]
    refine sameMaps_c (by omega) ?_
    simp only [decide_true, Bool.not_true, Bool.false_eq_true, not_true_eq_false, if_false, go_sem]
    exact t
  · exact t
theorem back_row (xs : List Dat) (h : DatOk Try.prog 9 22 xs) (ys : List Dat) (h2 : DatOk Try.prog 9 23 ys) (zs : List Dat) (h3 : DatOk Try.prog 9 3 zs) : CallsA Try.prog 11 [argAV (aggT Try.prog 22) xs, argAV (aggT Try.prog 23) ys, argAV (aggT Try.prog 3) zs] noHeap fun v _ => v = .d (.bool true) := by
  obtain ⟨nl, m, hm, hnl, _⟩ := bools_open h
  obtain ⟨n2, l, hl, hn2, hw, _⟩ := exts_open h2
  obtain ⟨n, hn, _⟩ := int_open h3
  rw [hm, hl, hn]
  exact back_law hw
end Go.Proofs.Ytlaojbclmcageaa

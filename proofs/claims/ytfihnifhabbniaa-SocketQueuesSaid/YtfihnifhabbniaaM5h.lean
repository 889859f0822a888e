/- The law of queues. -/
import Derived.Test.YtfihnifhabbniaaM5g
set_option autoImplicit false
set_option maxRecDepth 100000
set_option linter.unusedVariables false
set_option linter.unusedSimpArgs false
namespace Go.Proofs.Ytfihnifhabbniaa
open Go Go.AM Go.Proofs
open P4 (Pk)
theorem mu0 {s : Int} {m cl : Nat} {H : AHeap} (h : H m = some (.map [] cl)) : muA Try.prog 3 (.map m) (.d (.int .i64 s)) (.d (.sl true [])) H = some (.junk, [(m, .map [⟨.int .i64 s, .d (.sl true []), cl⟩] (cl + 1))]) := by
  simp only [muA, Try.underlying3, keyOk, decide_true, AV.storable, and_self, if_true, mapSetA, h, findE, List.nil_append]
theorem Nd.map0 {H : AHeap} {k m : Nat} {a b : Int} (h : Nd H k m a b []) : ∃ cl, H m = some (.map [] cl) := by
  obtain ⟨es, cl, h1, h2⟩ := h.map
  cases es with
  | nil => exact ⟨cl, h1⟩
  | cons e r => cases h2
theorem q_nil {H : AHeap} : Qv H (.d (.sl true [])) [] := ⟨by simp, .inl ⟨rfl, rfl⟩⟩
theorem openq_c {H : AHeap} {k m : Nat} {a b s : Int} (h : Nd H k m a b []) (h1 : 1 ≤ s) (h2 : s ≤ 127) (h4 : s ≠ 4) {K : AV → AHeap → Prop} (hk : ∀ H', Nq H' k m a b s (.d (.sl true [])) [] → (∀ i, i ≠ m → H' i = H i) → K (.tup [.d (.int .i64 s), .d (.int .i64 0)]) H') : CallsA Try.prog 12 [.ptr k 0 0 0, .d (.int .i64 s)] H K := by
  apply C12
  unfold S12
  obtain ⟨cl, h3⟩ := h.map0
  simp only [go_sem]
  refine none_c h ?_
  rw [if_neg (show ¬ s < 0 by omega), if_neg (show ¬ 127 < s by omega), if_neg h4]
  try simp only [go_sem]
  refine is_c h ?_
  simp only [List.not_mem_nil, decide_false, Bool.false_eq_true, if_false, go_sem]
  rw [if_neg (show ¬ s = 0 by omega), if_neg (show ¬ 254 < s by omega)]
  simp only [nilCk_ptr, ti72_f1, getM_of h.node, mu0 h3, go_sem]
  exact ⟨_, le_refl', hk _ ⟨by rw [set_ne h.ne]; exact h.node, ⟨_, _, set_self⟩, q_nil⟩ fun i hi => set_ne hi⟩
theorem open0q_c {H : AHeap} {k m : Nat} {a b : Int} (h : Nd H k m a b []) {K : AV → AHeap → Prop} (hk : ∀ H', Nq H' k m a b 128 (.d (.sl true [])) [] → (∀ i, i ≠ m → H' i = H i) → K (.tup [.d (.int .i64 128), .d (.int .i64 0)]) H') : CallsA Try.prog 12 [.ptr k 0 0 0, .d (.int .i64 0)] H K := by
  apply C12
  unfold S12
  obtain ⟨cl, h3⟩ := h.map0
  simp only [go_sem]
  refine none_c h ?_
  simp only [Int.reduceLT, if_false, Int.reduceEq, if_true, go_sem]
  refine is_c h ?_
  simp only [List.not_mem_nil, decide_false, Bool.false_eq_true, if_false, if_true, go_sem]
  refine loop_ind (fun n vs H' => H' = H ∧ vs = [.ptr k 0 0 0, .d (.int .i64 128)]) (n := 0) ⟨rfl, rfl⟩ ?_
  rintro X n vs H' ⟨rfl, rfl⟩ hX
  simp only [List.getD_cons_succ, List.getD_cons_zero, go_sem]
  refine is_c h ?_
  simp only [List.not_mem_nil, decide_false, Bool.false_eq_true, if_false, if_true, Int.reduceLT, nilCk_ptr, ti72_f1, getM_of h.node, mu0 h3, go_sem]
  exact ⟨_, le_refl', hk _ ⟨by rw [set_ne h.ne]; exact h.node, ⟨_, _, set_self⟩, q_nil⟩ fun i hi => set_ne hi⟩
/-- A list of one's own, of which nothing else is known. -/
abbrev Mine (H : AHeap) (v : AV) (l : List (List Dat)) : Prop := Own noHeap 1 H v l
theorem no_le {H : AHeap} : AHeap.le noHeap H := fun i o h => by cases h
theorem Mine.keep {H H' : AHeap} {v : AV} {l : List (List Dat)} (h : Mine H v l) (hk : ∀ i, idOf v = some i → H' i = H i) : Mine H' v l := by
  refine ⟨no_le, h.2.1, ?_⟩
  rcases h.2.2 with h1 | h1 | ⟨i, ver, L, rfl, h2, h3⟩
  · exact .inl h1
  · exact .inr (.inl h1)
  · exact .inr (.inr ⟨i, ver, L, rfl, by rw [hk i rfl]; exact h2, h3⟩)
theorem Mine.obj {H : AHeap} {v : AV} {l : List (List Dat)} (h : Mine H v l) {i : Nat} (hi : idOf v = some i) : ∃ ver L, H i = some (.mem ver 0 1 L) := by
  rcases h.2.2 with ⟨rfl, _⟩ | rfl | ⟨j, ver, L, rfl, h1, _⟩
  · cases hi
  · cases hi
  · cases hi; exact ⟨ver, L, h1⟩
theorem Mine.ix {H : AHeap} {v : AV} {l : List (List Dat)} (h : Mine H v l) {ti : TI} {e j : Nat} {x : Dat} (hk : ti.k = .slice e) (hx : l[j]? = some [x]) : ∃ p, indexAddrA ti 1 v (.d (.int .i64 j)) = some p ∧ ldV false 1 p H = some (.d x) := by
  have hj : j < l.length := (List.getElem?_eq_some_iff.1 hx).1
  rcases h.2.2 with ⟨rfl, rfl⟩ | rfl | ⟨i, ver, L, rfl, h1, h2, h3, _⟩
  · simp at hj
  · exact ⟨.vptr [x] 0, by simp only [indexAddrA, hk, show (0 : Int) ≤ j by omega, if_true, Int.toNat_natCast, hx, List.length_cons, List.length_nil], rfl⟩
  · refine ⟨.ptr i ver j 0, by rw [idx_rs hk (by omega) (by omega)]; rfl, ?_⟩
    have : L[j]? = some [.d x] := by
      have h4 : (L.take l.length)[j]? = L[j]? := List.getElem?_take_of_lt hj
      rw [← h4, h2]
      simp only [avs, List.getElem?_map, hx, Option.map_some, List.map_cons, List.map_nil]
    simp only [ldV_get, getM_of h1, ldM, this, partV, List.drop_zero, List.take_succ_cons, List.take_zero, List.length_cons, List.length_nil, if_true, Bool.false_eq_true, if_false]
def qp (at1 : Int) (c : UInt8) : Pk := ⟨0, 3, at1, 3, 7, 9, 8, 1 + (c.toNat : Int) % 255, false, [c], false⟩
theorem qp_valid {a : Int} {c : UInt8} (h : 1 ≤ a ∧ a ≤ 200) : (qp a c).Valid := by
  have := c.toNat_lt
  unfold qp P4.Pk.Valid
  simp only [List.length_cons, List.length_nil]
  omega
def tys (ps : List UInt8) : List (List Dat) := ps.map fun c => [.int .i64 (1 + (c.toNat : Int) % 255)]
theorem bs5_1 {x : Dat} {H : AHeap} {n : Nat} : bsA ti5 1 [0] [.d x] H n = some (.lit [[x]], []) := rfl
theorem bs3_1 {x : Dat} {H : AHeap} {n : Nat} : bsA ti3 1 [0] [.d x] H n = some (.lit [[x]], []) := rfl
theorem queues_law {n : UInt8} {nl : Bool} {cs : List UInt8} : CallsA Try.prog 4 [.d (.int .u8 n.toNat), .d (.sl nl (bs cs))] noHeap fun v _ => v = .d (.bool true) := by
  have hn := n.toNat_lt
  apply C4
  unfold S4
  simp only [intA_rem (b := 200) (by decide), go_sem]
  rw [wrap_i64 (n := (n.toNat : Int)) (by omega) (by omega), Int.tmod_eq_emod_of_nonneg (by omega), wrap_i64 (n := 1 + (n.toNat : Int) % 200) (by omega) (by omega)]
  generalize hat : 1 + (n.toNat : Int) % 200 = at1
  have hat1 : 1 ≤ at1 ∧ at1 ≤ 200 := by omega
  clear hat hn
  simp only [bd28_eq, go_sem]
  refine alloc_open fun k0 G0 hG0 hle0 hk0 => ?_
  simp only [getM_of hG0, stoA_agg, stoA_get, stoM, setCells, and_self, true_and, Nat.le_refl, Nat.reduceLeDiff, List.cons_append, List.set_cons_zero, List.getElem?_cons_zero, go_sem]
  generalize hX0 : G0.set k0 _ = X0
  have hX0k : X0 k0 = some (.mem 0 0 2 [[.d (.int .i64 3), .d (.int .i64 at1)]]) := by rw [← hX0]; exact set_self
  clear hX0 hG0 hle0 hk0
  try simp only [getM_of hX0k, go_sem]
  refine new_c (by omega) fun k m H1 hle hk hm hN => ?_
  simp only [nilP_eql, nilP_neq, bs_length, ne_eq, not_true_eq_false, decide_false, if_false, Bool.false_eq_true, go_sem]
  refine openq_c hN (by omega) (by omega) (by omega) fun H2 hq hf => ?_
  have hk0 := hle _ _ hX0k
  rw [← hf k0 (fun he => by rw [he, hm] at hX0k; cases hX0k)] at hk0
  simp only [ne_eq, not_true_eq_false, decide_false, if_false, if_true, Bool.false_eq_true, bs_length, go_sem]
  split
  · exact first_end
  rename_i hlen
  refine loop_ind (fun r vs H' => ∃ (i : Nat) (v w : AV) (ps : List UInt8), i ≤ cs.length ∧ ps.length ≤ i ∧ ps.length ≤ 100 ∧ r = cs.length - i ∧ Nq H' k m 3 at1 9 v (ps.map fun c => Pk.cells (qp at1 c)) ∧ Mine H' w (tys ps) ∧ H' k0 = some (.mem 0 0 2 [[.d (.int .i64 3), .d (.int .i64 at1)]]) ∧ vs = [.d (.sl nl (bs cs)), .ptr k0 0 0 0, .ptr k 0 0 0, w, .d (.int .i64 i), .junk]) (n := cs.length)
    ⟨0, _, .d (.sl true []), [], by omega, by simp, by simp, by omega, hq, Own.nil no_le, hk0, rfl⟩ ?_
  rintro X r vs H' ⟨i, v, w, ps, hi, hps, hp100, rfl, hq', hw, hk0', rfl⟩ hX
  simp only [List.getD_cons_succ, List.getD_cons_zero, bs_length, go_sem]
  split
  · rename_i hlt
    have hi' : i < cs.length := by omega
    have hc := cs[i].toNat_lt
    have hix : indexAddrA ti22 1 (.d (.sl nl (bs cs))) (.d (.int .i64 i)) = some (.vptr [.int .u8 cs[i].toNat] 0) := sl_get (e := 5) rfl (by omega) (by simp [bs, hi']) rfl
    simp only [getM_of hk0', bd28_eq, hix, List.map_cons, List.map_nil, intA_rem (b := 255) (by decide), go_sem]
    intro n65 _
    simp only [bs5_1, go_sem]
    rw [wrap_i64 (n := (cs[i].toNat : Int)) (by omega) (by omega), Int.tmod_eq_emod_of_nonneg (by omega), wrap_i64 (n := 1 + (cs[i].toNat : Int) % 255) (by omega) (by omega)]
    simp only [bd36, cell3, cell4, cell28, cell22, bdA, fillA, setCells, List.zip_cons_cons, List.zip_nil_right, List.zip_nil_left, Option.map_some, and_self, Nat.le_refl, Nat.reduceLeDiff, List.cons_append, go_sem]
    refine alloc_open fun k1 G1 hG1 hle1 hk1 => ?_
    simp only [getM_of hG1, stoA_agg, stoA_get, stoM, setCells, and_self, true_and, Nat.le_refl, Nat.reduceLeDiff, List.cons_append, List.set_cons_zero, List.getElem?_cons_zero, go_sem]
    generalize hX1 : G1.set k1 _ = X1
    have hX1k : X1 k1 = some (.mem 0 0 10 [(Pk.cells (qp at1 cs[i])).map AV.d]) := by rw [← hX1]; exact set_self
    have hleX : AHeap.le H' X1 := by rw [← hX1]; exact set_le hle1 hk1
    clear hX1 hG1 hle1
    have hqX := hq'.le hleX
    have hqn : (ps.map fun c => Pk.cells (qp at1 c)).length = ps.length := by simp
    refine take_c (p := qp at1 cs[i]) hqX (qp_valid hat1) ⟨.inl rfl, .inl rfl⟩ rfl (by omega) (fun h => by cases h) (by omega) (fun hfull => ?_) fun hnf H4 v' hq4 hf4 hid4 => ?_
    · rw [hqn] at hfull
      simp only [go_sem]
      refine alloc_open fun k5 G5 hG5 hle5 hk5 => ?_
      have hw5 : lenSl w = some (.d (.int .i64 (tys ps).length)) := hw.len
      have hl5 : (tys ps).length = 100 := by simp [tys, hfull]
      simp only [getM_of hG5, hw5, hl5, zp, set_id hG5, Int.reduceEq, not_true_eq_false, Int.reduceLT, Int.reduceLE, stoA_agg, stoA_get, stoM, setCells, and_self, true_and, Nat.le_refl, Nat.reduceLeDiff, List.cons_append, List.set_cons_zero, List.getElem?_cons_zero, go_sem]
      have hleG := le_trans' hleX hle5
      rw [wrap_i64 (by omega) (by omega)]
      exact hX _ _ _ (by omega) ⟨i + 1, v, w, ps, by omega, by omega, hp100, rfl, hq'.le hleG, hw.keep fun j hj => by obtain ⟨_, _, g⟩ := hw.obj hj; rw [g]; exact hleG _ _ g, hleG _ _ hk0', rfl⟩
    · rw [hqn] at hnf
      simp only [go_sem]
      refine alloc_open fun k5 G5 hG5 hle5 hk5 => ?_
      have hw5 : lenSl w = some (.d (.int .i64 (tys ps).length)) := hw.len
      have hl5 : (tys ps).length = ps.length := by simp [tys]
      have f1 : G5 k1 = some (.mem 0 0 10 [(Pk.cells (qp at1 cs[i])).map AV.d]) := hle5 _ _ (by
        rw [hf4 k1 (by rw [hX1k]; rfl) (fun he => by obtain ⟨_, _, h1⟩ := hqX.map; rw [← he, hX1k] at h1; cases h1) (fun he => by obtain ⟨_, _, g⟩ := hq'.qv.some he; rw [hk1] at g; cases g)]
        exact hX1k)
      simp only [getM_of hG5, getM_of f1, hw5, hl5, zp, set_id hG5, ti36_f5, Pk.cells, qp, bs3_1, not_true_eq_false, stoA_agg, stoA_get, stoM, setCells, and_self, true_and, Nat.le_refl, Nat.reduceLeDiff, List.cons_append, List.set_cons_zero, List.getElem?_cons_zero, go_sem]
      rw [if_pos (show (ps.length : Int) < 100 by omega), if_neg (show ¬ (100 : Int) ≤ (ps.length : Int) by omega)]
      intro n97 _
      simp only [bs3_1, go_sem]
      have hwH : Mine H4 w (tys ps) := hw.keep fun j hj => by
        obtain ⟨_, _, g⟩ := hw.obj hj
        rw [hf4 j (by rw [hleX _ _ g]; rfl) (fun he => by obtain ⟨_, _, h1⟩ := hq'.map; rw [← he, g] at h1; cases h1) (fun he => by obtain ⟨_, _, g2⟩ := hq'.qv.some he; rw [g] at g2; cases g2), hleX _ _ g, g]
      have hwG : Mine G5 w (tys ps) := hwH.keep fun j hj => by obtain ⟨_, _, g⟩ := hwH.obj hj; rw [g]; exact hle5 _ _ g
      have hqG := hq4.le hle5
      have hk0G : G5 k0 = some (.mem 0 0 2 [[.d (.int .i64 3), .d (.int .i64 at1)]]) := hle5 _ _ (by
        have hx := hleX _ _ hk0'
        rw [hf4 k0 (by rw [hx]; rfl) (fun he => by obtain ⟨_, _, h1⟩ := hqX.map; rw [← he, hx] at h1; cases h1) (fun he => by obtain ⟨_, _, g⟩ := hqX.qv.some he; rw [hx] at g; cases g)]
        exact hx)
      refine Own.app hwG (x := .lit [[.int .i64 (1 + (cs[i].toNat : Int) % 255)]]) (ys := [[.int .i64 (1 + (cs[i].toNat : Int) % 255)]]) rfl (by omega) (by omega) (by simp) (by rw [hl5]; unfold mostBytes; simp; omega) fun w' H9 hw9 hf9 hid9 _ => ?_
      rw [wrap_i64 (by omega) (by omega)]
      have em : tys (ps ++ [cs[i]]) = tys ps ++ [[.int .i64 (1 + (cs[i].toNat : Int) % 255)]] := by simp [tys]
      have ep : (ps ++ [cs[i]]).map (fun c => Pk.cells (qp at1 c)) = ps.map (fun c => Pk.cells (qp at1 c)) ++ [Pk.cells (qp at1 cs[i])] := by simp
      have fr : ∀ j o, G5 j = some o → (∀ ver L, o ≠ .mem ver 0 1 L) → H9 j = some o := fun j o ho hne => by
        rw [hf9 j (by rw [ho]; rfl) fun he => by obtain ⟨ver, L, g⟩ := hwG.obj he; rw [ho] at g; cases g; exact hne _ _ rfl]
        exact ho
      obtain ⟨bn, cl, h1⟩ := hqG.map
      refine hX _ _ _ (by omega) ⟨i + 1, v', w', ps ++ [cs[i]], by omega, by simp; omega, by simp; omega, rfl, ?_, by rw [em]; exact hw9, fr _ _ hk0G (by simp), rfl⟩
      rw [ep]
      refine ⟨fr _ _ hqG.node (by simp), ⟨bn, cl, fr _ _ h1 (by simp)⟩, hqG.qv.keep fun j hj => ?_⟩
      obtain ⟨_, _, g⟩ := hqG.qv.some hj
      rw [fr _ _ g (by simp), g]
  · refine waiting_c hq' ?_
    have hl5 : (tys ps).length = ps.length := by simp [tys]
    simp only [hw.len, hl5, List.length_map, ne_eq, not_true_eq_false, decide_false, if_false, go_sem]
    refine loop_ind (fun r vs H' => ∃ (j : Nat) (v : AV), j ≤ ps.length ∧ r = ps.length - j ∧ Nq H' k m 3 at1 9 v ((ps.drop j).map fun c => Pk.cells (qp at1 c)) ∧ Mine H' w (tys ps) ∧ vs = [.d (.sl nl (bs cs)), .ptr k0 0 0 0, .ptr k 0 0 0, w, .d (.int .i64 i), .d (.int .i64 j)]) (n := ps.length)
      ⟨0, _, by omega, by omega, hq', hw, rfl⟩ ?_
    rintro X2 r2 vs2 H2 ⟨j, v2, hj, rfl, hq2, hw2, rfl⟩ hX2
    simp only [List.getD_cons_succ, List.getD_cons_zero, hw2.len, hl5, go_sem]
    split
    · rename_i hlt2
      have hj' : j < ps.length := by omega
      have hd : ps.drop j = ps[j] :: ps.drop (j + 1) := List.drop_eq_getElem_cons hj'
      rw [hd] at hq2
      simp only [List.map_cons] at hq2
      refine next_c hq2 fun H3 v3 hq3 hf3 => ?_
      simp only [P4.Pk.av, go_sem]
      refine alloc_open fun k5 G5 hG5 hle5 hk5 => ?_
      have hw3 : Mine H3 w (tys ps) := hw2.keep fun i hi => hf3 i (by obtain ⟨_, _, g⟩ := hw2.obj hi; rw [g]; rfl) (fun he => by obtain ⟨_, _, g⟩ := hw2.obj hi; obtain ⟨_, _, h1⟩ := hq2.map; rw [← he, g] at h1; cases h1)
      have hw5 : Mine (G5.set k5 (.mem 0 0 10 [(Pk.cells (qp at1 ps[j])).map AV.d])) w (tys ps) := hw3.keep fun i hi => by obtain ⟨_, _, g⟩ := hw3.obj hi; rw [set_le hle5 hk5 _ _ g, g]
      have hty : (tys ps)[j]? = some [.int .i64 (1 + (ps[j].toNat : Int) % 255)] := by simp [tys, hj']
      obtain ⟨pw, e1, e2⟩ := hw5.ix (ti := ti34) rfl hty
      simp only [Pk.cells, qp, List.map_cons, List.map_nil] at e2
      simp only [getM_of hG5, ti36_f5, qp, e1, e2, ne_eq, not_true_eq_false, decide_false, if_false, stoA_agg, stoA_get, stoM, setCells, and_self, true_and, Nat.le_refl, Nat.reduceLeDiff, List.cons_append, List.set_cons_zero, List.getElem?_cons_zero, go_sem]
      rw [wrap_i64 (by omega) (by omega)]
      exact hX2 (ps.length - (j + 1)) _ _ (by omega) ⟨j + 1, v3, by omega, rfl, hq3.le (set_le hle5 hk5), hw5, rfl⟩
    · rename_i hlt2
      have hd : ps.drop j = [] := List.drop_eq_nil_of_le (by omega)
      rw [hd] at hq2
      refine next0_c hq2 ?_
      simp only [zp, if_true, go_sem]
      exact first_end
theorem queues_row (xs : List Dat) (h : DatOk Try.prog 9 5 xs) (ys : List Dat) (h2 : DatOk Try.prog 9 22 ys) : CallsA Try.prog 4 [argAV (aggT Try.prog 5) xs, argAV (aggT Try.prog 22) ys] noHeap fun v _ => v = .d (.bool true) := by
  rw [datOk_int Try.underlying5] at h
  obtain ⟨n, rfl, hw⟩ := h
  obtain ⟨nl, bl, hb, _⟩ := bytes_open h2
  rw [hb, show aggT Try.prog 5 = false by kernel_rfl]
  have hb := Go.bounds_u8 hw
  have e : n = ((UInt8.ofNat n.toNat).toNat : Int) := by rw [UInt8.toNat_ofNat']; omega
  rw [show argAV false [.int .u8 n] = .d (.int .u8 n) from rfl, e]
  exact queues_law
end Go.Proofs.Ytfihnifhabbniaa

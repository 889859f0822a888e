/- Several of my texts as one. -/
import Derived.Test.YtofjhihigmimbaaG10a
set_option linter.unnecessarySimpa false
namespace Go.Proofs.Ytofjhihigmimbaa
open Go Go.AM Go.Proofs
def z0 : Tr := ⟨0, 0, 0, 0, false, false, false, true, []⟩
end Go.Proofs.Ytofjhihigmimbaa
set_option autoImplicit false
set_option maxRecDepth 100000
set_option linter.unusedVariables false
set_option linter.unusedSimpArgs false
namespace Go.Proofs.Ytofjhihigmimbaa
open Go Go.AM Go.Proofs
def Rq.new0 (p : Nat) (id : Int) (nl : Bool) (data : List UInt8) (once : Bool) (tries : Int) (n : Nat) : Rq := { Rq.new p id nl data once tries n with b := 0 }
theorem bd111_new {H : AHeap} {id tries last : Int} {once : Bool} {v : AV} {d : List UInt8} {us : Ups} (f : frzA v H = some (.d (.sl false (bs d)), us)) :
  bdA Try.prog ti111 [0, 1, 2, 3, 4, 5, 7] [.d (.int .i64 id), .d (.int .i64 1), v, .d (.bool once), .d (.int .i64 tries), .d (.int .i64 1), .d (.int .i64 last)] H = some (.agg [.d (.int .i64 id), .d (.int .i64 1), .d (.sl false (bs d)), .d (.bool once), .d (.int .i64 tries), .d (.int .i64 1), .d (.int .i64 0), .d (.int .i64 last), .d (.bool false), .d (.bool false), .d (.bool false), .d (.bool false), .d (.bool false), .d (.bool false), .d (.bool false), .d (.bool false), .d (.sl true []), .d (.sl true []), .d (.sl true []), .d (.sl true []), .d (.sl true []), .d (.sl true []), .d (.sl true []), .d (.sl true [])], us) := by
 have c2 : ∀ (a b : Dat) {K : List AV × Ups → Option (AV × Ups)}, True := fun _ _ _ => trivial
 simp only [bdA, frzAL, frzA_d, AHeap.sets, f, frzA_d, List.append_nil, List.nil_append, sets_nil']
 have e : ∀ (G : AHeap), frzAL [.d (.bool once), .d (.int .i64 tries), .d (.int .i64 1), .d (.int .i64 last)] G = some ([.d (.bool once), .d (.int .i64 tries), .d (.int .i64 1), .d (.int .i64 last)], []) := fun G => rfl
 simp only [bd111, cell3, cell4, cell22, fillA, setCells, List.zip_cons_cons, List.zip_nil_right, Option.map_some, Nat.reduceLeDiff, List.cons_append, go_sem]
theorem new0_row {p : Nat} {id : Int} {nl : Bool} {data : List UInt8} {once : Bool} {tries : Int} {n : Nat} : (Rq.new0 p id nl data once tries n).row.map AV.d = [.d (.int .i64 id), .d (.int .i64 1), .d (.sl false (bs data)), .d (.bool once), .d (.int .i64 tries), .d (.int .i64 1), .d (.int .i64 0), .d (.int .i64 ((n - 1 : Nat) : Int)), .d (.bool false), .d (.bool false), .d (.bool false), .d (.bool false), .d (.bool false), .d (.bool false), .d (.bool false), .d (.bool false), .d (.sl true []), .d (.sl true []), .d (.sl true []), .d (.sl true []), .d (.sl true []), .d (.sl true []), .d (.sl true []), .d (.sl true [])] := by
 have : bl8 (Nat.testBit 0) = bl8 fun _ => false := bl8_congr fun k _ => by simp
 unfold Rq.row
 show List.map AV.d (_ :: _ :: _ :: _ :: _ :: _ :: _ :: _ :: (bl8 (Nat.testBit 0) ++ _)) = _
 rw [this]
 rfl
theorem frzL_map {l : List Dat} {G : AHeap} : frzL (l.map AV.d) G = some (l.map AV.d, []) := by
 induction l with
 | nil => rfl
 | cons a l ih => simp only [List.map_cons, frzL, frz, AHeap.sets, ih, List.append_nil]
theorem sto24 {l : List Dat} {G : AHeap} {u : Nat} {old : List AV} (hl : l.length = 24) (hG : G u = some (.mem 0 0 24 [old])) (ho : old.length = 24) : stoA true 24 (.ptr u 0 0 0) (.agg (l.map AV.d)) G = some (.junk, [(u, .mem 0 0 24 [l.map AV.d])]) := by
 have hl' : (l.map AV.d).length = 24 := by rw [List.length_map, hl]
 rw [stoA_agg, frzL_map]
 simp only [AHeap.sets, stoA, stA, hG, AV.storable, AV.cells, hl', ho, Nat.le_refl, and_self, if_true, List.getElem?_cons_zero, Bool.false_eq_true, if_false, Nat.zero_add, setCells, List.take_zero, List.nil_append, List.set_cons_zero]
 rw [List.drop_eq_nil_of_le (Nat.le_of_eq ho), List.append_nil]
section
variable {H G : AHeap} {r : Nat} {nx : Int} {L : List Rq} {K : AV → AHeap → Prop}
set_option maxHeartbeats 2000000 in
theorem rask_c (h : RA H r nx L) {nl : Bool} {data : List UInt8} (hnl : nl = true → data = []) {pieces tries : Int} {once : Bool} (p : Nat)
  (hbad : ¬ (data.length ≤ 64 ∧ (1 ≤ pieces ∧ pieces ≤ 8) ∧ (1 ≤ tries ∧ tries ≤ 255)) → K (.tup [.d (.int .i64 0), .agg zt, .d (.int .i64 2)]) H)
  (hfull : (data.length ≤ 64 ∧ (1 ≤ pieces ∧ pieces ≤ 8) ∧ (1 ≤ tries ∧ tries ≤ 255)) → L.length = 100 → K (.tup [.d (.int .i64 0), .agg zt, .d (.int .i64 4)]) H)
  (hk : (data.length ≤ 64 ∧ (1 ≤ pieces ∧ pieces ≤ 8) ∧ (1 ≤ tries ∧ tries ≤ 255)) → L.length < 100 → ∀ H', RA H' r (nth (free L nx) 1) (L ++ [Rq.new p (free L nx) nl data once tries pieces.toNat]) → Fr SR H H' →
   K (.tup [.d (.int .i64 (free L nx)), (Rq.new p (free L nx) nl data once tries pieces.toNat).reqR.av, .d (.int .i64 0)]) H') :
  CallsA Try.prog 47 [.ptr r 0 0 0, .d (.sl nl (bs data)), .d (.int .i64 pieces), .d (.bool once), .d (.int .i64 tries)] H K := by
 apply C47
 unfold S47
 refine alloc_open fun u G hG hle hu => ?_
 have hR := h.le hle
 have hz : bdA Try.prog ti24 [] [] G = some (.agg zt, []) := by
  simp only [bdA, bd24, fillA, List.zip_nil_right, Option.map_some, go_sem]
  rfl
 have bad : ¬ (data.length ≤ 64 ∧ (1 ≤ pieces ∧ pieces ≤ 8) ∧ (1 ≤ tries ∧ tries ≤ 255)) → finA (.tup [.d (.int .i64 0), .agg zt, .d (.int .i64 2)]) (G.set u (.mem 0 0 8 [zt])) K := fun hb => ⟨H, le_box hle hu, hbad hb⟩
 obtain ⟨v, e1, e2, e3, e4⟩ := hR.at
 have lv : ldV false 1 (.ptr r 0 0 1) G = some v := ldV_at e1 rfl rfl
 have ln : ∀ G' (nx : Int) (v : AV), G' r = some (.mem 0 0 2 [[.d (.int .i64 nx), v]]) → ldV false 1 (.ptr r 0 0 0) G' = some (.d (.int .i64 nx)) := fun G' nx v hh => ldV_at hh rfl rfl
 have ru := le_ne (show H r = _ from (h.asker.choose_spec).1) hu
 have sz : stoA true 8 (.ptr u 0 0 0) (.agg zt) G = some (.junk, [(u, .mem 0 0 8 [zt])]) := by
  simp only [zt, getM_of hG, stoA_agg, stoA_get, stoM, setCells, and_self, true_and, Nat.le_refl, Nat.reduceLeDiff, List.cons_append, List.set_cons_zero, List.getElem?_cons_zero, go_sem]
 have lz : ldV true 8 (.ptr u 0 0 0) (G.set u (.mem 0 0 8 [zt])) = some (.agg zt) := by simp only [zt, getM_set, go_sem]
 have rz : ∀ n : Int, retF [.d (.int .i64 0), .agg zt, .d (.int .i64 n)] (G.set u (.mem 0 0 8 [zt])) K = finA (.tup [.d (.int .i64 0), .agg zt, .d (.int .i64 n)]) (G.set u (.mem 0 0 8 [zt])) K := fun n => by simp only [zt, go_sem]
 simp only [lenSl_d, bs_length, optA_some, intA_gtr, ifA_ite, hz, stepK_some, sets_nil', sz, sets_cons, lz, rz]
 refine ite_of (fun hb => bad (by omega)) fun h64 => ?_
 simp only [intA_lss, optA_some, ifA_ite]
 refine ite_of (fun hb => bad (by omega)) fun hp1 => ?_
 refine ite_of (fun hb => bad (by omega)) fun hp8 => ?_
 refine ite_of (fun hb => bad (by omega)) fun ht1 => ?_
 refine ite_of (fun hb => bad (by omega)) fun ht2 => ?_
 have good : data.length ≤ 64 ∧ (1 ≤ pieces ∧ pieces ≤ 8) ∧ (1 ≤ tries ∧ tries ≤ 255) := by omega
 simp only [nilCk_ptr, ti105_f1, Nat.zero_add, lv, e3, optA_some, intA_geq, ifA_ite]
 refine ite_of (fun hb => ⟨H, le_box hle hu, hfull good (by have := h.len; omega)⟩) fun hl100 => ?_
 have hll : L.length < 100 := by have := h.len; omega
 obtain ⟨d1, d2⟩ := dist_spec (ids := L.map (·.id)) (nx := nx) (by simp; omega)
 generalize hd : dist (L.map (·.id)) nx = d at *
 have hfree : free L nx = nth nx d := by unfold free; rw [hd]
 have okH := h.ok
 have setn : ∀ (G' : AHeap) (a b : Int) (v : AV), G' r = some (.mem 0 0 2 [[.d (.int .i64 a), v]]) → stoA false 1 (.ptr r 0 0 0) (.d (.int .i64 b)) G' = some (.junk, [(r, .mem 0 0 2 [[.d (.int .i64 b), v]])]) := fun G' a b v hh => stoA_at hh (Nat.le_refl 0) rfl (by simp) rfl rfl
 refine loop_ind (fun n vs G' => ∃ jj : Nat, jj ≤ d ∧ n = d - jj ∧ vs = [.ptr r 0 0 0, .d (.sl nl (bs data)), .d (.int .i64 pieces), .d (.bool once), .d (.int .i64 tries), .ptr u 0 0 0, .junk, .junk] ∧ G' = G.set r (.mem 0 0 2 [[.d (.int .i64 (nth nx jj)), v]])) (n := d) ⟨0, Nat.zero_le _, rfl, rfl, by rw [nth_0 h.nx]; exact (set_id e1).symm⟩ ?_
 rintro X n vs _ ⟨jj, hj, rfl, rfl, rfl⟩ hX
 have hRj : RA (G.set r (.mem 0 0 2 [[.d (.int .i64 (nth nx jj)), v]])) r (nth nx jj) L := ⟨⟨v, set_self, e2.keep fun x hx => set_ne (e2.ne e1 (by simp [osz]) hx)⟩, h.ids, h.ok, h.len, nth_rng⟩
 have hr : ∀ x : Nat, intA .rem (.d (.int .i64 (IntKind.i64.wrap (nth nx x + 1)))) (.d (.int .i64 65536)) = some (.d (.int .i64 (nth nx (x + 1)))) := fun x => by
  have := nth_rng (nx := nx) (d := x)
  rw [wrap_i64 (by omega) (by omega), intA_rem (by decide), nth_s h.nx.1]
 generalize hGj : G.set r (.mem 0 0 2 [[.d (.int .i64 (nth nx jj)), v]]) = Gj at *
 have rj : Gj r = some (.mem 0 0 2 [[.d (.int .i64 (nth nx jj)), v]]) := by rw [← hGj]; exact set_self
 have uj : Gj u = G u := by rw [← hGj]; exact set_ne (Ne.symm ru)
 simp only [List.getD_cons_succ, List.getD_cons_zero, nilCk_ptr, ti105_f0, Nat.zero_add, ln Gj _ _ rj, optA_some, frzLK_ptr, frzLK_d, frzLK_nil]
 refine rfind_c hRj (fun i q hi hid => ?_) fun hno => ?_
 ·have hjd : jj ≠ d := fun he => by subst he; exact d1 (by rw [← hid]; exact List.mem_map.2 ⟨q, List.mem_of_getElem? hi, rfl⟩)
  have h0 : (0 : Int) ≤ (i : Int) := by omega
  have hX' := hX (d - (jj + 1)) _ _ (by omega) ⟨jj + 1, by omega, rfl, rfl, rfl⟩
  simp only [intA_geq, optA_some, ifA_ite, h0, if_true, nilCk_ptr, ti105_f0, Nat.zero_add, ln Gj _ _ rj, intA_add, hr, setn Gj _ _ _ rj, stepK_some, sets_cons, sets_nil']
  rw [← hGj, set_set]
  exact hX'
 have hjd : jj = d := Decidable.byContradiction fun hne => hno (d2 jj (by omega))
 subst hjd
 obtain ⟨n, hn⟩ : ∃ n : Nat, pieces = (n : Int) := ⟨pieces.toNat, by omega⟩
 subst hn
 have hn8 : 1 ≤ n ∧ n ≤ 8 := by omega
 have hh := hk good hll
 rw [Int.toNat_natCast] at hh
 have hfk : nth (free L nx) 1 = nth nx (jj + 1) := by rw [hfree]; unfold nth; omega
 rw [hfk, hfree] at hh
 generalize hq : Rq.new p (nth nx jj) nl data once tries n = q at *
 have okq : q.Ok := by rw [← hq]; exact new_ok nth_rng hn8 good.2.2 good.1 hnl
 have hneg : ¬ ((0 : Int) ≤ -1) := by decide
 have hsub : IntKind.i64.wrap ((n : Int) - 1) = ((n - 1 : Nat) : Int) := by rw [wrap_i64 (by omega) (by omega)]; omega
 simp only [intA_geq, optA_some, ifA_ite, hneg, if_false, drA_true, nilCk_ptr, ti105_f0, Nat.zero_add, ln Gj _ _ rj, bs5_0]
 intro _ _
 simp only [stepK_some, sets_nil', ap_lit_ptr, true_and]
 refine cpB (d := data) (by omega) fun w0 G2 hv hkp => ?_
 obtain ⟨us, f1, f2, f3⟩ := hv.frz (G := G2) (fun _ _ => rfl)
 simp only [intA_sub, hsub, optA_some, bd111_new f2, aggL_d, noRsA_nil, hv.st.2.2.1, stepK_some]
 have g2 : ∀ x o, Gj x = some o → G2.sets us x = some o := fun x o hx => by rw [hv.out f3 hx, hkp x (by rw [hx]; rfl)]; exact hx
 refine alloc_open fun w G3 hG3 hle3 hw => ?_
 have g3 : ∀ x o, Gj x = some o → G3 x = some o := fun x o hx => hle3 _ _ (g2 x o hx)
 have r3 := g3 _ _ rj
 have u3 := g3 u _ (uj.trans hG)
 have rw3 : r ≠ w := le_ne (g2 _ _ rj) hw
 have uw : u ≠ w := le_ne (g2 _ _ (uj.trans hG)) hw
 have hst := sto24 (l := (Rq.new0 p (nth nx jj) nl data once tries n).row) (G := G3) (u := w) rfl hG3 rfl
 rw [new0_row] at hst
 rw [hst]
 simp only [noRsA_cons, noRsA_nil, noRs_d, aggL_agg, true_and, optA_some, stepK_some, sets_cons, sets_nil']
 rw [← new0_row (p := p) (nl := nl), row_rw]
 -- which pieces are wanted
 have hP8 : ((sl8 (Rq.new0 p (nth nx jj) nl data once tries n).P).map AV.d).length = 8 := rfl
 refine loop_ind (fun m vs G' => ∃ k : Nat, k ≤ n ∧ m = n - k ∧ vs = [.ptr r 0 0 0, .d (.sl nl (bs data)), .d (.int .i64 (n : Int)), .d (.bool once), .d (.int .i64 tries), .ptr u 0 0 0, .ptr w 0 0 0, .d (.int .i64 (k : Int))] ∧ G' = G3.set w (.mem 0 0 24 [rw' (Rq.new0 p (nth nx jj) nl data once tries n) (fun x => decide (x < k)) ((n - 1 : Nat) : Int) ((sl8 (Rq.new0 p (nth nx jj) nl data once tries n).P).map AV.d)])) (n := n) ⟨0, Nat.zero_le _, rfl, rfl, by rw [rw_congr (f := fun x => decide (x < 0)) (g := Nat.testBit 0) fun k _ => by simp]; rfl⟩ ?_
 rintro X2 m vs _ ⟨k, hkn, rfl, rfl, rfl⟩ hX2
 by_cases hk : k ≠ n
 ·have hlt : (k : Int) < (n : Int) := by omega
  have hwk : IntKind.i64.wrap ((k : Int) + 1) = ((k + 1 : Nat) : Int) := by rw [wrap_i64 (by omega) (by omega)]; omega
  have hX' := hX2 (n - (k + 1)) _ _ (by omega) ⟨k + 1, by omega, rfl, rfl, rfl⟩
  have hs : stoA false 1 (.ptr w 0 0 (8 + k)) (.d (.bool true)) (G3.set w (.mem 0 0 24 [rw' (Rq.new0 p (nth nx jj) nl data once tries n) (fun x => decide (x < k)) ((n - 1 : Nat) : Int) ((sl8 (Rq.new0 p (nth nx jj) nl data once tries n).P).map AV.d)])) = some (.junk, [(w, .mem 0 0 24 [rw' (Rq.new0 p (nth nx jj) nl data once tries n) (fun x => decide (x < k + 1)) ((n - 1 : Nat) : Int) ((sl8 (Rq.new0 p (nth nx jj) nl data once tries n).P).map AV.d)])]) := by
   rw [stoA_at set_self (Nat.le_refl 0) rfl (by rw [rw_len hP8]; omega) rfl rfl, rw_setW (by omega), rw_congr (f := fun j => if j = k then true else decide (j < k)) (g := fun x => decide (x < k + 1)) fun x _ => ?_]
   ·rfl
   ·by_cases hx : x = k
    ·subst hx; simp
    ·have : (x < k + 1) ↔ (x < k) := by omega
     simp [hx, this]
  simp only [List.getD_cons_succ, List.getD_cons_zero, intA_lss, optA_some, ifA_ite, hlt, if_true, ti111_f8, Nat.zero_add, ix108_at (show k < 8 by omega), hs, stepK_some, sets_cons, sets_nil', set_set, intA_add, hwk]
  exact hX'
 have hkn' : k = n := Decidable.not_not.1 hk
 subst hkn'
 have hrow : rw' (Rq.new0 p (nth nx jj) nl data once tries k) (fun x => decide (x < k)) ((k - 1 : Nat) : Int) ((sl8 (Rq.new0 p (nth nx jj) nl data once tries k).P).map AV.d) = q.row.map AV.d := by
  rw [row_rw, ← hq]
  refine Eq.trans (rw_congr fun x _ => ?_) rfl
  show decide (x < k) = (2 ^ k - 1).testBit x
  rw [Nat.testBit_two_pow_sub_one]
 rw [hrow]
 have r4 : (G3.set w (.mem 0 0 24 [q.row.map AV.d])) r = some (.mem 0 0 2 [[.d (.int .i64 (nth nx jj)), v]]) := by rw [set_ne rw3]; exact r3
 have hnlt : ¬ ((k : Int) < (k : Int)) := by omega
 have hqlen := row_len okq
 -- the state, behind it
 have vw : idOf v ≠ some w := fun he => by
  obtain ⟨ver, LL, h3⟩ := e2.isObj he
  have h3' : Gj w = some (.mem ver 0 24 LL) := by rw [← hGj, set_ne (e2.ne e1 (by simp [osz]) he)]; exact h3
  have := g2 _ _ h3'
  rw [hw] at this; cases this
 generalize hH5 : ((G3.set w (.mem 0 0 24 [q.row.map AV.d])).set r (.mem 0 0 2 [[.d (.int .i64 (nth nx (jj + 1))), v]])) = H5 at *
 have r5 : H5 r = some (.mem 0 0 2 [[.d (.int .i64 (nth nx (jj + 1))), v]]) := by rw [← hH5]; exact set_self
 have w5 : H5 w = some (.mem 0 0 24 [q.row.map AV.d]) := by rw [← hH5, set_ne (Ne.symm rw3), set_self]
 have u5 : H5 u = G u := by rw [← hH5, set_ne (Ne.symm ru), set_ne uw]; exact u3.trans hG.symm
 have e25 : Ms 24 H5 v (L.map Rq.row) := by
  refine e2.keep fun x hx => ?_
  have hxr := e2.ne e1 (by simp [osz]) hx
  have hxw : x ≠ w := fun he => vw (he ▸ hx)
  obtain ⟨ver, LL, h3⟩ := e2.isObj hx
  have h3' : Gj x = some (.mem ver 0 24 LL) := by rw [← hGj, set_ne hxr]; exact h3
  rw [← hH5, set_ne hxr, set_ne hxw, g3 _ _ h3', h3]
 have l24 : ldV true 24 (.ptr w 0 0 0) H5 = some (.agg (q.row.map AV.d)) := ldRow (j := 0) okq w5 rfl
 have lv5 : ldV false 1 (.ptr r 0 0 1) H5 = some v := ldV_at r5 rfl rfl
 have hnr : ∀ {l : List Dat} {X : Prop}, X → noRsA (l.map AV.d) X := fun hX => noRsA_iff.2 ⟨fun x hx => by obtain ⟨y, _, rfl⟩ := List.mem_map.1 hx; rfl, hX⟩
 simp only [List.getD_cons_succ, List.getD_cons_zero, intA_lss, optA_some, ifA_ite, hnlt, if_false, nilCk_ptr, ti105_f0, ti105_f1, Nat.zero_add, ln _ _ _ r4, intA_add, hr, setn _ _ _ _ r4, stepK_some, sets_cons, sets_nil', hH5, drA_true, lv5, l24, rsOf_agg, ap_nil, true_and, aggL_agg]
 refine hnr ?_
 simp only [bs111 okq]
 intro _ _
 simp only [optA_some, stepK_some, sets_nil']
 refine e25.app (ys := [q.row]) elemsA_1 (by decide) (by decide) (by simpa using hqlen) (by simp [mostBytes]; omega) fun v' H6 hv' k1 k2 k3 => ?_
 have r6 : H6 r = some (.mem 0 0 2 [[.d (.int .i64 (nth nx (jj + 1))), v]]) := k3 _ _ r5 (by simp [osz])
 have u6 : H6 u = G u := by rw [k1 u (by rw [u5, hG]; rfl) fun he => absurd (e25.ne (u5.trans hG) (by simp [osz]) he) (fun hh => hh rfl)]; exact u5
 have w6 : H6 w = some (.mem 0 0 24 [q.row.map AV.d]) := by rw [k1 w (by rw [w5]; rfl) vw]; exact w5
 have hs6 : stoA false 1 (.ptr r 0 0 1) v' H6 = some (.junk, [(r, .mem 0 0 2 [[.d (.int .i64 (nth nx (jj + 1))), v']])]) := stoA_at r6 (Nat.le_refl 0) rfl (by simp) hv'.st.1 hv'.st.2
 have hagg : aggL v' = [] := by rcases hv'.2 with ⟨rfl, _⟩ | ⟨_, _, _, rfl, _⟩ <;> rfl
 have w7 : (H6.set r (.mem 0 0 2 [[.d (.int .i64 (nth nx (jj + 1))), v']])) w = some (.mem 0 0 24 [q.row.map AV.d]) := by rw [set_ne (Ne.symm rw3)]; exact w6
 have l0 : ldV false 1 (.ptr w 0 0 0) (H6.set r (.mem 0 0 2 [[.d (.int .i64 (nth nx (jj + 1))), v']])) = some (.d (.int .i64 q.id)) := ldV_at w7 rfl rfl
 simp only [nilCk_ptr, ti105_f1, ti111_f0, Nat.zero_add, hagg, noRsA_nil, hs6, optA_some, stepK_some, sets_cons, sets_nil', drA_true, l0, frzLK_ptr, frzLK_nil]
 refine rpacket_c (j := 0) okq w7 rfl ?_
 refine ⟨rfl, ?_⟩
 have u7 : (H6.set r (.mem 0 0 2 [[.d (.int .i64 (nth nx (jj + 1))), v']])) u = some (.mem 0 0 8 [[.d (.int .i64 0), .d (.int .i64 0), .d (.int .i64 0), .d (.int .i64 0), .d (.bool false), .d (.bool false), .d (.bool false), .d (.sl true [])]]) := by rw [set_ne (Ne.symm ru), u6]; exact hG
 have hid : q.id = nth nx jj := by rw [← hq]; rfl
 have hRA : RA (H6.set r (.mem 0 0 2 [[.d (.int .i64 (nth nx (jj + 1))), v']])) r (nth nx (jj + 1)) (L ++ [q]) := by
  refine ⟨⟨v', set_self, ?_⟩, ?_, fun x hx => ?_, by simp; omega, nth_rng⟩
  ·rw [List.map_append]
   exact hv'.keep fun x hx => set_ne (hv'.ne r6 (by simp [osz]) hx)
  ·rw [List.map_append, List.nodup_append]
   exact ⟨h.ids, by simp, fun a ha b hb => by simp only [List.map_cons, List.map_nil, List.mem_singleton] at hb; rintro rfl; exact d1 (by rw [← hid, ← hb]; exact ha)⟩
  ·rcases List.mem_append.1 hx with hx | hx
   ·exact h.ok x hx
   ·simp only [List.mem_singleton] at hx; subst hx; exact okq
 simp only [Tr.av, Tr.cells, Rq.reqR, aggL_agg, noRsA_cons, noRsA_nil, noRs_d, true_and, getM_of u7, stoA_agg, stoA_get, stoM, setCells, and_self, true_and, Nat.le_refl, Nat.reduceLeDiff, List.cons_append, List.set_cons_zero, List.getElem?_cons_zero, go_sem]
 have hfr : Fr SR H (H6.set r (.mem 0 0 2 [[.d (.int .i64 (nth nx (jj + 1))), v']])) := by
  have a1 : Fr SR H Gj := by rw [← hGj]; exact (Fr.of_le hle).put e1 (by simp [osz])
  have a2 : Fr SR H G3 := fun x o hx ho => g3 x o (a1 x o hx ho)
  have a3 : Fr SR H H5 := by
   rw [← hH5]
   exact (a2.put hG3 (by simp [osz])).put (by rw [set_ne rw3]; exact r3) (by simp [osz])
  exact (a3.trans (k3.sub (by simp))).put r6 (by simp [osz])
 rw [← hid] at hh
 refine ⟨_, le_refl', ?_⟩
 exact hh _ (hRA.fr (S := [9]) (Fr.refl.put u7 (by simp [osz])) (by decide)) (hfr.own hu)
end
end Go.Proofs.Ytofjhihigmimbaa
namespace Go.Proofs.Ytofjhihigmimbaa
open Go Go.AM Go.Proofs
theorem srt_pw {L : List Rq} : (srt L).Pairwise fun a b => a ≤ b := by
 unfold srt
 have := List.pairwise_mergeSort (le := fun x y : Int => decide (x ≤ y)) (fun a b c h1 h2 => by simp only [decide_eq_true_eq] at *; omega) (fun a b => by simp only [Bool.or_eq_true, decide_eq_true_eq]; omega) (L.map (·.id))
 exact this.imp fun h => by simpa using h
theorem srt_lt {L : List Rq} (hn : (L.map (·.id)).Nodup) {a b : Nat} {x y : Int} (h : a < b) (hx : (srt L)[a]? = some x) (hy : (srt L)[b]? = some y) : x < y := by
 have ha := (List.getElem?_eq_some_iff.1 hx)
 have hb := (List.getElem?_eq_some_iff.1 hy)
 obtain ⟨ha1, ha2⟩ := ha
 obtain ⟨hb1, hb2⟩ := hb
 have h1 := List.pairwise_iff_getElem.1 (srt_pw (L := L)) a b ha1 hb1 h
 have h2 := List.pairwise_iff_getElem.1 (srt_nodup hn) a b ha1 hb1 h
 rw [ha2, hb2] at h1 h2
 omega
def lastOf (L : List Rq) (j : Nat) : Int := if j = 0 then -1 else (srt L).getD (j - 1) (-1)
theorem lastOf_s {L : List Rq} {j : Nat} {x : Int} (h : (srt L)[j]? = some x) : lastOf L (j + 1) = x := by
 unfold lastOf; rw [if_neg (by omega), Nat.add_sub_cancel, List.getD_eq_getElem?_getD, h]; rfl
theorem lastOf_lt {L : List Rq} (hn : (L.map (·.id)).Nodup) (h0 : ∀ q ∈ L, 0 ≤ q.id) {j a : Nat} {x : Int} (hx : (srt L)[a]? = some x) : lastOf L j < x ↔ (j ≤ a ∨ L.length < j) := by
 have hxm : 0 ≤ x := by
  obtain ⟨q, hq, rfl⟩ := List.mem_map.1 (srt_mem.1 (List.mem_of_getElem? hx))
  exact h0 q hq
 unfold lastOf
 by_cases hj : j = 0
 ·rw [if_pos hj]; constructor
  ·intro _; exact .inl (by omega)
  ·intro _; omega
 ·rw [if_neg hj]
  have hlen := srt_len (L := L)
  by_cases hjl : j - 1 < (srt L).length
  ·rw [List.getD_eq_getElem?_getD, List.getElem?_eq_getElem hjl, Option.getD_some]
   have he := List.getElem?_eq_getElem hjl
   constructor
   ·intro hlt
    refine .inl (Decidable.byContradiction fun hc => ?_)
    rcases Nat.lt_or_ge a (j - 1) with h | h
    ·have := srt_lt hn h hx he; omega
    ·have : a = j - 1 := by omega
     subst this
     rw [hx] at he
     have := Option.some.inj he
     omega
   ·rintro (h | h)
    ·exact srt_lt hn (by omega) he hx
    ·omega
  ·rw [List.getD_eq_getElem?_getD, List.getElem?_eq_none (by omega), Option.getD_none]
   constructor
   ·intro _; exact .inr (by omega)
   ·intro _; omega
section
variable {H G : AHeap} {r : Nat} {nx : Int} {L : List Rq} {K : AV → AHeap → Prop}
theorem tkL_ids {D : List Int} : (tkL L D).map (·.id) = L.map (·.id) := by
 unfold tkL
 rw [List.map_map]
 refine List.map_congr_left fun q _ => ?_
 simp only [Function.comp_apply]
 split
 ·exact (tk_same q).1
 ·rfl
set_option maxHeartbeats 1000000 in
theorem rtick_c (h : RA H r nx L) (hk : ∀ nl H', (nl = true → tkOs Rq.reqR L (srt L) = []) → RA H' r nx (L.map Rq.tk) → Fr SR H H' → K (.d (.sl nl ((tkOs Rq.reqR L (srt L)).map Tr.dats))) H') : CallsA Try.prog 51 [.ptr r 0 0 0] H K := by
 apply C51
 unfold S51
 have h0 : ∀ q ∈ L, 0 ≤ q.id := fun q hq => (h.ok q hq).id.1
 have hll := h.len
 have hsl := srt_len (L := L)
 refine loop_ind (fun n vs G' => ∃ (j : Nat) (v : AV), j ≤ L.length ∧ n = L.length - j ∧ vs = [.ptr r 0 0 0, v, .d (.int .i64 (lastOf L j))] ∧ RA G' r nx (tkL L ((srt L).take j)) ∧ Ml SR H 8 G' v ((tkOs Rq.reqR L ((srt L).take j)).map Tr.dats)) (n := L.length) ⟨0, _, Nat.zero_le _, rfl, rfl, by rw [List.take_zero, tkL_nil]; exact h, Ml.nil Fr.refl⟩ ?_
 rintro X n vs G' ⟨j, v, hj, rfl, rfl, hP, hv⟩ hX
 have hlo : -1 ≤ lastOf L j := by
  unfold lastOf
  split
  ·exact Int.le_refl _
  ·rw [List.getD_eq_getElem?_getD]
   cases hx : (srt L)[j - 1]? with
   | none => simp
   | some x =>
    obtain ⟨q, hq, rfl⟩ := List.mem_map.1 (srt_mem.1 (List.mem_of_getElem? hx))
    have := h0 q hq
    simp only [Option.getD_some]; omega
 simp only [List.getD_cons_succ, List.getD_cons_zero, frzLK_ptr, frzLK_d, frzLK_nil]
 refine rbehind_c hP hlo (fun i q hi hlq hmin => ?_) fun hall => ?_
 ·-- the next one in order
  have hqm : q.id ∈ srt L := by rw [srt_mem, ← tkL_ids (D := (srt L).take j)]; exact List.mem_map.2 ⟨q, List.mem_of_getElem? hi, rfl⟩
  obtain ⟨a, ha⟩ := List.getElem?_of_mem hqm
  have haj : j ≤ a := by
   rcases (lastOf_lt h.ids h0 ha).1 hlq with h1 | h1
   ·exact h1
   ·omega
  have hjl : j < L.length := by have := (List.getElem?_eq_some_iff.1 ha).1; omega
  have hsj : (srt L)[j]? = some q.id := by
   by_cases hja : j = a
   ·rw [hja]; exact ha
   ·exfalso
    obtain ⟨y, hy⟩ : ∃ y, (srt L)[j]? = some y := ⟨_, List.getElem?_eq_getElem (by omega)⟩
    have hym : y ∈ (tkL L ((srt L).take j)).map (·.id) := by rw [tkL_ids]; exact srt_mem.1 (List.mem_of_getElem? hy)
    obtain ⟨x, hx, hxe⟩ := List.mem_map.1 hym
    have h1 := hmin x hx (by rw [show x.id = y from hxe]; exact (lastOf_lt h.ids h0 hy).2 (.inl (Nat.le_refl _)))
    have h2 := srt_lt h.ids (show j < a by omega) hy ha
    rw [show x.id = y from hxe] at h1
    omega
  have hnd : q.id ∉ (srt L).take j := by
   intro hm
   obtain ⟨i2, hi2⟩ := List.getElem?_of_mem hm
   have hlt := (List.getElem?_eq_some_iff.1 hi2).1
   simp only [List.length_take] at hlt
   rw [List.getElem?_take_of_lt (by omega)] at hi2
   have := srt_lt h.ids (show i2 < j by omega) hi2 hsj
   omega
  have hiL : L[i]? = some q := by
   unfold tkL at hi
   rw [List.getElem?_map] at hi
   cases hx : L[i]? with
   | none => rw [hx] at hi; cases hi
   | some x =>
    rw [hx] at hi
    simp only [Option.map_some, Option.some.injEq] at hi
    split at hi
    ·rename_i hxm
     rw [← hi, (tk_same x).1] at hnd
     exact absurd hxm hnd
    ·rw [hi]
  have htk : (srt L).take (j + 1) = (srt L).take j ++ [q.id] := by rw [List.take_add_one, hsj]; rfl
  obtain ⟨hi1, hstep⟩ := tkL_step h.ids hiL hnd
  have hout := tkOs_step (f := Rq.reqR) h.ids hiL (D := (srt L).take j)
  have hX' := fun (v : AV) (G' : AHeap) (h1 : RA G' r nx (tkL L ((srt L).take (j + 1)))) (h2 : Ml SR H 8 G' v ((tkOs Rq.reqR L ((srt L).take (j + 1))).map Tr.dats)) => hX (L.length - (j + 1)) _ G' (by omega) ⟨j + 1, v, by omega, rfl, rfl, h1, h2⟩
  rw [htk, hout, ← hstep, lastOf_s hsj] at hX'
  obtain ⟨va, e1, e2, e3, e4⟩ := hP.at
  obtain ⟨i', ver, Lm, f1, f2, f3, f4⟩ := e4 i q hi
  have him : i < Lm.length := (List.getElem?_eq_some_iff.1 f4).1
  have ir : i' ≠ r := fun he => by subst he; rw [f3] at e1; cases e1
  have ok := h.ok q (List.mem_of_getElem? hiL)
  have hni : ¬ ((i : Int) < 0) := by omega
  have lv : ldV false 1 (.ptr r 0 0 1) G' = some va := ldV_at e1 rfl rfl
  have l0 := ld_row f3 f4 (q := q) (n := 0) rfl
  have l1 := ld_row f3 f4 (q := q) (n := 1) rfl
  have l6 := ld_row f3 f4 (q := q) (n := 6) rfl
  have upd : ∀ (q' : Rq), q'.id = q.id → q'.Ok → RA (G'.set i' (.mem ver 0 24 (Lm.set i (q'.row.map AV.d)))) r nx ((tkL L ((srt L).take j)).set i q') := fun q' hid hok => hP.upd e1 e2 f2 f3 hi1 hid hok set_self (set_ne (Ne.symm ir))
  have hfr : ∀ o', Fr SR G' (G'.set i' o') := fun o' => Fr.refl.put f3 (by simp [osz])
  have hol := tkOs_len (f := Rq.reqR) (L := L) (D := (srt L).take j)
  have htl : ((srt L).take j).length ≤ 100 := by rw [List.length_take]; omega
  simp only [intA_lss, optA_some, ifA_ite, hni, if_false, nilCk_ptr, ti105_f1, Nat.zero_add, lv, f1, ti111_f0, l0, ti111_f1, l1, intA_neq]
  refine ite_of (fun hs => ?_) fun hs => ?_
  ·have e : q.tk = q := by unfold Rq.tk; rw [if_neg hs]
   have e2 : q.tkO Rq.reqR = [] := by unfold Rq.tkO; rw [if_neg fun hh => hs hh.1]
   rw [e, e2, List.append_nil, set_same hi1] at hX'
   exact hX' v G' hP hv
  have hs1 : q.state = 1 := Decidable.not_not.1 hs
  have htk := ok.ticks hs1
  have hw2 : IntKind.i64.wrap (q.ticks + 1) = q.ticks + 1 := wrap_i64 (by omega) (by omega)
  obtain ⟨s1, s2⟩ := sto_row (q := q) (q' := { q with ticks := q.ticks + 1 }) (n := 6) (x := .int .i64 (q.ticks + 1)) f3 f4 (by rw [row_len ok]; decide) rfl
  have g6 := ld_row (H := G'.set i' (.mem ver 0 24 (Lm.set i (({ q with ticks := q.ticks + 1 } : Rq).row.map AV.d)))) set_self s2 (q := { q with ticks := q.ticks + 1 }) (n := 6) rfl
  have g5 := ld_row (H := G'.set i' (.mem ver 0 24 (Lm.set i (({ q with ticks := q.ticks + 1 } : Rq).row.map AV.d)))) set_self s2 (q := { q with ticks := q.ticks + 1 }) (n := 5) rfl
  have g4 := ld_row (H := G'.set i' (.mem ver 0 24 (Lm.set i (({ q with ticks := q.ticks + 1 } : Rq).row.map AV.d)))) set_self s2 (q := { q with ticks := q.ticks + 1 }) (n := 4) rfl
  simp only [nilCk_ptr, ti111_f4, ti111_f5, ti111_f6, Nat.zero_add, l6, optA_some, intA_add, hw2, s1, stepK_some, sets_cons, sets_nil', drA_true, g6, intA_eql, ifA_ite]
  refine ite_of (fun h3 => ?_) fun h3 => ?_
  ·simp only [g5, g4, optA_some, intA_geq, ifA_ite]
   refine ite_of (fun hge => ?_) fun hlt => ?_
   ·have e : q.tk = { q with ticks := q.ticks + 1, state := 3 } := by unfold Rq.tk; rw [if_pos hs1, if_neg (by omega), if_neg (by omega)]
    have e2 : q.tkO Rq.reqR = [] := by unfold Rq.tkO; rw [if_neg fun hh => by have := hh.2.2; omega]
    rw [e2, List.append_nil] at hX'
    obtain ⟨s3, s4⟩ := sto_row (H := G'.set i' (.mem ver 0 24 (Lm.set i (({ q with ticks := q.ticks + 1 } : Rq).row.map AV.d)))) (q := { q with ticks := q.ticks + 1 }) (q' := q.tk) (n := 1) (x := .int .i64 3) set_self s2 (by rw [show ({ q with ticks := q.ticks + 1 } : Rq).row.length = q.row.length from rfl, row_len ok]; decide) (by rw [e]; rfl)
    simp only [nilCk_ptr, ti111_f1, Nat.zero_add, optA_some, s3, stepK_some, sets_cons, sets_nil', set_set, set_set_l]
    exact hX' v _ (upd q.tk (tk_same q).1 (tk_ok ok)) (hv.step (hfr _) (by decide))
   ·have e : q.tk = { q with ticks := 0, sent := q.sent + 1 } := by unfold Rq.tk; rw [if_pos hs1, if_neg (by omega), if_pos (by omega)]
    have e2 : q.tkO Rq.reqR = [q.reqR] := by unfold Rq.tkO; rw [if_pos ⟨hs1, by omega, by omega⟩]
    rw [e2, List.map_append] at hX'
    rw [if_pos h3]
    simp only [frzLK_ptr, frzLK_nil]
    refine ragain_c (q := { q with ticks := q.ticks + 1 }) (show ({ q with ticks := 0 } : Rq).Ok from tick0_ok ok) set_self s2 (fun hh => absurd (show q.sent < q.tries by omega) hh) fun _ => ?_
    have eag : ({ q with ticks := q.ticks + 1 } : Rq).againR = q.tk := by unfold Rq.againR; rw [if_pos (show q.sent < q.tries by omega), e]
    rw [eag, set_set, set_set_l]
    refine (hv.step (hfr _) (by decide)).app (ys := [q.reqR.dats]) rfl (by decide) (by decide) (by simp) (by simp [mostBytes]; omega) fun v' H' hv' _ hf' => ?_
    exact hX' v' H' ((upd q.tk (tk_same q).1 (tk_ok ok)).fr hf' (by decide)) hv'
  ·have e : q.tk = { q with ticks := q.ticks + 1 } := by unfold Rq.tk; rw [if_pos hs1, if_pos (by omega)]
   have e2 : q.tkO Rq.reqR = [] := by unfold Rq.tkO; rw [if_neg fun hh => hh.2.1 (by omega)]
   rw [e2, List.append_nil] at hX'
   have e3 : ({ q with ticks := q.ticks + 1 } : Rq).row = q.tk.row := by rw [e]
   rw [if_neg h3, e3]
   exact hX' v _ (upd q.tk (tk_same q).1 (tk_ok ok)) (hv.step (hfr _) (by decide))
 ·-- all are done
  have hjl : j = L.length := Decidable.byContradiction fun hne => by
   obtain ⟨y, hy⟩ : ∃ y, (srt L)[j]? = some y := ⟨_, List.getElem?_eq_getElem (by omega)⟩
   have hym : y ∈ (tkL L ((srt L).take j)).map (·.id) := by rw [tkL_ids]; exact srt_mem.1 (List.mem_of_getElem? hy)
   obtain ⟨x, hx, hxe⟩ := List.mem_map.1 hym
   have h1 := hall x hx
   have h2 := (lastOf_lt h.ids h0 hy).2 (.inl (Nat.le_refl j))
   rw [show x.id = y from hxe] at h1
   omega
  subst hjl
  have hall2 : (srt L).take L.length = srt L := List.take_of_length_le (by omega)
  rw [hall2] at hP hv
  rw [tkL_all fun q hq => srt_mem.2 (List.mem_map.2 ⟨q, hq, rfl⟩)] at hP
  have hneg : (-1 : Int) < 0 := by decide
  simp only [intA_lss, optA_some, ifA_ite, hneg, if_true]
  refine hv.ret1 fun nl H' g1 g2 g3 => hk nl H' (fun hn => by have := g1 hn; simpa using this) (hP.fr g3 (by decide)) g2
theorem bd105_new {H : AHeap} {n : Dat} : bdA Try.prog ti105 [0] [.d n] H = some (.agg [.d n, .d (.sl true [])], []) := by
 simp only [bdA, bd105, cell3, fillA, setCells, List.zip_cons_cons, List.zip_nil_right, Option.map_some, Nat.reduceLeDiff, List.cons_append, go_sem]
theorem rnew_c {first : Int} (h1 : ¬ (0 ≤ first ∧ first ≤ 65535) → K (.tup [.nilptr, .d (.int .i64 2)]) H) (h2 : (0 ≤ first ∧ first ≤ 65535) → ∀ r H', RA H' r first [] → AHeap.le H H' → K (.tup [.ptr r 0 0 0, .d (.int .i64 0)]) H') : CallsA Try.prog 16 [.d (.int .i64 first)] H K := by
 apply C16
 unfold S16
 simp only [go_sem]
 refine ite_of (fun hb => ⟨_, le_refl', h1 (by omega)⟩) fun h3 => ?_
 refine ite_of (fun hb => ⟨_, le_refl', h1 (by omega)⟩) fun h4 => ?_
 simp only [bd105_new, go_sem]
 refine box_open rfl fun r G hG hle hr => ?_
 simp only [go_sem]
 exact ⟨_, le_refl', h2 (by omega) r G ⟨⟨_, hG, Ms.nil⟩, by simp, by simp, by simp, by omega⟩ hle⟩
theorem pnew_c {first : Int} (h1 : ¬ (0 ≤ first ∧ first ≤ 65535) → K (.tup [.nilptr, .d (.int .i64 2)]) H) (h2 : (0 ≤ first ∧ first ≤ 65535) → ∀ k m H', PA H' k m first [] → AHeap.le H H' → K (.tup [.ptr k 0 0 0, .d (.int .i64 0)]) H') : CallsA Try.prog 15 [.d (.int .i64 first)] H K := by
 by_cases hf : 0 ≤ first ∧ first ≤ 65535
 ·exact newAsker_c hf fun k m H' g1 g2 g3 _ _ => h2 hf k m H' ⟨g1, ⟨[], 0, g2, rfl, by simp, by simp⟩, by simp, by simp, by simp, by simp, by simp, hf⟩ g3
 ·apply C15
  unfold S15
  simp only [frzLK_d, frzLK_nil]
  refine within_c ?_
  simp only [hf, decide_false, Bool.not_false, go_sem]
  exact ⟨_, le_refl', h1 hf⟩
end
end Go.Proofs.Ytofjhihigmimbaa
namespace Go.Proofs.Ytofjhihigmimbaa
open Go Go.AM Go.Proofs
def Tr.Sim (a b : Tr) : Prop := a.kind = b.kind ∧ a.id = b.id ∧ a.bits = b.bits ∧ a.seq = b.seq ∧ a.once = b.once ∧ a.fin = b.fin ∧ a.ask = b.ask ∧ a.data = b.data
theorem Tr.Sim.refl (a : Tr) : a.Sim a := ⟨rfl, rfl, rfl, rfl, rfl, rfl, rfl, rfl⟩
def SimL : List Tr → List Tr → Prop
 | [], [] => True
 | a :: l, b :: m => a.Sim b ∧ SimL l m
 | _, _ => False
theorem SimL.len : ∀ {l m : List Tr}, SimL l m → l.length = m.length
 | [], [], _ => rfl
 | a :: l, b :: m, h => by simp only [List.length_cons, SimL.len h.2]
theorem SimL.get {l : List Tr} : ∀ {m : List Tr}, SimL l m → ∀ {j : Nat} {a b : Tr}, l[j]? = some a → m[j]? = some b → a.Sim b := by
 induction l with
 | nil => intro m _ j a b ha; simp at ha
 | cons x l ih =>
  intro m h j a b ha hb
  cases m with
  | nil => exact h.elim
  | cons y m =>
   cases j with
   | zero => simp at ha hb; subst ha hb; exact h.1
   | succ j => exact ih h.2 (by simpa using ha) (by simpa using hb)
theorem SimL.app : ∀ {l m l' m' : List Tr}, SimL l m → SimL l' m' → SimL (l ++ l') (m ++ m')
 | [], [], _, _, _, h => h
 | a :: l, b :: m, _, _, h, h' => ⟨h.1, SimL.app h.2 h'⟩
theorem req_sim (q : Rq) : q.reqP.Sim q.reqR := ⟨rfl, rfl, rfl, rfl, rfl, rfl, rfl, rfl⟩
theorem outs_sim (q : Rq) (t : Tr) : SimL (q.outs Rq.reqP t) (q.outs Rq.reqR t) := by
 unfold Rq.outs
 split
 ·split
  ·split
   ·exact ⟨req_sim _, trivial⟩
   ·trivial
  ·split
   ·exact ⟨Tr.Sim.refl _, trivial⟩
   ·trivial
 ·split
  ·exact ⟨Tr.Sim.refl _, trivial⟩
  ·trivial
theorem tkOs_sim (L : List Rq) : ∀ D : List Int, SimL (tkOs Rq.reqP L D) (tkOs Rq.reqR L D)
 | [] => trivial
 | x :: D => by
  have h1 : SimL (outOf Rq.reqP L x) (outOf Rq.reqR L x) := by
   unfold outOf
   cases L.find? fun q => q.id == x with
   | none => trivial
   | some q =>
    simp only [Option.map_some, Option.getD_some, Rq.tkO]
    split
    ·exact ⟨req_sim _, trivial⟩
    ·trivial
  unfold tkOs
  rw [List.flatMap_cons, List.flatMap_cons]
  exact h1.app (tkOs_sim L D)
section
variable {H G : AHeap} {K : AV → AHeap → Prop}
theorem sameTrans_c {a b : Tr} (h : a.Sim b) (hk : K (.d (.bool true)) H) : CallsA Try.prog 34 [a.av, b.av] H K := by
 obtain ⟨k1, i1, b1, s1, o1, f1, q1, n1, d1⟩ := a
 obtain ⟨k2, i2, b2, s2, o2, f2, q2, n2, d2⟩ := b
 obtain ⟨e1, e2, e3, e4, e5, e6, e7, e8⟩ := h
 simp only at e1 e2 e3 e4 e5 e6 e7 e8
 subst e1 e2 e3 e4 e5 e6 e7 e8
 apply C34
 unfold S34
 refine box_open rfl fun u G hG hle hu => ?_
 refine box_open rfl fun w G2 hG2 hle2 hw => ?_
 have u2 := hle2 _ _ hG
 simp only [Tr.av, Tr.cells, List.length_cons, List.length_nil] at u2 hG2
 have hbool : ∀ x : Bool, (x == x) = true := fun x => by simp
 simp only [ti24_f0, ti24_f1, ti24_f2, ti24_f3, ti24_f4, ti24_f5, ti24_f6, ti24_f7, getM_of u2, getM_of hG2, decide_true, hbool, beq_self_eq_true, go_sem]
 exact ⟨H, fun i o hi => hle2 _ _ (hle _ _ hi), hk⟩
theorem ix60 {nl : Bool} {l : List Tr} {j : Nat} {t : Tr} (h : l[j]? = some t) {H : AHeap} : ∃ p, indexAddrA ti60 8 (.d (.sl nl (l.map Tr.dats))) (.d (.int .i64 (j : Int))) = some p ∧ ldV true 8 p H = some t.av := by
 refine ⟨.vptr t.dats 0, ?_, rfl⟩
 have h1 : (l.map Tr.dats)[j]? = some t.dats := by rw [List.getElem?_map, h]; rfl
 simp only [indexAddrA, ti60, Int.natCast_nonneg, if_true, Int.toNat_natCast, h1, List.length_cons, List.length_nil, Nat.zero_add, Nat.reduceAdd]
theorem sameList_c {nl nl2 : Bool} {l m : List Tr} (h : SimL l m) (hl : l.length < 2 ^ 40) (hk : K (.d (.bool true)) H) : CallsA Try.prog 49 [.d (.sl nl (l.map Tr.dats)), .d (.sl nl2 (m.map Tr.dats))] H K := by
 apply C49
 unfold S49
 have hlen := h.len
 simp only [lenSl_d, List.length_map, hlen, optA_some, intA_neq, ifA_ite, ne_eq, not_true_eq_false, if_false]
 refine loop_ind (fun n vs G => ∃ j : Nat, j ≤ m.length ∧ n = m.length - j ∧ vs = [.d (.sl nl (l.map Tr.dats)), .d (.sl nl2 (m.map Tr.dats)), .d (.int .i64 (j : Int))] ∧ G = H) (n := m.length) ⟨0, Nat.zero_le _, rfl, rfl, rfl⟩ ?_
 rintro X n vs G ⟨j, hj, rfl, rfl, rfl⟩ hX
 by_cases hjl : j = m.length
 ·subst hjl
  simp only [List.getD_cons_succ, List.getD_cons_zero, lenSl_d, List.length_map, hlen, Int.lt_irrefl, Int.reduceEq, Int.reduceNe, Int.reduceLT, Int.reduceLE, not_true_eq_false, not_false_eq_true, decide_true, decide_false, Int.reduceAdd, Int.reduceSub, Int.reduceMul, go_sem]
  exact ⟨_, le_refl', hk⟩
 ·have hlt : (j : Int) < (m.length : Int) := by omega
  obtain ⟨a, ha⟩ : ∃ a, l[j]? = some a := ⟨_, List.getElem?_eq_getElem (by omega)⟩
  obtain ⟨b, hb⟩ : ∃ b, m[j]? = some b := ⟨_, List.getElem?_eq_getElem (by omega)⟩
  obtain ⟨p1, g1, g2⟩ := ix60 (nl := nl) ha (H := G)
  obtain ⟨p2, g3, g4⟩ := ix60 (nl := nl2) hb (H := G)
  have hw : IntKind.i64.wrap ((j : Int) + 1) = ((j + 1 : Nat) : Int) := by rw [wrap_i64 (by omega) (by omega)]; omega
  simp only [List.getD_cons_succ, List.getD_cons_zero, lenSl_d, List.length_map, hlen, optA_some, intA_lss, ifA_ite, hlt, if_true, drA_true, g1, g2, g3, g4, frzLK_tr, frzLK_nil]
  refine sameTrans_c (h.get ha hb) ?_
  simp only [unA_not, Bool.not_true, optA_some, ifA_f, intA_add, hw]
  exact hX (m.length - (j + 1)) _ _ (by omega) ⟨j + 1, by omega, rfl, rfl, rfl⟩
def pcD (X : List (Bool × List UInt8)) : List (List Dat) := X.map fun x => [.sl x.1 (bs x.2)]
theorem ix51 {nl : Bool} {l : List (Bool × List UInt8)} {j : Nat} {x : Bool × List UInt8} (h : l[j]? = some x) {H : AHeap} : indexAddrA ti51 1 (.d (.sl nl (pcD l))) (.d (.int .i64 (j : Int))) = some (.vptr [.sl x.1 (bs x.2)] 0) := by
 have h1 : (pcD l)[j]? = some [.sl x.1 (bs x.2)] := by unfold pcD; rw [List.getElem?_map, h]; rfl
 simp only [indexAddrA, ti51, Int.natCast_nonneg, if_true, Int.toNat_natCast, h1, List.length_cons, List.length_nil, Nat.zero_add]
theorem samePieces_c {nl nl2 : Bool} {l m : List (Bool × List UInt8)} (hlen : l.length = m.length) (h : ∀ (j : Nat) (x y : Bool × List UInt8), l[j]? = some x → m[j]? = some y → x.2 = y.2) (hl : l.length < 2 ^ 40) (hk : K (.d (.bool true)) H) : CallsA Try.prog 54 [.d (.sl nl (pcD l)), .d (.sl nl2 (pcD m))] H K := by
 apply C54
 unfold S54
 have e1 : (pcD l).length = m.length := by unfold pcD; rw [List.length_map, hlen]
 have e2 : (pcD m).length = m.length := by unfold pcD; rw [List.length_map]
 simp only [lenSl_d, e1, e2, optA_some, intA_neq, ifA_ite, ne_eq, not_true_eq_false, if_false]
 refine loop_ind (fun n vs G => ∃ j : Nat, j ≤ m.length ∧ n = m.length - j ∧ vs = [.d (.sl nl (pcD l)), .d (.sl nl2 (pcD m)), .d (.int .i64 (j : Int))] ∧ G = H) (n := m.length) ⟨0, Nat.zero_le _, rfl, rfl, rfl⟩ ?_
 rintro X n vs G ⟨j, hj, rfl, rfl, rfl⟩ hX
 by_cases hjl : j = m.length
 ·subst hjl
  simp only [List.getD_cons_succ, List.getD_cons_zero, lenSl_d, e1, Int.lt_irrefl, Int.reduceEq, Int.reduceNe, Int.reduceLT, Int.reduceLE, not_true_eq_false, not_false_eq_true, decide_true, decide_false, Int.reduceAdd, Int.reduceSub, Int.reduceMul, go_sem]
  exact ⟨_, le_refl', hk⟩
 ·have hlt : (j : Int) < (m.length : Int) := by omega
  obtain ⟨a, ha⟩ : ∃ a, l[j]? = some a := ⟨_, List.getElem?_eq_getElem (by omega)⟩
  obtain ⟨b, hb⟩ : ∃ b, m[j]? = some b := ⟨_, List.getElem?_eq_getElem (by omega)⟩
  have hab := h j a b ha hb
  have hw : IntKind.i64.wrap ((j : Int) + 1) = ((j + 1 : Nat) : Int) := by rw [wrap_i64 (by omega) (by omega)]; omega
  simp only [List.getD_cons_succ, List.getD_cons_zero, lenSl_d, e1, hlt, if_true, ix51 ha (H := G), ix51 hb (H := G), hab, hw, beq_self_eq_true, Bool.not_true, go_sem]
  exact hX (m.length - (j + 1)) _ _ (by omega) ⟨j + 1, by omega, rfl, rfl, rfl⟩
theorem rowsP_eq {q : Rq} : q.rowsP 8 = pcD (((List.range 8).filter q.has).map fun k => q.T.getD k (true, [])) := by
 unfold Rq.rowsP pcD
 rw [List.map_map]; rfl
theorem rowsR_eq {q : Rq} {j : Nat} : q.rowsR j = pcD ((List.range j).map fun k => (false, (q.P.getD k (true, [])).2)) := by
 unfold Rq.rowsR pcD
 rw [List.map_map]; rfl
theorem has_done {q : Rq} (ok : q.Ok) (hs : q.state = 2) : (List.range 8).filter q.has = List.range (q.last + 1) := by
 have hb := ok.done hs
 have hl := ok.last
 have : ∀ l : Fin 8, ((List.range 8).filter fun k => decide (k ≤ l.1)) = List.range (l.1 + 1) := by decide +kernel
 rw [← this ⟨q.last, by omega⟩]
 refine List.filter_congr fun k _ => ?_
 simp [Rq.has, hb]
theorem samePcs_c {q : Rq} (ok : q.Ok) (hs : q.state = 2) {nl nl2 : Bool} (hk : K (.d (.bool true)) H) : CallsA Try.prog 54 [.d (.sl nl (q.rowsP 8)), .d (.sl nl2 (q.rowsR (q.last + 1)))] H K := by
 rw [rowsP_eq, rowsR_eq, has_done ok hs]
 have hl := ok.last
 refine samePieces_c (by simp) (fun j x y hx hy => ?_) (by simp; omega) hk
 rw [List.getElem?_map] at hx hy
 have hj : j < q.last + 1 := by
  have := (List.getElem?_eq_some_iff.1 (show ((List.range (q.last + 1)).map fun k => q.T.getD k (true, []))[j]? = some x by rw [List.getElem?_map]; exact hx)).1
  simpa using this
 rw [List.getElem?_range hj] at hx hy
 simp only [Option.map_some, Option.some.injEq] at hx hy
 obtain ⟨a, ha⟩ : ∃ a, q.T[j]? = some a := ⟨_, List.getElem?_eq_getElem (by rw [ok.T]; omega)⟩
 obtain ⟨b, hb⟩ : ∃ b, q.P[j]? = some b := ⟨_, List.getElem?_eq_getElem (by rw [ok.P]; omega)⟩
 rw [List.getD_eq_getElem?_getD, ha, Option.getD_some] at hx
 rw [List.getD_eq_getElem?_getD, hb, Option.getD_some] at hy
 subst hx hy
 exact ok.pcs j a b (by have := ok.done hs; simp [Rq.has, this]; omega) ha hb
end
end Go.Proofs.Ytofjhihigmimbaa
namespace Go.Proofs.Ytofjhihigmimbaa
open Go Go.AM Go.Proofs
section
variable {H G : AHeap} {k m r : Nat} {nx : Int} {L : List Rq} {K : AV → AHeap → Prop}
theorem own_more {H0 H H' : AHeap} {sz : Nat} {v : AV} {l : List (List Dat)} (h : Own H0 sz H v l) (hle : AHeap.le H H') : Own H0 sz H' v l :=
 h.other (fun i o hi => hle i o (h.le i o hi)) fun i hi => by
  have := h.rd.2.2 i hi
  cases hx : H i with
  | none => rw [hx] at this; cases this
  | some o => exact hle i o hx
theorem own_at {H0 H : AHeap} {v : AV} {l : List (List Dat)} (h : Own H0 1 H v l) {j : Nat} {x : Dat} (hj : l[j]? = some [x]) :
  ∃ p, indexAddrA ti55 1 v (.d (.int .i64 (j : Int))) = some p ∧ (∀ H', AHeap.le H H' → ldV false 1 p H' = some (.d x)) ∧ ∀ H', kp p H' H' := by
 have hl := (List.getElem?_eq_some_iff.1 hj).1
 rcases h.2.2 with ⟨rfl, rfl⟩ | rfl | ⟨i, ver, L, rfl, h1, h2, h3, _⟩
 ·simp at hl
 ·refine ⟨.vptr [x] 0, ?_, fun _ _ => rfl, fun _ => trivial⟩
  simp only [indexAddrA, ti55, Int.natCast_nonneg, if_true, Int.toNat_natCast, hj, List.length_cons, List.length_nil, Nat.zero_add]
 ·refine ⟨.ptr i ver j 0, ?_, fun H' hle => ?_, fun _ => rfl⟩
  ·rw [idx_rs (ti := ti55) (e := 3) rfl (by omega) (by omega)]; simp
  ·have h4 : L[j]? = some [.d x] := by
    have : (L.take l.length)[j]? = L[j]? := List.getElem?_take_of_lt hl
    rw [← this, h2]
    simp only [avs, List.getElem?_map, hj, Option.map_some, List.map_cons, List.map_nil]
   exact ldV_at (hle _ _ h1) h4 rfl
theorem pcs2 (hP : PA H k m nx L) (hR : RA H r nx L) (id : Int) : CallsA Try.prog 33 [.ptr k 0 0 0, .d (.int .i64 id)] H fun v G => ∃ (a : Dat) (e : Int), v = .tup [.d a, .d (.int .i64 e)] ∧ AHeap.le H G ∧
  CallsA Try.prog 52 [.ptr r 0 0 0, .d (.int .i64 id)] G fun v' G' => ∃ b : Dat, v' = .tup [.d b, .d (.int .i64 e)] ∧ AHeap.le G G' ∧ ∀ (K : AV → AHeap → Prop) G2, K (.d (.bool true)) G2 → CallsA Try.prog 54 [.d a, .d b] G2 K := by
 refine ppieces_c hP (fun i q hi hid hs n1 G _ hle => ⟨_, _, rfl, hle, ?_⟩) fun hn => ⟨_, _, rfl, le_refl', ?_⟩
 ·refine rpieces_c (hR.le hle) (fun i2 q2 hi2 hid2 hs2 n2 G' _ hle' => ?_) fun hn => absurd hs (hn i q hi hid)
  obtain ⟨rfl, rfl⟩ := id_eq hP.ids hi hi2 (hid.trans hid2.symm)
  exact ⟨_, rfl, hle', fun K G2 hK => samePcs_c (hP.ok q (List.mem_of_getElem? hi)) hs hK⟩
 ·refine rpieces_c hR (fun i2 q2 hi2 hid2 hs2 => absurd hs2 (hn i2 q2 hi2 hid2)) fun _ => ⟨_, rfl, le_refl', fun K G2 hK => ?_⟩
  exact samePieces_c (l := []) (m := []) rfl (by simp) (by simp) hK
theorem st2 (hP : PA H k m nx L) (hR : RA H r nx L) (id : Int) : CallsA Try.prog 35 [.ptr k 0 0 0, .d (.int .i64 id)] H fun v G => G = H ∧ ∃ s : Int, v = .d (.int .i64 s) ∧
  CallsA Try.prog 53 [.ptr r 0 0 0, .d (.int .i64 id)] H fun v' G' => G' = H ∧ v' = .d (.int .i64 s) := by
 refine pstate_c hP (fun i q hi hid => ⟨rfl, _, rfl, ?_⟩) fun hn => ⟨rfl, _, rfl, ?_⟩
 ·refine rstate_c hR (fun i2 q2 hi2 hid2 => ?_) fun hn => absurd (List.mem_map.2 ⟨q, List.mem_of_getElem? hi, hid⟩) hn
  obtain ⟨rfl, rfl⟩ := id_eq hP.ids hi hi2 (hid.trans hid2.symm)
  exact ⟨rfl, rfl⟩
 ·exact rstate_c hR (fun i2 q2 hi2 hid2 => absurd (List.mem_map.2 ⟨q2, List.mem_of_getElem? hi2, hid2⟩) hn) fun _ => ⟨rfl, rfl⟩
theorem bs3_5 {H : AHeap} {n : Nat} : bsA ti3 5 [0, 1, 2, 3, 4] [.d (.int .i64 (-1)), .d (.int .i64 0), .d (.int .i64 1), .d (.int .i64 65535), .d (.int .i64 65536)] H n = some (.lit [[.int .i64 (-1)], [.int .i64 0], [.int .i64 1], [.int .i64 65535], [.int .i64 65536]], []) := rfl
theorem bs3_1 {x : Dat} {H : AHeap} {n : Nat} : bsA ti3 1 [0] [.d x] H n = some (.lit [[x]], []) := rfl
abbrev idD (l : List Int) : List (List Dat) := l.map fun x => [.int .i64 x]
abbrev ids0 : List Int := [-1, 0, 1, 65535, 65536]
theorem sameAsker_c (hP : PA H k m nx L) (hR : RA H r nx L) (hk : ∀ H', AHeap.le H H' → K (.d (.bool true)) H') : CallsA Try.prog 18 [.ptr k 0 0 0, .ptr r 0 0 0] H K := by
 apply C18
 unfold S18
 have hlen := hP.len
 simp only [bs3_5, newK_iff, stepK_some, sets_nil']
 intro _ _
 refine loop_ind (fun n vs G => ∃ (j : Nat) (v : AV), j ≤ L.length ∧ n = L.length - j ∧ vs = [.ptr k 0 0 0, .ptr r 0 0 0, v, .d (.int .i64 (j : Int)), .junk] ∧ Own H 1 G v (idD (ids0 ++ (L.take j).map (·.id)))) (n := L.length) ⟨0, _, Nat.zero_le _, rfl, rfl, ?_⟩ ?_
 ·exact Own.lit le_refl' (by simp)
 rintro X n vs G ⟨j, v, hj, rfl, rfl, hv⟩ hX
 have hR1 := hR.le hv.le
 obtain ⟨va, e1, e2, e3, e4⟩ := hR1.at
 have lv : ldV false 1 (.ptr r 0 0 1) G = some va := ldV_at e1 rfl rfl
 have hvl : (ids0 ++ (L.take j).map (·.id)).length = 5 + j := by simp; omega
 by_cases hjl : j = L.length
 ·subst hjl
  simp only [List.getD_cons_succ, List.getD_cons_zero, nilCk_ptr, ti105_f1, Nat.zero_add, lv, e3, optA_some, intA_lss, Int.lt_irrefl, decide_false, ifA_f]
  rw [List.take_of_length_le (Nat.le_refl _)] at hv
  generalize hI : (ids0 ++ L.map (·.id)) = I at hv
  have hIl : I.length ≤ 105 := by rw [← hI]; simp; omega
  refine loop_ind (fun n vs G' => ∃ (j : Nat), j ≤ I.length ∧ n = I.length - j ∧ vs = [.ptr k 0 0 0, .ptr r 0 0 0, v, .d (.int .i64 (L.length : Int)), .d (.int .i64 (j : Int))] ∧ AHeap.le G G') (n := I.length) ⟨0, Nat.zero_le _, rfl, rfl, le_refl'⟩ ?_
  rintro X n vs G' ⟨j, hj, rfl, rfl, hle⟩ hX
  have hv' := own_more hv hle
  have hl' : lenSl v = some (.d (.int .i64 (I.length : Int))) := by rw [hv.len]; simp
  by_cases hjl : j = I.length
  ·subst hjl
   simp only [List.getD_cons_succ, List.getD_cons_zero, hl', optA_some, intA_lss, Int.lt_irrefl, decide_false, ifA_f, go_sem]
   exact ⟨_, le_refl', hk _ (le_trans' hv.le hle)⟩
  ·have hlt : (j : Int) < (I.length : Int) := by omega
   obtain ⟨x, hx⟩ : ∃ x, I[j]? = some x := ⟨_, List.getElem?_eq_getElem (by omega)⟩
   obtain ⟨p, p1, p2, p3⟩ := own_at hv' (j := j) (x := .int .i64 x) (by rw [List.getElem?_map, hx]; rfl)
   have hw : IntKind.i64.wrap ((j : Int) + 1) = ((j + 1 : Nat) : Int) := by rw [wrap_i64 (by omega) (by omega)]; omega
   simp only [List.getD_cons_succ, List.getD_cons_zero, hl', optA_some, intA_lss, hlt, decide_true, ifA_t, p1, p2 G' le_refl', frzLK_ptr, frzLK_d, frzLK_nil]
   refine (pcs2 ((hP.le hv.le).le hle) (hR1.le hle) x).mono ?_
   rintro _ G2 ⟨a, e, rfl, le2, h2⟩
   simp only [extractA_0, extractA_1, optA_some, p1, p2 G2 le2, frzLK_ptr, frzLK_d, frzLK_nil]
   refine h2.mono ?_
   rintro _ G3 ⟨b, rfl, le3, h3⟩
   have le13 := le_trans' le2 le3
   simp only [extractA_0, extractA_1, optA_some, p1, p2 G3 le13, drA_true, frzLK_ptr, frzLK_d, frzLK_nil]
   refine (st2 (((hP.le hv.le).le hle).le le13) ((hR1.le hle).le le13) x).mono ?_
   rintro _ _ ⟨rfl, s, rfl, h4⟩
   refine ⟨p3 _, h4.mono ?_⟩
   rintro _ _ ⟨rfl, rfl⟩
   simp only [intA_neq, optA_some, ne_eq, not_true_eq_false, decide_false, ifA_f, frzLK_d, frzLK_nil]
   refine h3 _ _ ?_
   simp only [unA_not, Bool.not_true, optA_some, ifA_f, intA_add, hw]
   exact hX (I.length - (j + 1)) _ _ (by omega) ⟨j + 1, by omega, rfl, rfl, le_trans' hle le13⟩
 ·have hlt : (j : Int) < (L.length : Int) := by omega
  obtain ⟨q, hq⟩ : ∃ q, L[j]? = some q := ⟨_, List.getElem?_eq_getElem (by omega)⟩
  obtain ⟨i', ver, Lm, f1, f2, f3, f4⟩ := e4 j q hq
  have hw : IntKind.i64.wrap ((j : Int) + 1) = ((j + 1 : Nat) : Int) := by rw [wrap_i64 (by omega) (by omega)]; omega
  have lq : ldV false 1 (.ptr i' ver j 0) G = some (.d (.int .i64 q.id)) := ld_row f3 f4 rfl
  simp only [List.getD_cons_succ, List.getD_cons_zero, nilCk_ptr, ti105_f1, Nat.zero_add, lv, e3, optA_some, intA_lss, hlt, decide_true, ifA_t, f1, ti111_f0, lq, bs3_1, newK_iff, stepK_some, sets_nil']
  intro _ _
  refine hv.app (ys := idD [q.id]) elemsA_lit (by decide) (by decide) (by simp) (by simp only [List.length_map, hvl]; simp [mostBytes]; omega) fun v' G' hv' _ _ _ => ?_
  simp only [intA_add, hw, optA_some]
  refine hX (L.length - (j + 1)) _ _ (by omega) ⟨j + 1, v', by omega, rfl, rfl, ?_⟩
  rw [List.take_add_one, hq]
  simpa [idD] using hv'
end
end Go.Proofs.Ytofjhihigmimbaa

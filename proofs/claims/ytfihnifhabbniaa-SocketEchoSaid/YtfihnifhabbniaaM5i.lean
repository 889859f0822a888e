/- Sending, and the echo. -/
import Derived.Test.YtfihnifhabbniaaT5m
set_option autoImplicit false
set_option maxRecDepth 100000
set_option linter.unusedVariables false
set_option linter.unusedSimpArgs false
namespace Go.Proofs.Ytfihnifhabbniaa
open Go Go.AM Go.Proofs
open P4 (Pk)
theorem clonem_c {a : List UInt8} (hl : a.length < 2 ^ 40) (h0 : a ≠ []) {H : AHeap} {K : AV → AHeap → Prop} (h : ∀ i ver H', OwnM H 1 H' i ver (bs a) → K (.rs i ver 1 0 (bs a).length) H') {nl : Bool} (hnl : nl = false) : CallsA Try.prog 36 [.d (.sl nl (bs a))] H K := by
  apply C36m
  unfold S36m
  subst hnl
  simp only [P4.nilA_eql (nl2 := true), go_sem]
  intro n hn
  simp only [P4.bs0, go_sem]
  intro n2 hn2
  have hel : elemsA (.d (.sl false (bs a))) H = some (avs (bs a)) := rfl
  have hall : ((avs (bs a)).all fun y => y.length == 1) = true := by simp [avs, bs]
  have hm : (([] : List (List Dat)).length + (avs (bs a)).length) * 1 ≤ mostBytes := by simp [avs, bs, mostBytes]; omega
  have e : apA 1 1 (.lit []) (.d (.sl false (bs a))) H n2 = some (.rs n2 0 1 0 (bs a).length, [(n2, .mem 0 0 1 (avs (bs a)))]) := by
    simp only [apA, hel, hall, and_self, if_true, show (0 : Nat) < 1 by omega]
    cases a with
    | nil => exact absurd rfl h0
    | cons x r =>
      have e2 : avs (bs (x :: r)) = [.d (.int .u8 x.toNat)] :: avs (bs r) := rfl
      rw [e2] at hm ⊢
      simp only [appA, hm, List.all_nil, and_self, if_true, List.map_nil, List.nil_append, List.length_nil, Nat.zero_add]
      simp [avs, bs]
      have hl' : r.length + 1 < 2 ^ 40 := by simpa using hl
      unfold mostBytes
      omega
  simp only [e, go_sem]
  refine ⟨_, le_refl', h n2 0 _ ⟨Own.rs (le_set le_refl' hn2) (by simp [bs]) set_self ?_ (by simp [avs]) hn2, hn2⟩⟩
  rw [List.take_of_length_le (by simp [avs])]
theorem newbad_c {a b : Int} (ha : ¬ ((0 ≤ a ∧ a ≤ 65279) ∧ (1 ≤ b ∧ b ≤ 254))) {H : AHeap} {K : AV → AHeap → Prop} (h : K (.tup [.nilptr, .d (.int .i64 2)]) H) : CallsA Try.prog 10 [.agg [.d (.int .i64 a), .d (.int .i64 b)]] H K := by
  apply C10
  unfold S10
  refine box_open rfl fun k1 G hG hle hk => ?_
  simp only [AV.cells] at hG
  simp only [getM_of hG, go_sem]
  refine isAt_c ?_
  simp only [ha, decide_false, Bool.not_false, not_false_eq_true, getM_of hG, go_sem]
  exact ⟨H, hle, h⟩
def sent (a b : Int) (s : Int) (c d : Int) (to ty : Int) (nl : Bool) (data : List UInt8) : Pk := ⟨0, c, d, a, b, to, s, ty, nl, data, true⟩
theorem send_c {H : AHeap} {k m : Nat} {a b s c d to ty : Int} {l : List Int} (h : Nd H k m a b l) (hs : s ∈ l) {nl : Bool} {data : List UInt8} (hl : data.length < 2 ^ 40) (hnl : nl = true → data = []) (hv : (sent a b s c d to ty nl data).Valid) {K : AV → AHeap → Prop} (hk : K (.tup [(sent a b s c d to ty nl data).av, .d (.int .i64 0)]) H) :
    CallsA Try.prog 17 [.ptr k 0 0 0, .d (.int .i64 s), .agg [.d (.int .i64 c), .d (.int .i64 d)], .d (.int .i64 to), .d (.int .i64 ty), .d (.sl nl (bs data))] H K := by
  apply C17
  unfold S17
  refine box_open rfl fun k1 G1 hG1 hle1 hk1 => ?_
  refine alloc_open fun k2 G2 hG2 hle2 hk2 => ?_
  have hle := le_trans' hle1 hle2
  have h' := h.le hle
  have hG1' := hle2 _ _ hG1
  simp only [AV.cells] at hG1'
  simp only [go_sem]
  refine none_c h' ?_
  simp only [go_sem]
  refine is_c h' ?_
  simp only [hs, decide_true, Bool.not_true, not_true_eq_false, getM_of hG1', getM_of h'.node, nilCk_ptr, ti72_f0, go_sem]
  refine ⟨_, P4.clone_c hl hnl ⟨rfl, le_refl'⟩, ?_⟩
  simp only [bd36, cell3, cell4, cell28, cell22, bdA, fillA, setCells, List.zip_cons_cons, List.zip_nil_right, List.zip_nil_left, Option.map_some, and_self, Nat.le_refl, Nat.reduceLeDiff, List.cons_append, go_sem]
  refine alloc_open fun k3 G3 hG3 hle3 hk3 => ?_
  simp only [getM_of hG3, stoA_agg, stoA_get, stoM, setCells, and_self, true_and, Nat.le_refl, Nat.reduceLeDiff, List.cons_append, List.set_cons_zero, List.getElem?_cons_zero, go_sem]
  generalize hX : G3.set k3 _ = X3
  have hXk : X3 k3 = some (.mem 0 0 10 [(Pk.cells (sent a b s c d to ty nl data)).map AV.d]) := by rw [← hX]; exact set_self
  have hX3 : AHeap.le G2 X3 := by rw [← hX]; exact set_le hle3 hk3
  clear hX hG3 hle3
  have hG2' := hX3 _ _ hG2
  have e23 := le_ne hG2 hk3
  refine P4.valid_c (p := sent a b s c d to ty nl data) ?_
  simp only [hv, decide_true, Bool.not_true, not_true_eq_false, go_sem]
  simp only [getM_of hXk, getM_of hG2', Pk.cells, sent, stoA_agg, stoA_get, stoM, setCells, and_self, true_and, Nat.le_refl, Nat.reduceLeDiff, List.cons_append, List.set_cons_zero, List.getElem?_cons_zero, go_sem]
  exact ⟨H, set_le (le_trans' hle hX3) (le_none hle1 hk2), hk⟩
/-- A list of bytes after one. -/
theorem byte_app {x : UInt8} {a : List UInt8} {nl : Bool} (hl : a.length < 2 ^ 40) {H : AHeap} {K : AV → AHeap → Prop} (h : ∀ v' H', Own H 1 H' v' (bs (x :: a)) → nilS v' = false → K v' H') : newK H (fun n => apA 1 1 (.lit [[.int .u8 x.toNat]]) (.d (.sl nl (bs a))) H n) K := by
  refine (Own.lit (sz := 1) (l := [[.int .u8 x.toNat]]) le_refl' (by simp)).app (ys := bs a) rfl (by decide) (by decide) bs_sz (by rw [bs_length]; simp [mostBytes]; omega) fun v' H3 hv' _ _ hnl' => ?_
  exact h v' H3 hv' hnl'
theorem takeE_c {p : Pk} {x : List UInt8} {H : AHeap} {k m : Nat} {a b : Int} {l : List Int} (h : Nd H k m a b l) (hv : p.Valid) (hm : (p.dd = b ∨ p.dd = 255) ∧ (p.dn = a ∨ p.dn = 0)) (h4 : p.ds = 4) (ht : p.ty = 4) (hd : p.data = 1 :: x) (hnl : p.nl = false) {K : AV → AHeap → Prop}
    (hk : ∀ nl, (nl = true → (p.back (2 :: x)).data = []) → K (.tup [((p.back (2 :: x)).wnl nl).av, .d (.bool true), .d (.int .i64 0)]) H) : CallsA Try.prog 14 [.ptr k 0 0 0, p.av] H K := by
  apply C14
  unfold S14
  refine box_open rfl fun k1 G1 hG1 hle1 hk1 => ?_
  refine alloc_open fun k2 G2 hG2 hle2 hk2 => ?_
  have hle := le_trans' hle1 hle2
  have h' := h.le hle
  have hG1' := hle2 _ _ hG1
  simp only [AV.cells, Pk.av, List.length_cons, List.length_nil, Nat.reduceAdd, Nat.zero_add] at hG1'
  have e12 := le_ne hG1 hk2
  simp only [go_sem]
  refine none_c h' ?_
  simp only [getM_of hG1', go_sem]
  refine P4.valid_c (p := p) ?_
  simp only [hv, decide_true, Bool.not_true, getM_of hG1', go_sem]
  refine mine_c (p := p) h' ?_
  simp only [hm, decide_true, Bool.not_true, getM_of hG1', ti36_f3, h4, go_sem]
  simp only [getM_of hG1', getM_of h'.node, nilCk_ptr, ti36_f3, ti36_f5, ti36_f6, h4, ht, hd, bs_length, List.length_cons, not_true_eq_false, if_false, if_true, go_sem]
  rw [if_neg (show ¬ (((x.length + 1 : Nat)) : Int) = 0 by omega)]
  have hix : ∀ nl, indexAddrA ti22 1 (.d (.sl nl (bs (1 :: x)))) (.d (.int .i64 0)) = some (.vptr [.int .u8 1] 0) := fun nl => sl_get (e := 5) rfl (by omega) rfl rfl
  simp only [hix, List.map_cons, List.map_nil, not_true_eq_false, if_false, go_sem]
  have hl : (1 :: x).length ≤ 586 := by rw [← hd]; exact hv.2.2.2.2
  refine clonem_c (by omega) (by simp) (fun i ver H4 hO => ?_) hnl
  have hle4 : AHeap.le G2 H4 := hO.own.1
  have hl0 : (bs (1 :: x))[0]? = some [.int .u8 1] := rfl
  obtain ⟨o, hst, hO5⟩ := hO.put (j := 0) (y := .int .u8 2) hl0
  have hbl : 0 < (bs (1 :: x)).length := by simp [bs]
  simp only [idx_rs (ti := ti22) (e := 5) (sz := 1) (i := i) (ver := ver) (n := (bs (1 :: x)).length) (j := 0) rfl (by omega) (by omega), Int.toNat_zero, hst, go_sem]
  generalize H4.set i o = H5 at hO5 ⊢
  have hle5 : AHeap.le G2 H5 := hO5.own.1
  have hset : (bs (1 :: x)).set 0 [.int .u8 2] = bs (2 :: x) := rfl
  have hlen : (bs (1 :: x)).length = (bs (2 :: x)).length := by simp [bs]
  rw [hset] at hO5
  obtain ⟨us, f1, f2, f3⟩ := hO5.frz
  simp only [getM_of (hle5 _ _ hG1'), go_sem]
  rw [hlen, frzLK_of f2]
  have hp : ([.d (.int .i64 p.hops), .d (.int .i64 p.dn), .d (.int .i64 p.dd), .d (.int .i64 p.sn), .d (.int .i64 p.sd), .d (.int .i64 4), .d (.int .i64 p.ss), .d (.int .i64 4), .d (.sl p.nl (bs (1 :: x))), .d (.bool p.sum)] : List AV) = (Pk.cells p).map AV.d := by simp [Pk.cells, h4, ht, hd]
  simp only [go_sem]
  refine P4.back_c (p := p) (by simp only [List.length_cons] at hl ⊢; omega) (by simp) fun nl hnl2 => ?_
  have hG25 := f3 _ _ hG2
  simp only [P4.Pk.av, P4.Pk.wnl, getM_of hG25, zp, stoA_agg, stoA_get, stoM, setCells, and_self, true_and, Nat.le_refl, Nat.reduceLeDiff, List.cons_append, List.set_cons_zero, List.getElem?_cons_zero, go_sem]
  exact ⟨H, set_le (le_trans' hle f3) (le_none hle1 hk2), hk nl hnl2⟩
end Go.Proofs.Ytfihnifhabbniaa

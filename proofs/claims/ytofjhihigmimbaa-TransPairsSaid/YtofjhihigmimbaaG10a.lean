/- Several of my texts as one. -/
import Derived.Test.YtofjhihigmimbaaT10
import Derived.Test.YtofjhihigmimbaaA28
import Derived.Test.YtofjhihigmimbaaM10s
import Derived.Test.YtofjhihigmimbaaT10a
import Derived.Test.YtofjhihigmimbaaT10b
set_option linter.unnecessarySimpa false
set_option autoImplicit false
set_option maxRecDepth 100000
set_option linter.unusedVariables false
set_option linter.unusedSimpArgs false
namespace Go.Proofs.Ytofjhihigmimbaa
open Go Go.AM Go.Proofs
theorem k_bool {K : AV → AHeap → Prop} {H : AHeap} {b c : Bool} (h : K (.d (.bool b)) H) (e : c = b) : K (.d (.bool c)) H := e ▸ h
structure Tr where
 kind : Int
 id : Int
 bits : Int
 seq : Int
 once : Bool
 fin : Bool
 ask : Bool
 nl : Bool
 data : List UInt8
abbrev Tr.cells (t : Tr) : List AV := [.d (.int .i64 t.kind), .d (.int .i64 t.id), .d (.int .i64 t.bits), .d (.int .i64 t.seq), .d (.bool t.once), .d (.bool t.fin), .d (.bool t.ask), .d (.sl t.nl (bs t.data))]
abbrev Tr.av (t : Tr) : AV := .agg t.cells
def Tr.Valid (t : Tr) : Prop := (0 ≤ t.id ∧ t.id ≤ 65535) ∧ (t.data.length : Int) ≤ 64 ∧ ((t.kind = 0 ∧ (1 ≤ t.bits ∧ t.bits ≤ 255) ∧ t.seq = 0 ∧ t.fin.toNat = 0 ∧ t.ask.toNat = 0) ∨ (t.kind = 1 ∧ t.bits = 0 ∧ (0 ≤ t.seq ∧ t.seq ≤ 7) ∧ t.once.toNat = 0) ∨ (t.kind = 2 ∧ t.bits = 0 ∧ t.seq = 0 ∧ t.once.toNat = 0 ∧ t.fin.toNat = 0 ∧ t.ask.toNat = 0 ∧ (t.data.length : Int) = 0))
instance (t : Tr) : Decidable t.Valid := by unfold Tr.Valid; exact inferInstance
theorem within_c {n low high : Int} {H : AHeap} {K : AV → AHeap → Prop} (h : K (.d (.bool (decide (low ≤ n ∧ n ≤ high)))) H) : CallsA Try.prog 46 [.d (.int .i64 n), .d (.int .i64 low), .d (.int .i64 high)] H K := by
 apply C46
 simp only [S46, go_sem]
 split <;> (rename_i h1; exact ⟨H, le_refl', by simpa [h1] using h⟩)
theorem valid_c {t : Tr} {H : AHeap} {K : AV → AHeap → Prop} (h : K (.d (.bool (decide t.Valid))) H) : CallsA Try.prog 11 [t.av] H K := by
 apply C11
 unfold S11
 refine box_open rfl fun k G hG hle hk => ?_
 obtain ⟨kind, id, bits, seq, once, fin, ask, nl, data⟩ := t
 cases once <;> cases fin <;> cases ask <;>
 repeat' first
  | (refine within_c ?_; simp only [getM_of hG, bs_length, ti24_f0, ti24_f1, ti24_f2, ti24_f3, ti24_f4, ti24_f5, ti24_f6, ti24_f7, Bool.not_true, Bool.not_false, go_sem])
  | (exact ⟨H, hle, k_bool h (by unfold Tr.Valid; first | (exact (decide_eq_false (by simp only [Bool.toNat_false, Bool.toNat_true, true_and, and_true, and_false, false_and, or_false, false_or, Nat.one_ne_zero, iff_false, not_false_eq_true] <;> omega)).symm) | (exact decide_eq_decide.2 (by simp only [Bool.toNat_false, Bool.toNat_true, true_and, and_true, and_false, false_and, or_false, false_or, Nat.one_ne_zero, iff_false, not_false_eq_true] <;> omega)) | (exact (decide_eq_true (by simp only [Bool.toNat_false, Bool.toNat_true, true_and, and_true, and_false, false_and, or_false, false_or, Nat.one_ne_zero, iff_false, not_false_eq_true] <;> omega)).symm))⟩)
  | split
  | simp only [getM_of hG, bs_length, ti24_f0, ti24_f1, ti24_f2, ti24_f3, ti24_f4, ti24_f5, ti24_f6, ti24_f7, Bool.not_true, Bool.not_false, go_sem]
set_option maxHeartbeats 2000000 in
theorem rvalid_c {t : Tr} {H : AHeap} {K : AV → AHeap → Prop} (h : K (.d (.bool (decide t.Valid))) H) : CallsA Try.prog 12 [t.av] H K := by
 apply C12
 unfold S12
 refine box_open rfl fun k G hG hle hk => ?_
 obtain ⟨kind, id, bits, seq, once, fin, ask, nl, data⟩ := t
 cases once <;> cases fin <;> cases ask <;>
 repeat' first
  | (exact ⟨H, hle, k_bool h (by unfold Tr.Valid; first | (exact (decide_eq_false (by simp only [Bool.toNat_false, Bool.toNat_true, true_and, and_true, and_false, false_and, or_false, false_or, Nat.one_ne_zero, iff_false, not_false_eq_true] <;> omega)).symm) | (exact decide_eq_decide.2 (by simp only [Bool.toNat_false, Bool.toNat_true, true_and, and_true, and_false, false_and, or_false, false_or, Nat.one_ne_zero, iff_false, not_false_eq_true] <;> omega)) | (exact (decide_eq_true (by simp only [Bool.toNat_false, Bool.toNat_true, true_and, and_true, and_false, false_and, or_false, false_or, Nat.one_ne_zero, iff_false, not_false_eq_true] <;> omega)).symm))⟩)
  | split
  | simp only [getM_of hG, bs_length, ti24_f0, ti24_f1, ti24_f2, ti24_f3, ti24_f4, ti24_f5, ti24_f6, ti24_f7, Bool.not_true, Bool.not_false, go_sem]
theorem nilA_eql {nl nl2 : Bool} {l l2 : List (List Dat)} : nilA 0 .eql (.d (.sl nl l)) (.d (.sl true l2)) = some (.d (.bool nl)) := by cases nl <;> rfl
theorem bs5_0 {H : AHeap} {n : Nat} : bsA ti5 0 [] [] H n = some (.lit [], []) := rfl
theorem clone_c {nl : Bool} {l : List UInt8} (hl : l.length < 2 ^ 40) (hnl : nl = true → l = []) {H : AHeap} {K : AV → AHeap → Prop} (h : K (.d (.sl nl (bs l))) H) : CallsA Try.prog 69 [.d (.sl nl (bs l))] H K := by
 apply C69
 unfold S69
 simp only [nilA_eql (nl2 := true), go_sem]
 cases nl with
 | true =>
  rw [hnl rfl] at h
  simp only [go_sem]
  exact ⟨H, le_refl', h⟩
 | false =>
  simp only [go_sem]
  intro n hn
  simp only [bs5_0, go_sem]
  refine (Gr.lit le_refl').app (ys := bs l) rfl (by decide) (by decide) bs_sz (by rw [bs_length]; simp [mostBytes]; omega) fun v' H3 hv' _ _ hn3 => ?_
  rw [List.nil_append] at hv'
  refine hv'.own.ret le_refl' ?_
  rw [hn3]
  exact h
theorem le_same {H G : AHeap} {p : Nat} {o : AObj} (h : AHeap.le H G) : AHeap.le (H.set p o) (G.set p o) := fun i x hi => by
 by_cases he : i = p
 ·subst he; rw [set_self] at hi ⊢; exact hi
 ·rw [set_ne he] at hi ⊢; exact h _ _ hi
theorem nilP_eql {i v e o : Nat} : nilA 3 .eql (.ptr i v e o) .nilptr = some (.d (.bool false)) := rfl
theorem nilP_neq {i v e o : Nat} : nilA 3 .neq (.ptr i v e o) .nilptr = some (.d (.bool true)) := rfl
theorem nilN_eql : nilA 3 .eql .nilptr .nilptr = some (.d (.bool true)) := rfl
theorem nilN_neq : nilA 3 .neq .nilptr .nilptr = some (.d (.bool false)) := rfl
theorem nilCk_ptr {i v e o : Nat} : nilCkA (.ptr i v e o) = some (.ptr i v e o) := rfl
abbrev aObj (nx : Int) (m : Nat) : AObj := .mem 0 0 3 [[.d (.bool true), .d (.int .i64 nx), .map m]]
theorem none_c {H : AHeap} {k m : Nat} {nx : Int} {K : AV → AHeap → Prop} (hk : H k = some (aObj nx m)) (h : K (.d (.bool false)) H) : CallsA Try.prog 68 [.ptr k 0 0 0] H K := by
 apply C68
 unfold S68
 simp only [nilP_eql, nilCk_ptr, ti73_f0, getM_of hk, Bool.not_true, go_sem]
 exact ⟨H, le_refl', h⟩
structure As where
 nl : Bool
 data : List UInt8
 once : Bool
 tries : Int
 state : Int
 bits : Int
 sent : Int
 ticks : Int
abbrev As.cells (x : As) (T : List AV) : List AV := .d (.sl x.nl (bs x.data)) :: .d (.bool x.once) :: .d (.int .i64 x.tries) :: .d (.int .i64 x.state) :: .d (.int .i64 x.bits) :: .d (.int .i64 x.sent) :: .d (.int .i64 x.ticks) :: T
abbrev xObj (x : As) (T : List AV) : AObj := .mem 0 0 23 [x.cells T]
theorem bd24_req {a b c d : Dat} {H : AHeap} : bdA Try.prog ti24 [0, 1, 2, 4, 7] [.d (.int .i64 0), .d a, .d b, .d c, .d d] H = some (.agg [.d (.int .i64 0), .d a, .d b, .d (.int .i64 0), .d c, .d (.bool false), .d (.bool false), .d d], []) := by
 simp only [bdA, bd24, cell3, cell4, cell22, fillA, setCells, List.zip_cons_cons, List.zip_nil_right, Option.map_some, Nat.reduceLeDiff, List.cons_append, go_sem]
def As.req (x : As) (id : Int) : Tr := ⟨0, id, x.bits, 0, x.once, false, false, x.nl, x.data⟩
theorem send_c {H : AHeap} {p : Nat} {x : As} {T : List AV} {id : Int} {K : AV → AHeap → Prop} (hp : H p = some (xObj x T)) (hs : 0 ≤ x.sent ∧ x.sent < 1000) (hl : x.data.length < 2 ^ 40) (hnl : x.nl = true → x.data = [])
  (h : K (x.req id).av (H.set p (xObj { x with sent := x.sent + 1, ticks := 0 } T))) : CallsA Try.prog 70 [.ptr p 0 0 0, .d (.int .i64 id)] H K := by
 apply C70
 unfold S70
 refine alloc_open fun k G hG hle hk => ?_
 have hpk : p ≠ k := le_ne hp hk
 have hG' := hle _ _ hp
 simp only [nilCk_ptr, ti129_f0, ti129_f1, ti129_f4, ti129_f5, ti129_f6, getM_of hG', getM_set, As.cells, stoA_agg, stoA_get, stoM, setCells, and_self, true_and, Nat.le_refl, Nat.reduceLeDiff, List.cons_append, List.set_cons_zero, List.getElem?_cons_zero, go_sem]
 refine ⟨_, clone_c hl hnl ⟨rfl, le_refl'⟩, ?_⟩
 simp only [bd24_req, go_sem]
 simp only [getM_ne (Ne.symm hpk), getM_of hG, stoA_agg, stoA_get, stoM, setCells, and_self, true_and, Nat.le_refl, Nat.reduceLeDiff, List.cons_append, List.set_cons_zero, List.getElem?_cons_zero, go_sem]
 rw [wrap_i64 (by omega) (by omega)]
 refine ⟨_, ?_, h⟩
 exact le_set_own (le_same hle) (by rw [set_ne (Ne.symm hpk)]; exact hk)
end Go.Proofs.Ytofjhihigmimbaa
namespace Go.Proofs.Ytofjhihigmimbaa
open Go Go.AM Go.Proofs
theorem keyInt {k : Int} {f : AV → Option AV} : lookKA Try.prog 3 (.d (.int .i64 k)) f = f (.d (.int .i64 k)) := by
 simp only [lookKA, Try.underlying3, keyOk, decide_true, if_true]
theorem keyEq_int {a b : Int} : keyEq (.int .i64 a) (.int .i64 b) = some (a == b) := rfl
theorem bd73_new {m : Nat} {n : Dat} {H : AHeap} : bdA Try.prog ti73 [0, 1, 2] [.d (.bool true), .d n, .map m] H = some (.agg [.d (.bool true), .d n, .map m], []) := by
 simp only [bdA, bd73, cell3, cell4, cell71, fillA, setCells, List.zip_cons_cons, List.zip_nil_right, Option.map_some, Nat.reduceLeDiff, List.cons_append, go_sem]
theorem newAsker_c {first : Int} (h0 : 0 ≤ first ∧ first ≤ 65535) {H : AHeap} {K : AV → AHeap → Prop}
  (hk : ∀ k m H', H' k = some (aObj first m) → H' m = some (.map [] 0) → AHeap.le H H' → H k = none → H m = none → K (.tup [.ptr k 0 0 0, .d (.int .i64 0)]) H') : CallsA Try.prog 15 [.d (.int .i64 first)] H K := by
 apply C15
 unfold S15
 simp only [frzLK_d, frzLK_nil]
 refine within_c ?_
 simp only [h0, and_self, decide_true, Bool.not_true, go_sem]
 intro m hm
 simp only [bd73_new, go_sem]
 refine box_open rfl fun k G hG hle hkk => ?_
 simp only [go_sem]
 exact ⟨G, le_refl', hk k m G hG (hle _ _ set_self) (fun i x hi => hle _ _ (le_set le_refl' hm _ _ hi)) (set_none.1 hkk).2 hm⟩
def nl8 : List AV := List.replicate 8 (.d (.sl true []))
abbrev T0 : List AV := [.d (.sl true []), .d (.sl true []), .d (.sl true []), .d (.sl true []), .d (.sl true []), .d (.sl true []), .d (.sl true []), .d (.sl true []), .d (.bool false), .d (.bool false), .d (.bool false), .d (.bool false), .d (.bool false), .d (.bool false), .d (.bool false), .d (.bool false)]
theorem bd129_new {a b c d e : Dat} {H : AHeap} : bdA Try.prog ti129 [0, 1, 2, 3, 4] [.d a, .d b, .d c, .d d, .d e] H = some (.agg (.d a :: .d b :: .d c :: .d d :: .d e :: .d (.int .i64 0) :: .d (.int .i64 0) :: T0), []) := by
 simp only [bdA, bd129, cell3, cell4, cell22, fillA, setCells, List.zip_cons_cons, List.zip_nil_right, Option.map_some, Nat.reduceLeDiff, List.cons_append, go_sem]
 done
structure One (H : AHeap) (k m p : Nat) (nx : Int) (x : As) (T : List AV) : Prop where
 asker : H k = some (aObj nx m)
 map : H m = some (.map [⟨.int .i64 0, .ptr p 0 0 0, 0⟩] 1)
 obj : H p = some (xObj x T)
theorem One.ne {H : AHeap} {k m p : Nat} {nx : Int} {x : As} {T : List AV} (h : One H k m p nx x T) : k ≠ m ∧ k ≠ p ∧ m ≠ p := by
 refine ⟨fun he => ?_, fun he => ?_, fun he => ?_⟩
 ·subst he; have := h.asker; rw [h.map] at this; cases this
 ·subst he; have := h.asker; rw [h.obj] at this; cases this
 ·subst he; have := h.obj; rw [h.map] at this; cases this
def x1 : As := ⟨false, [113], false, 4, 1, 7, 0, 0⟩
theorem shl13 : intA .shl (.d (.int .i64 1)) (.d (.int .i64 3)) = some (.d (.int .i64 8)) := rfl
theorem sub81 : intA .sub (.d (.int .i64 8)) (.d (.int .i64 1)) = some (.d (.int .i64 7)) := rfl
theorem rem0 : intA .rem (.d (.int .i64 (IntKind.i64.wrap (0 + 1)))) (.d (.int .i64 65536)) = some (.d (.int .i64 1)) := rfl
theorem ask_c {H : AHeap} {k m : Nat} (hk : H k = some (aObj 0 m)) (hm : H m = some (.map [] 0)) {K : AV → AHeap → Prop}
  (h : ∀ p H', One H' k m p 1 { x1 with sent := 1 } T0 → H p = none → (∀ i o, i ≠ k → i ≠ m → H i = some o → H' i = some o) → K (.tup [.d (.int .i64 0), (x1.req 0).av, .d (.int .i64 0)]) H') : CallsA Try.prog 30 [.ptr k 0 0 0, .d (.sl false (bs [113])), .d (.int .i64 3), .d (.bool false), .d (.int .i64 4)] H K := by
 have hkm : k ≠ m := fun he => by subst he; rw [hk] at hm; cases hm
 apply C30
 unfold S30
 refine alloc_open fun u G hG hle hu => ?_
 have hk' := hle _ _ hk
 have hm' := hle _ _ hm
 have hku := le_ne hk hu
 have hmu := le_ne hm hu
 simp only [frzLK_ptr, frzLK_nil]
 refine none_c hk' ?_
 have e1 : (bs [113]).length = 1 := rfl
 simp only [e1, go_sem]
 rw [if_neg (by decide)]
 refine within_c ?_
 simp only [go_sem]
 rw [if_neg (by decide)]
 refine within_c ?_
 simp only [go_sem]
 rw [if_neg (by decide)]
 have hl : lenMp (.map m) G = some (.d (.int .i64 0)) := by simp only [lenMp, hm']; rfl
 simp only [nilCk_ptr, ti73_f2, getM_of hk', hl, go_sem]
 rw [if_neg (by decide)]
 refine loop_ind (fun n vs G' => vs = [.ptr k 0 0 0, .d (.sl false (bs [113])), .d (.int .i64 3), .d (.bool false), .d (.int .i64 4), .ptr u 0 0 0] ∧ G' = G) (n := 0) ⟨rfl, rfl⟩ ?_
 rintro X _ _ _ ⟨rfl, rfl⟩ _
 simp only [List.getD_cons_succ, List.getD_cons_zero, nilCk_ptr, ti73_f1, ti73_f2, getM_of hk', keyInt, lookA, hm', findE, nilN_neq, rem0, Bool.false_eq_true, if_false, getM_set, stoA_agg, stoA_get, stoM, setCells, and_self, true_and, Nat.le_refl, Nat.reduceLeDiff, List.cons_append, List.set_cons_zero, List.getElem?_cons_zero, go_sem]
 refine ⟨_, clone_c (by decide) (by decide) ⟨rfl, le_refl'⟩, ?_⟩
 simp only [shl13, sub81, bd129_new, go_sem]
 refine box_open rfl fun p G2 hG2 hle2 hp => ?_
 have gk : G2 k = some (aObj 1 m) := hle2 _ _ set_self
 have gm : G2 m = some (.map [] 0) := hle2 _ _ (by rw [set_ne (Ne.symm hkm)]; exact hm')
 have gu := hle2 u _ (by rw [set_ne (Ne.symm hku)]; exact hG)
 have hpm : p ≠ m := fun he => by subst he; rw [gm] at hG2; cases hG2
 have hpk : p ≠ k := fun he => by subst he; rw [gk] at hG2; cases hG2
 have hpu : p ≠ u := fun he => by subst he; rw [gu] at hG2; cases hG2
 have hmu2 : muA Try.prog 3 (.map m) (.d (.int .i64 0)) (.ptr p 0 0 0) G2 = some (.junk, [(m, .map [⟨.int .i64 0, .ptr p 0 0 0, 0⟩] 1)]) := by
  simp only [muA, Try.underlying3, keyOk, decide_true, AV.storable, and_self, if_true, mapSetA, gm, findE, List.nil_append]
 simp only [nilCk_ptr, ti73_f2, getM_of gk, hmu2, go_sem]
 refine send_c (x := x1) (T := T0) (p := p) (by rw [set_ne hpm]; exact hG2) (by decide) (by decide) (by decide) ?_
 simp only [getM_ne (Ne.symm hpu), getM_ne (Ne.symm hmu), getM_of gu, stoA_agg, stoA_get, stoM, setCells, and_self, true_and, Nat.le_refl, Nat.reduceLeDiff, List.cons_append, List.set_cons_zero, List.getElem?_cons_zero, go_sem]
 refine ⟨_, le_refl', h p _ ⟨?_, ?_, ?_⟩ (le_none hle (set_none.1 hp).2) fun i o hik him hi => ?_⟩
 ·rw [set_ne hku, set_ne (Ne.symm hpk), set_ne hkm]; exact gk
 ·rw [set_ne hmu, set_ne (Ne.symm hpm), set_self]
 ·rw [set_ne hpu, set_self]; rfl
 ·have hiu := le_ne hi hu
  have hip : i ≠ p := le_ne hi (le_none hle (set_none.1 hp).2)
  rw [set_ne hiu, set_ne hip, set_ne him]
  exact hle2 _ _ (by rw [set_ne hik]; exact hle _ _ hi)
end Go.Proofs.Ytofjhihigmimbaa
namespace Go.Proofs.Ytofjhihigmimbaa
open Go Go.AM Go.Proofs
theorem shr70 : intA .shr (.d (.int .i64 7)) (.d (.int .i64 0)) = some (.d (.int .i64 7)) := rfl
theorem shr61 : intA .shr (.d (.int .i64 6)) (.d (.int .i64 1)) = some (.d (.int .i64 3)) := rfl
theorem and71 : intA .and (.d (.int .i64 7)) (.d (.int .i64 1)) = some (.d (.int .i64 1)) := rfl
theorem and31 : intA .and (.d (.int .i64 3)) (.d (.int .i64 1)) = some (.d (.int .i64 1)) := rfl
theorem shl10 : intA .shl (.d (.int .i64 1)) (.d (.int .i64 0)) = some (.d (.int .i64 1)) := rfl
theorem shl11 : intA .shl (.d (.int .i64 1)) (.d (.int .i64 1)) = some (.d (.int .i64 2)) := rfl
theorem shl12 : intA .shl (.d (.int .i64 1)) (.d (.int .i64 2)) = some (.d (.int .i64 4)) := rfl
theorem shl14 : intA .shl (.d (.int .i64 1)) (.d (.int .i64 4)) = some (.d (.int .i64 16)) := rfl
theorem shl15 : intA .shl (.d (.int .i64 1)) (.d (.int .i64 5)) = some (.d (.int .i64 32)) := rfl
theorem shl16 : intA .shl (.d (.int .i64 1)) (.d (.int .i64 6)) = some (.d (.int .i64 64)) := rfl
theorem shl17 : intA .shl (.d (.int .i64 1)) (.d (.int .i64 7)) = some (.d (.int .i64 128)) := rfl
theorem an71 : intA .andNot (.d (.int .i64 7)) (.d (.int .i64 1)) = some (.d (.int .i64 6)) := rfl
theorem an62 : intA .andNot (.d (.int .i64 6)) (.d (.int .i64 2)) = some (.d (.int .i64 4)) := rfl
theorem an44 : intA .andNot (.d (.int .i64 4)) (.d (.int .i64 4)) = some (.d (.int .i64 0)) := rfl
theorem an08 : intA .andNot (.d (.int .i64 0)) (.d (.int .i64 8)) = some (.d (.int .i64 0)) := rfl
theorem an016 : intA .andNot (.d (.int .i64 0)) (.d (.int .i64 16)) = some (.d (.int .i64 0)) := rfl
theorem an032 : intA .andNot (.d (.int .i64 0)) (.d (.int .i64 32)) = some (.d (.int .i64 0)) := rfl
theorem an064 : intA .andNot (.d (.int .i64 0)) (.d (.int .i64 64)) = some (.d (.int .i64 0)) := rfl
theorem an0128 : intA .andNot (.d (.int .i64 0)) (.d (.int .i64 128)) = some (.d (.int .i64 0)) := rfl
theorem ix109_0 {p : Nat} : indexAddrA ti109 1 (.ptr p 0 0 7) (.d (.int .i64 0)) = some (.ptr p 0 0 7) := rfl
theorem ix109_1 {p : Nat} : indexAddrA ti109 1 (.ptr p 0 0 7) (.d (.int .i64 1)) = some (.ptr p 0 0 8) := rfl
theorem ix108_0 {p : Nat} : indexAddrA ti108 1 (.ptr p 0 0 15) (.d (.int .i64 0)) = some (.ptr p 0 0 15) := rfl
theorem ix108_1 {p : Nat} : indexAddrA ti108 1 (.ptr p 0 0 15) (.d (.int .i64 1)) = some (.ptr p 0 0 16) := rfl
theorem ix109_2 {p : Nat} : indexAddrA ti109 1 (.ptr p 0 0 7) (.d (.int .i64 2)) = some (.ptr p 0 0 9) := rfl
theorem ix108_2 {p : Nat} : indexAddrA ti108 1 (.ptr p 0 0 15) (.d (.int .i64 2)) = some (.ptr p 0 0 17) := rfl
theorem ix109_3 {p : Nat} : indexAddrA ti109 1 (.ptr p 0 0 7) (.d (.int .i64 3)) = some (.ptr p 0 0 10) := rfl
theorem ix108_3 {p : Nat} : indexAddrA ti108 1 (.ptr p 0 0 15) (.d (.int .i64 3)) = some (.ptr p 0 0 18) := rfl
theorem ix109_4 {p : Nat} : indexAddrA ti109 1 (.ptr p 0 0 7) (.d (.int .i64 4)) = some (.ptr p 0 0 11) := rfl
theorem ix108_4 {p : Nat} : indexAddrA ti108 1 (.ptr p 0 0 15) (.d (.int .i64 4)) = some (.ptr p 0 0 19) := rfl
theorem ix109_5 {p : Nat} : indexAddrA ti109 1 (.ptr p 0 0 7) (.d (.int .i64 5)) = some (.ptr p 0 0 12) := rfl
theorem ix108_5 {p : Nat} : indexAddrA ti108 1 (.ptr p 0 0 15) (.d (.int .i64 5)) = some (.ptr p 0 0 20) := rfl
theorem ix109_6 {p : Nat} : indexAddrA ti109 1 (.ptr p 0 0 7) (.d (.int .i64 6)) = some (.ptr p 0 0 13) := rfl
theorem ix108_6 {p : Nat} : indexAddrA ti108 1 (.ptr p 0 0 15) (.d (.int .i64 6)) = some (.ptr p 0 0 21) := rfl
theorem ix109_7 {p : Nat} : indexAddrA ti109 1 (.ptr p 0 0 7) (.d (.int .i64 7)) = some (.ptr p 0 0 14) := rfl
theorem ix108_7 {p : Nat} : indexAddrA ti108 1 (.ptr p 0 0 15) (.d (.int .i64 7)) = some (.ptr p 0 0 22) := rfl
def t1 : Tr := ⟨1, 0, 0, 0, false, false, false, false, [120]⟩
def t2 : Tr := ⟨1, 0, 0, 1, false, true, false, false, [121]⟩
abbrev T1 : List AV := [.d (.sl false (bs [120])), .d (.sl true []), .d (.sl true []), .d (.sl true []), .d (.sl true []), .d (.sl true []), .d (.sl true []), .d (.sl true []), .d (.bool true), .d (.bool false), .d (.bool false), .d (.bool false), .d (.bool false), .d (.bool false), .d (.bool false), .d (.bool false)]
abbrev T2 : List AV := [.d (.sl false (bs [120])), .d (.sl false (bs [121])), .d (.sl true []), .d (.sl true []), .d (.sl true []), .d (.sl true []), .d (.sl true []), .d (.sl true []), .d (.bool true), .d (.bool true), .d (.bool false), .d (.bool false), .d (.bool false), .d (.bool false), .d (.bool false), .d (.bool false)]
def xb (s b : Int) : As := ⟨false, [113], false, 4, s, b, 1, 0⟩
theorem take1_c {H : AHeap} {p : Nat} (hp : H p = some (xObj (xb 1 7) T0)) {K : AV → AHeap → Prop} (h : K (.tup []) (H.set p (xObj (xb 1 6) T1))) : CallsA Try.prog 71 [.ptr p 0 0 0, t1.av] H K := by
 apply C71
 unfold S71
 refine box_open rfl fun k G hG hle hk => ?_
 have hp' := hle _ _ hp
 have hpk := le_ne hp hk
 simp only [Tr.av, Tr.cells, As.cells, xb, t1] at hG hp' hp h ⊢
 simp only [nilCk_ptr, ti129_f4, ti24_f3, ti24_f7, ti24_f5, ti129_f7, ti129_f8, getM_of hp', getM_ne (Ne.symm hpk), getM_of hG, getM_set, shr70, and71, shl10, an71, decide_true, stoA_agg, stoA_get, stoM, setCells, and_self, true_and, Nat.le_refl, Nat.reduceLeDiff, List.cons_append, List.set_cons_zero, List.getElem?_cons_zero, go_sem]
 refine ⟨_, clone_c (by decide) (by decide) ⟨rfl, le_refl'⟩, ?_⟩
 simp only [nilCk_ptr, ti129_f4, ti24_f3, ti24_f7, ti24_f5, ti129_f7, ti129_f8, getM_of hp', getM_ne (Ne.symm hpk), getM_of hG, getM_set, ix109_0, ix108_0, stoA_agg, stoA_get, stoM, setCells, and_self, true_and, Nat.le_refl, Nat.reduceLeDiff, List.cons_append, List.set_cons_zero, List.getElem?_cons_zero, go_sem]
 exact ⟨hpk, _, le_same hle, h⟩
theorem take2_c {H : AHeap} {p : Nat} (hp : H p = some (xObj (xb 1 6) T1)) {K : AV → AHeap → Prop} (h : K (.tup []) (H.set p (xObj (xb 1 0) T2))) : CallsA Try.prog 71 [.ptr p 0 0 0, t2.av] H K := by
 apply C71
 unfold S71
 refine box_open rfl fun k G hG hle hk => ?_
 have hp' := hle _ _ hp
 have hpk := le_ne hp hk
 simp only [Tr.av, Tr.cells, As.cells, xb, t2] at hG hp' hp h ⊢
 simp only [nilCk_ptr, ti129_f4, ti24_f3, ti24_f7, ti24_f5, ti129_f7, ti129_f8, getM_of hp', getM_ne (Ne.symm hpk), getM_of hG, getM_set, shr61, and31, shl11, an62, decide_true, stoA_agg, stoA_get, stoM, setCells, and_self, true_and, Nat.le_refl, Nat.reduceLeDiff, List.cons_append, List.set_cons_zero, List.getElem?_cons_zero, go_sem]
 refine ⟨_, clone_c (by decide) (by decide) ⟨rfl, le_refl'⟩, ?_⟩
 simp only [nilCk_ptr, ti129_f4, ti24_f3, ti24_f7, ti24_f5, ti129_f7, ti129_f8, getM_of hp', getM_ne (Ne.symm hpk), getM_of hG, getM_set, ix109_1, ix108_1, stoA_agg, stoA_get, stoM, setCells, and_self, true_and, Nat.le_refl, Nat.reduceLeDiff, List.cons_append, List.set_cons_zero, List.getElem?_cons_zero, go_sem]
 refine ⟨hpk, ?_⟩
 have e2 : IntKind.i64.wrap (1 + 1) = 2 := rfl
 rw [e2]
 refine loop_ind (fun n vs G' => ∃ j : Int, 2 ≤ j ∧ j ≤ 8 ∧ n = (8 - j).toNat ∧ vs = [.ptr p 0 0 0, .d (.int .i64 j)] ∧ G' = G.set p (xObj (xb 1 (if j = 2 then 4 else 0)) T2)) (n := 6) ⟨2, by omega, by omega, rfl, rfl, rfl⟩ ?_
 rintro X n vs _ ⟨j, h2, h8, rfl, rfl, rfl⟩ hX
 by_cases hj : j = 8
 ·subst hj
  simp only [List.getD_cons_succ, List.getD_cons_zero, go_sem]
  rw [if_neg (by decide)]
  exact ⟨_, le_same hle, h⟩
 ·have hX' := hX (8 - (j + 1)).toNat _ _ (by omega) ⟨j + 1, by omega, by omega, rfl, rfl, rfl⟩
  have hw : IntKind.i64.wrap (j + 1) = j + 1 := wrap_i64 (by omega) (by omega)
  rw [if_neg (by omega)] at hX'
  have s3 : intA .shl (.d (.int .i64 1)) (.d (.int .i64 3)) = some (.d (.int .i64 8)) := rfl
  have hj2 : j = 2 ∨ j = 3 ∨ j = 4 ∨ j = 5 ∨ j = 6 ∨ j = 7 := by omega
  rcases hj2 with rfl | rfl | rfl | rfl | rfl | rfl <;>
  ·simp only [List.getD_cons_succ, List.getD_cons_zero, go_sem]
   rw [if_pos (by decide)]
   simp only [List.getD_cons_succ, List.getD_cons_zero, Int.reduceEq, if_true, if_false, As.cells, xb, nilCk_ptr, ti129_f4, ti129_f7, ti129_f8, getM_set, shl12, s3, shl14, shl15, shl16, shl17, an44, an08, an016, an032, an064, an0128, ix109_2, ix109_3, ix109_4, ix109_5, ix109_6, ix109_7, ix108_2, ix108_3, ix108_4, ix108_5, ix108_6, ix108_7, hw, stoA_agg, stoA_get, stoM, setCells, and_self, true_and, Nat.le_refl, Nat.reduceLeDiff, List.cons_append, List.set_cons_zero, List.getElem?_cons_zero, go_sem]
   exact hX'
end Go.Proofs.Ytofjhihigmimbaa
namespace Go.Proofs.Ytofjhihigmimbaa
open Go Go.AM Go.Proofs
theorem One.look {H : AHeap} {k m p : Nat} {nx : Int} {x : As} {T : List AV} (h : One H k m p nx x T) : lookA .nilptr (.map m) (.d (.int .i64 0)) false H = some (.ptr p 0 0 0) := by
 simp only [lookA, h.map, findE, keyEq_int, beq_self_eq_true, Bool.false_eq_true, if_false]
theorem One.le {H H' : AHeap} {k m p : Nat} {nx : Int} {x : As} {T : List AV} (h : One H k m p nx x T) (hle : AHeap.le H H') : One H' k m p nx x T := ⟨hle _ _ h.asker, hle _ _ h.map, hle _ _ h.obj⟩
theorem One.put {H : AHeap} {k m p : Nat} {nx : Int} {x y : As} {T U : List AV} (h : One H k m p nx x T) : One (H.set p (xObj y U)) k m p nx y U :=
 ⟨by rw [set_ne h.ne.2.1]; exact h.asker, by rw [set_ne h.ne.2.2]; exact h.map, set_self⟩
theorem state_c {H : AHeap} {k m p : Nat} {nx : Int} {x : As} {T : List AV} (h : One H k m p nx x T) {K : AV → AHeap → Prop} (hk : K (.d (.int .i64 x.state)) H) : CallsA Try.prog 35 [.ptr k 0 0 0, .d (.int .i64 0)] H K := by
 apply C35
 unfold S35
 simp only [frzLK_ptr, frzLK_nil]
 refine none_c h.asker ?_
 simp only [nilCk_ptr, ti73_f2, ti129_f3, getM_of h.asker, getM_of h.obj, keyInt, h.look, nilP_eql, As.cells, go_sem]
 exact ⟨H, le_refl', hk⟩
theorem take_1 {H : AHeap} {k m p : Nat} (h : One H k m p 1 (xb 1 7) T0) {K : AV → AHeap → Prop} (hk : ∀ H', One H' k m p 1 (xb 1 6) T1 → (∀ i o, i ≠ p → H i = some o → H' i = some o) → K (.tup [.d (.sl true []), .d (.int .i64 0)]) H') : CallsA Try.prog 31 [.ptr k 0 0 0, t1.av] H K := by
 apply C31
 unfold S31
 refine box_open rfl fun u G hG hle hu => ?_
 have hG1 := h.le hle
 have hpu := le_ne h.obj hu
 simp only [frzLK_ptr, frzLK_nil]
 refine none_c hG1.asker ?_
 simp only [Tr.av, Tr.cells, t1] at hG ⊢
 simp only [getM_of hG, go_sem]
 refine valid_c (t := t1) ?_
 rw [show decide t1.Valid = true by decide]
 simp only [nilCk_ptr, ti73_f2, ti24_f0, ti24_f1, ti129_f3, ti129_f4, getM_of hG, getM_of hG1.asker, getM_of hG1.obj, keyInt, hG1.look, nilP_eql, As.cells, xb, Bool.not_true, not_true_eq_false, Int.reduceEq, decide_true, decide_false, go_sem]
 refine take1_c (p := p) hG1.obj ?_
 have hG2 : One (G.set p (xObj (xb 1 6) T1)) k m p 1 (xb 1 6) T1 := hG1.put
 simp only [nilCk_ptr, ti129_f4, ti24_f6, getM_of hG2.obj, getM_ne (Ne.symm hpu), getM_of hG, As.cells, xb, not_false_eq_true, Int.reduceEq, decide_true, decide_false, go_sem]
 exact ⟨_, le_refl', hk _ hG2 fun i o hi ho => by rw [set_ne hi]; exact hle _ _ ho⟩
theorem take_2 {H : AHeap} {k m p : Nat} (h : One H k m p 1 (xb 1 6) T1) {K : AV → AHeap → Prop} (hk : ∀ H', One H' k m p 1 (xb 2 0) T2 → (∀ i o, i ≠ p → H i = some o → H' i = some o) → K (.tup [.d (.sl true []), .d (.int .i64 0)]) H') : CallsA Try.prog 31 [.ptr k 0 0 0, t2.av] H K := by
 apply C31
 unfold S31
 refine box_open rfl fun u G hG hle hu => ?_
 have hG1 := h.le hle
 have hpu := le_ne h.obj hu
 simp only [frzLK_ptr, frzLK_nil]
 refine none_c hG1.asker ?_
 simp only [Tr.av, Tr.cells, t2] at hG ⊢
 simp only [getM_of hG, go_sem]
 refine valid_c (t := t2) ?_
 rw [show decide t2.Valid = true by decide]
 simp only [nilCk_ptr, ti73_f2, ti24_f0, ti24_f1, ti129_f3, ti129_f4, getM_of hG, getM_of hG1.asker, getM_of hG1.obj, keyInt, hG1.look, nilP_eql, As.cells, xb, Bool.not_true, not_true_eq_false, Int.reduceEq, decide_true, decide_false, go_sem]
 refine take2_c (p := p) hG1.obj ?_
 have hG2 : One (G.set p (xObj (xb 1 0) T2)) k m p 1 (xb 1 0) T2 := hG1.put
 simp only [nilCk_ptr, ti129_f1, ti129_f3, ti129_f4, ti24_f6, getM_set, getM_of hG2.obj, getM_ne (Ne.symm hpu), getM_of hG, As.cells, xb, not_false_eq_true, not_true_eq_false, Int.reduceEq, decide_true, decide_false, stoA_agg, stoA_get, stoM, setCells, and_self, true_and, Nat.le_refl, Nat.reduceLeDiff, List.cons_append, List.set_cons_zero, List.getElem?_cons_zero, go_sem]
 exact ⟨_, le_refl', hk _ (hG1.put (y := xb 2 0) (U := T2)) fun i o hi ho => by rw [set_ne hi]; exact hle _ _ ho⟩
theorem ixv108_0 {a0 a1 a2 a3 a4 a5 a6 a7 : AV} : indexA ti108 ti4 (.agg [a0, a1, a2, a3, a4, a5, a6, a7]) (.d (.int .i64 0)) = some a0 := rfl
theorem ixv108_1 {a0 a1 a2 a3 a4 a5 a6 a7 : AV} : indexA ti108 ti4 (.agg [a0, a1, a2, a3, a4, a5, a6, a7]) (.d (.int .i64 1)) = some a1 := rfl
theorem ixv108_2 {a0 a1 a2 a3 a4 a5 a6 a7 : AV} : indexA ti108 ti4 (.agg [a0, a1, a2, a3, a4, a5, a6, a7]) (.d (.int .i64 2)) = some a2 := rfl
theorem ixv108_3 {a0 a1 a2 a3 a4 a5 a6 a7 : AV} : indexA ti108 ti4 (.agg [a0, a1, a2, a3, a4, a5, a6, a7]) (.d (.int .i64 3)) = some a3 := rfl
theorem ixv108_4 {a0 a1 a2 a3 a4 a5 a6 a7 : AV} : indexA ti108 ti4 (.agg [a0, a1, a2, a3, a4, a5, a6, a7]) (.d (.int .i64 4)) = some a4 := rfl
theorem ixv108_5 {a0 a1 a2 a3 a4 a5 a6 a7 : AV} : indexA ti108 ti4 (.agg [a0, a1, a2, a3, a4, a5, a6, a7]) (.d (.int .i64 5)) = some a5 := rfl
theorem ixv108_6 {a0 a1 a2 a3 a4 a5 a6 a7 : AV} : indexA ti108 ti4 (.agg [a0, a1, a2, a3, a4, a5, a6, a7]) (.d (.int .i64 6)) = some a6 := rfl
theorem ixv108_7 {a0 a1 a2 a3 a4 a5 a6 a7 : AV} : indexA ti108 ti4 (.agg [a0, a1, a2, a3, a4, a5, a6, a7]) (.d (.int .i64 7)) = some a7 := rfl
theorem bs22_1 {x : Dat} {H : AHeap} {n : Nat} : bsA ti22 1 [0] [.d x] H n = some (.lit [[x]], []) := rfl
def pcs (j : Int) : List (List Dat) := if j = 0 then [] else if j = 1 then [[.sl false (bs [120])]] else [[.sl false (bs [120])], [.sl false (bs [121])]]
theorem pieces_c {H : AHeap} {k m p : Nat} (h : One H k m p 1 (xb 2 0) T2) {K : AV → AHeap → Prop} (hk : K (.tup [.d (.sl false (pcs 2)), .d (.int .i64 0)]) H) : CallsA Try.prog 33 [.ptr k 0 0 0, .d (.int .i64 0)] H K := by
 apply C33
 unfold S33
 simp only [frzLK_ptr, frzLK_nil]
 refine none_c h.asker ?_
 simp only [frzLK_ptr, frzLK_d, frzLK_nil, go_sem]
 refine state_c h ?_
 simp only [nilCk_ptr, ti73_f2, ti129_f8, getM_of h.asker, getM_of h.obj, keyInt, h.look, As.cells, xb, Int.reduceEq, not_true_eq_false, decide_false, go_sem]
 refine loop_ind (fun n vs G => ∃ (j : Int) (v : AV), 0 ≤ j ∧ j ≤ 8 ∧ n = (8 - j).toNat ∧ Gr H 1 G v (pcs j) ∧ vs = [v, .ptr p 0 0 0, .agg [.d (.bool true), .d (.bool true), .d (.bool false), .d (.bool false), .d (.bool false), .d (.bool false), .d (.bool false), .d (.bool false)], .d (.int .i64 j)]) (n := 8) ⟨0, _, by omega, by omega, rfl, Gr.nil le_refl', rfl⟩ ?_
 rintro X n vs G ⟨j, v, h0, h8, rfl, hv, rfl⟩ hX
 have hG := h.le hv.le
 have hw : IntKind.i64.wrap (j + 1) = j + 1 := wrap_i64 (by omega) (by omega)
 by_cases hj : j = 8
 ·subst hj
  simp only [List.getD_cons_succ, List.getD_cons_zero, go_sem]
  rw [if_neg (by decide)]
  have hns : nilS v = false := by
   cases hn : nilS v with
   | false => rfl
   | true => exact absurd (hv.own.nilS hn) (by decide)
  refine hv.own.ret_d le_refl' ?_
  rw [hns]
  exact hk
 ·have hj2 : j = 0 ∨ j = 1 ∨ j = 2 ∨ j = 3 ∨ j = 4 ∨ j = 5 ∨ j = 6 ∨ j = 7 := by omega
  have hX' := fun (v' : AV) (G' : AHeap) (hv' : Gr H 1 G' v' (pcs (j + 1))) => hX (8 - (j + 1)).toNat _ _ (by omega) ⟨j + 1, v', by omega, by omega, rfl, hv', rfl⟩
  rcases hj2 with rfl | rfl | rfl | rfl | rfl | rfl | rfl | rfl
  ·simp only [List.getD_cons_succ, List.getD_cons_zero, go_sem]
   rw [if_pos (by decide)]
   simp only [List.getD_cons_succ, List.getD_cons_zero, ixv108_0, nilCk_ptr, ti129_f7, ix109_0, getM_of hG.obj, As.cells, go_sem]
   refine clone_c (by decide) (by decide) ?_
   simp only [bs22_1, newK_iff, go_sem]
   intro _ _
   refine hv.app (ys := [[.sl false (bs [120])]]) rfl (by decide) (by decide) (by decide) (by decide) fun v' G' hv' _ _ _ => ?_
   simp only [hw, go_sem]
   exact hX' v' G' hv'
  ·simp only [List.getD_cons_succ, List.getD_cons_zero, go_sem]
   rw [if_pos (by decide)]
   simp only [List.getD_cons_succ, List.getD_cons_zero, ixv108_1, nilCk_ptr, ti129_f7, ix109_1, getM_of hG.obj, As.cells, go_sem]
   refine clone_c (by decide) (by decide) ?_
   simp only [bs22_1, newK_iff, go_sem]
   intro _ _
   refine hv.app (ys := [[.sl false (bs [121])]]) rfl (by decide) (by decide) (by decide) (by decide) fun v' G' hv' _ _ _ => ?_
   simp only [hw, go_sem]
   exact hX' v' G' hv'
  all_goals
   simp only [List.getD_cons_succ, List.getD_cons_zero, go_sem]
   rw [if_pos (by decide)]
   simp only [List.getD_cons_succ, List.getD_cons_zero, ixv108_2, ixv108_3, ixv108_4, ixv108_5, ixv108_6, ixv108_7, hw, go_sem]
   exact hX' v G hv
theorem bd24_1 {d : Dat} {H : AHeap} : bdA Try.prog ti24 [0, 7] [.d (.int .i64 1), .d d] H = some (.agg [.d (.int .i64 1), .d (.int .i64 0), .d (.int .i64 0), .d (.int .i64 0), .d (.bool false), .d (.bool false), .d (.bool false), .d d], []) := by
 simp only [bdA, bd24, cell3, cell4, cell22, fillA, setCells, List.zip_cons_cons, List.zip_nil_right, Option.map_some, Nat.reduceLeDiff, List.cons_append, go_sem]
theorem bd24_2 {d : Dat} {H : AHeap} : bdA Try.prog ti24 [0, 3, 5, 7] [.d (.int .i64 1), .d (.int .i64 1), .d (.bool true), .d d] H = some (.agg [.d (.int .i64 1), .d (.int .i64 0), .d (.int .i64 0), .d (.int .i64 1), .d (.bool false), .d (.bool true), .d (.bool false), .d d], []) := by
 simp only [bdA, bd24, cell3, cell4, cell22, fillA, setCells, List.zip_cons_cons, List.zip_nil_right, Option.map_some, Nat.reduceLeDiff, List.cons_append, go_sem]
theorem pcs_ix : indexAddrA ti51 1 (.d (.sl false (pcs 2))) (.d (.int .i64 1)) = some (.vptr [.sl false (bs [121])] 0) := rfl
theorem awake_c {H : AHeap} {K : AV → AHeap → Prop} (hk : K (.d (.bool true)) H) : CallsA Try.prog 13 [] H K := by
 apply C13
 unfold S13
 simp only [frzLK_d, frzLK_nil]
 refine newAsker_c (by decide) fun k m H1 h1 h2 hl1 hkn hmn => ?_
 simp only [not_true_eq_false, if_false, go_sem]
 refine ask_c h1 h2 fun p H2 hO hpn hl2 => ?_
 simp only [extractA_0, extractA_1, extractA_2, optA_some]
 refine alloc_open fun u G hG hle hu => ?_
 simp only [getM_of hG, getM_set, x1, As.req, Tr.av, Tr.cells, ti24_f2, stoA_agg, stoA_get, stoM, setCells, and_self, true_and, Nat.le_refl, Nat.reduceLeDiff, List.cons_append, List.set_cons_zero, List.getElem?_cons_zero, go_sem]
 simp only [not_true_eq_false, if_false, bd24_1, go_sem]
 have hO2 : One (G.set u (.mem 0 0 8 [(x1.req 0).cells])) k m p 1 (xb 1 7) T0 := by
  have hku := le_ne hO.asker hu
  have hmu := le_ne hO.map hu
  have hpu := le_ne hO.obj hu
  exact ⟨by rw [set_ne hku]; exact hle _ _ hO.asker, by rw [set_ne hmu]; exact hle _ _ hO.map, by rw [set_ne hpu]; exact hle _ _ hO.obj⟩
 refine take_1 hO2 fun H3 hO3 hl3 => ?_
 simp only [bd24_2, go_sem]
 refine take_2 hO3 fun H4 hO4 hl4 => ?_
 refine pieces_c hO4 ?_
 have e1 : (pcs 2).length = 2 := rfl
 have e2 : ((ByteArray.mk #[121]).toList == (ByteArray.mk #[121]).toList) = true := by simp
 simp only [e1, pcs_ix, decide_true, go_sem]
 rw [if_pos (by rfl), e2]
 refine ⟨H, fun i o ho => ?_, hk⟩
 have hik := le_ne ho hkn
 have him := le_ne ho hmn
 have hip := le_ne (hl1 _ _ ho) hpn
 have h2 := hle _ _ (hl2 i o hik him (hl1 _ _ ho))
 have hiu := le_ne (hl2 i o hik him (hl1 _ _ ho)) hu
 exact hl4 i o hip (hl3 i o hip (by rw [set_ne hiu]; exact h2))
end Go.Proofs.Ytofjhihigmimbaa
namespace Go.Proofs.Ytofjhihigmimbaa
open Go Go.AM Go.Proofs
def clr (b k : Nat) : Nat := if b.testBit k then b ^^^ 2 ^ k else b
theorem clr_bit {b k j : Nat} : (clr b k).testBit j = (b.testBit j && decide (j ≠ k)) := by
 unfold clr
 split
 ·rename_i h
  rw [Nat.testBit_xor, Nat.testBit_two_pow]
  by_cases hj : k = j
  ·subst hj; simp [h]
  ·have : j ≠ k := Ne.symm hj
   simp [hj, this]
 ·rename_i h
  by_cases hj : j = k
  ·subst hj; simp [h]
  ·simp [hj]
theorem clr_lt {b k n : Nat} (h : b < 2 ^ n) : clr b k < 2 ^ n := by
 unfold clr
 split
 ·rename_i hb
  refine Nat.xor_lt_two_pow h (Nat.pow_lt_pow_right (by omega) ?_)
  cases Nat.lt_or_ge k n with
  | inl h1 => exact h1
  | inr h1 => rw [Nat.testBit_lt_two_pow (Nat.lt_of_lt_of_le h (Nat.pow_le_pow_right (by omega) h1))] at hb; cases hb
 ·exact h
theorem andn_fin : ∀ b : Fin 256, ∀ k : Fin 8, IntKind.i64.wrap (BitVec.ofInt 64 (b.1 : Int) &&& ~~~ BitVec.ofInt 64 ((2 ^ k.1 : Nat) : Int)).toNat = ((clr b.1 k.1 : Nat) : Int) := by decide +kernel
theorem shl_fin : ∀ k : Fin 9, IntKind.i64.wrap ((1 : Int) * 2 ^ (min k.1 64)) = ((2 ^ k.1 : Nat) : Int) := by decide +kernel
theorem bit_fin : ∀ b : Fin 256, ∀ k : Fin 8, IntKind.i64.wrap (BitVec.ofInt 64 ((b.1 : Int).fdiv (2 ^ (min k.1 64))) &&& BitVec.ofInt 64 1).toNat = if b.1.testBit k.1 then 1 else 0 := by decide +kernel
theorem half_fin : ∀ b : Fin 256, ∀ k : Fin 8, 2 * (b.1 / 2 ^ (k.1 + 1)) + (if b.1.testBit k.1 then 1 else 0) = b.1 / 2 ^ k.1 := by decide +kernel
theorem andn_eq {b k : Nat} (hb : b < 256) (hk : k < 8) : intA .andNot (.d (.int .i64 b)) (.d (.int .i64 ((2 ^ k : Nat) : Int))) = some (.d (.int .i64 (clr b k : Nat))) := by
 have := andn_fin ⟨b, hb⟩ ⟨k, hk⟩
 simp only [intA, isShift, intBin, Bool.false_eq_true, if_false, if_true, Option.some.injEq, AV.d.injEq, Dat.int.injEq, true_and]
 exact this
theorem shl_eq {k : Nat} (hk : k < 9) : intA .shl (.d (.int .i64 1)) (.d (.int .i64 (k : Int))) = some (.d (.int .i64 ((2 ^ k : Nat) : Int))) := by
 have := shl_fin ⟨k, hk⟩
 rw [intA_shl (by omega)]
 simp only [Option.some.injEq, AV.d.injEq, Dat.int.injEq, true_and, Int.toNat_natCast]
 exact this
theorem bit_eq {b k : Nat} (hb : b < 256) (hk : k < 8) : ∃ x, intA .shr (.d (.int .i64 b)) (.d (.int .i64 (k : Int))) = some x ∧ intA .and x (.d (.int .i64 1)) = some (.d (.int .i64 (if b.testBit k then 1 else 0))) := by
 have := bit_fin ⟨b, hb⟩ ⟨k, hk⟩
 refine ⟨_, intA_shr (by omega), ?_⟩
 rw [intA_and]
 simp only [Option.some.injEq, AV.d.injEq, Dat.int.injEq, true_and, Int.toNat_natCast]
 exact this
structure Rq where
 p : Nat
 id : Int
 state : Int
 nl : Bool
 data : List UInt8
 once : Bool
 tries : Int
 sent : Int
 ticks : Int
 b : Nat
 last : Nat
 T : List (Bool × List UInt8)
 P : List (Bool × List UInt8)
def Rq.has (q : Rq) (k : Nat) : Bool := decide (k ≤ q.last) && !q.b.testBit k
def sl8 (l : List (Bool × List UInt8)) : List Dat := l.map fun x => .sl x.1 (bs x.2)
def bl8 (f : Nat → Bool) : List Dat := (List.range 8).map fun k => .bool (f k)
def Rq.tl (q : Rq) : List AV := (sl8 q.T ++ bl8 q.has).map AV.d
def Rq.as (q : Rq) : As := ⟨q.nl, q.data, q.once, q.tries, q.state, q.b, q.sent, q.ticks⟩
def Rq.obj (q : Rq) : AObj := xObj q.as q.tl
def Rq.row (q : Rq) : List Dat := .int .i64 q.id :: .int .i64 q.state :: .sl false (bs q.data) :: .bool q.once :: .int .i64 q.tries :: .int .i64 q.sent :: .int .i64 q.ticks :: .int .i64 q.last :: (bl8 q.b.testBit ++ sl8 q.P)
structure Rq.Ok (q : Rq) : Prop where
 id : 0 ≤ q.id ∧ q.id ≤ 65535
 state : q.state = 1 ∨ q.state = 2 ∨ q.state = 3
 tries : 1 ≤ q.tries ∧ q.tries ≤ 255
 sent : 0 ≤ q.sent ∧ q.sent ≤ q.tries
 ticks : q.state = 1 → 0 ≤ q.ticks ∧ q.ticks ≤ 2
 last : q.last ≤ 7
 b : q.b < 2 ^ (q.last + 1)
 T : q.T.length = 8
 P : q.P.length = 8
 data : q.data.length ≤ 64
 nl : q.nl = true → q.data = []
 pcs : ∀ k x y, q.has k = true → q.T[k]? = some x → q.P[k]? = some y → x.2 = y.2
 fl : ∀ x ∈ q.T ++ q.P, (x.1 = true → x.2 = []) ∧ x.2.length ≤ 64
 done : q.state = 2 → q.b = 0
theorem Rq.Ok.b8 {q : Rq} (h : q.Ok) : q.b < 256 := Nat.lt_of_lt_of_le h.b (by have := h.last; exact Nat.le_trans (Nat.pow_le_pow_right (by omega) (show q.last + 1 ≤ 8 by omega)) (by decide))
theorem sl8_len {l : List (Bool × List UInt8)} : (sl8 l).length = l.length := by simp [sl8]
theorem bl8_len {f : Nat → Bool} : (bl8 f).length = 8 := by simp [bl8]
theorem sl8_set {l : List (Bool × List UInt8)} {k : Nat} {x : Bool × List UInt8} : (sl8 l).set k (.sl x.1 (bs x.2)) = sl8 (l.set k x) := by simp [sl8, List.map_set]
theorem bl8_set {f : Nat → Bool} {k : Nat} {v : Bool} : (bl8 f).set k (.bool v) = bl8 fun j => if j = k then v else f j := by
 refine List.ext_getElem (by simp [bl8]) fun n h1 h2 => ?_
 simp only [bl8, List.length_map, List.length_range] at h2
 by_cases hk : k = n
 ·subst hk; simp [bl8, List.getElem_set]
 ·simp [bl8, List.getElem_set, hk, Ne.symm hk]
theorem bl8_congr {f g : Nat → Bool} (h : ∀ k, k < 8 → f k = g k) : bl8 f = bl8 g := by
 unfold bl8
 refine List.map_congr_left fun k hk => ?_
 rw [h k (by simpa using hk)]
theorem sl8_get {l : List (Bool × List UInt8)} {k : Nat} {x : Bool × List UInt8} (h : l[k]? = some x) : (sl8 l)[k]? = some (.sl x.1 (bs x.2)) := by simp [sl8, h]
theorem bl8_get {f : Nat → Bool} {k : Nat} (h : k < 8) : (bl8 f)[k]? = some (.bool (f k)) := by simp [bl8, h]
def Rq.got (q : Rq) (k : Nat) (nl : Bool) (d : List UInt8) : Rq := if q.b.testBit k then { q with b := clr q.b k, T := q.T.set k (nl, d), P := q.P.set k (false, d) } else q
def cutT (T : List (Bool × List UInt8)) (s k : Nat) : List (Bool × List UInt8) := (List.range 8).map fun j => if s < j ∧ j < k then (true, []) else T.getD j (true, [])
def Rq.fin (q : Rq) (s : Nat) : Rq := { q with b := q.b % 2 ^ (s + 1), last := min q.last s, T := cutT q.T s 8 }
def Rq.piece (q : Rq) (t : Tr) : Rq := let q1 := q.got t.seq.toNat t.nl t.data; if t.fin then q1.fin t.seq.toNat else q1
def cutB (b s k : Nat) : Nat := match k with | 0 => b | k + 1 => if s < k then clr (cutB b s k) k else cutB b s k
theorem cutB_bit {b s k j : Nat} : (cutB b s k).testBit j = (b.testBit j && !decide (s < j ∧ j < k)) := by
 induction k with
 | zero => simp [cutB]
 | succ k ih =>
  simp only [cutB]
  split
  ·rename_i h
   rw [clr_bit, ih]
   by_cases hj : j = k
   ·subst hj; simp [h]
   ·have : (s < j ∧ j < k + 1) ↔ (s < j ∧ j < k) := by omega
    simp [hj, this]
  ·rename_i h
   rw [ih]
   have : (s < j ∧ j < k + 1) ↔ (s < j ∧ j < k) := by omega
   simp [this]
theorem cutB_end {b s : Nat} (hb : b < 256) : cutB b s 8 = b % 2 ^ (s + 1) := by
 refine Nat.eq_of_testBit_eq fun j => ?_
 rw [cutB_bit, Nat.testBit_mod_two_pow]
 by_cases h8 : j < 8
 ·by_cases hs : s < j
  ·have h1 : ¬ j < s + 1 := by omega
   simp [hs, h8, h1]
  ·have h1 : j < s + 1 := by omega
   simp [hs, h1]
 ·have : b.testBit j = false := Nat.testBit_lt_two_pow (Nat.lt_of_lt_of_le hb (Nat.le_trans (by decide) (Nat.pow_le_pow_right (by omega) (show 8 ≤ j by omega))))
  simp [this]
theorem cutB_lt {b s k : Nat} (hb : b < 256) : cutB b s k < 256 := by
 induction k with
 | zero => exact hb
 | succ k ih =>
  simp only [cutB]
  split
  ·exact clr_lt (n := 8) ih
  ·exact ih
theorem cutB_start {b s : Nat} : ∀ k, k ≤ s + 1 → cutB b s k = b
 | 0, _ => rfl
 | k + 1, h => by simp only [cutB]; rw [if_neg (by omega)]; exact cutB_start k (by omega)
theorem cutT_len {T : List (Bool × List UInt8)} {s k : Nat} : (cutT T s k).length = 8 := by simp [cutT]
theorem cutT_set {T : List (Bool × List UInt8)} {s k : Nat} (h : s < k) (h8 : k < 8) : (cutT T s k).set k (true, []) = cutT T s (k + 1) := by
 refine List.ext_getElem (by simp [cutT]) fun n h1 h2 => ?_
 simp only [cutT, List.length_map, List.length_range] at h2
 by_cases hk : k = n
 ·subst hk; simp [cutT, List.getElem_set, h]
 ·have : (s < n ∧ n < k + 1) ↔ (s < n ∧ n < k) := by omega
  simp [cutT, List.getElem_set, hk, this]
theorem cutT_start {T : List (Bool × List UInt8)} {s : Nat} (h : T.length = 8) : cutT T s (s + 1) = T := by
 refine List.ext_getElem (by simp [cutT, h]) fun n h1 h2 => ?_
 have : ¬ (s < n ∧ n < s + 1) := by omega
 simp [cutT, this, List.getD_eq_getElem?_getD, h2]
theorem as_at {x : As} {T : List AV} {k : Nat} : (x.cells T)[7 + k]? = T[k]? := by rw [Nat.add_comm]; rfl
theorem as_set {x : As} {T : List AV} {k : Nat} {v : AV} : (x.cells T).set (7 + k) v = x.cells (T.set k v) := by rw [Nat.add_comm]; rfl
theorem as_len {x : As} {T : List AV} : (x.cells T).length = 7 + T.length := by simp [As.cells]; omega
end Go.Proofs.Ytofjhihigmimbaa
namespace Go.Proofs.Ytofjhihigmimbaa
open Go Go.AM Go.Proofs
theorem tl_set1 {A : List (Bool × List UInt8)} {f : Nat → Bool} {k : Nat} {x : Bool × List UInt8} (h : k < A.length) : ((sl8 A ++ bl8 f).map AV.d).set k (.d (.sl x.1 (bs x.2))) = (sl8 (A.set k x) ++ bl8 f).map AV.d := by
 rw [← List.map_set, List.set_append_left _ _ (by rw [sl8_len]; exact h), sl8_set]
theorem tl_set0 {A : List (Bool × List UInt8)} {f : Nat → Bool} {k : Nat} (h : k < A.length) : ((sl8 A ++ bl8 f).map AV.d).set k (.d (.sl true [])) = (sl8 (A.set k (true, [])) ++ bl8 f).map AV.d := tl_set1 (x := (true, [])) h
theorem tl_set2 {A : List (Bool × List UInt8)} {f : Nat → Bool} {k : Nat} {v : Bool} (hA : A.length = 8) (h : k < 8) : ((sl8 A ++ bl8 f).map AV.d).set (8 + k) (.d (.bool v)) = (sl8 A ++ bl8 fun j => if j = k then v else f j).map AV.d := by
 rw [← List.map_set, List.set_append_right _ _ (by rw [sl8_len]; omega), sl8_len, hA, Nat.add_sub_cancel_left, bl8_set]
theorem st_b {x : As} {T : List AV} {H : AHeap} {p : Nat} {v : Int} (h : H p = some (xObj x T)) : stoA false 1 (.ptr p 0 0 4) (.d (.int .i64 v)) H = some (.junk, [(p, xObj { x with bits := v } T)]) := by
 rw [stoA_at h (Nat.le_refl 0) rfl (by rw [as_len]; omega) rfl rfl]; rfl
theorem st_tl {x : As} {T : List AV} {G : AHeap} {p k : Nat} {v : AV} (hT : T.length = 16) (hk : k < 16) (hv : v.storable = true) (hv2 : v.cells = [v]) : stoA false 1 (.ptr p 0 0 (7 + k)) v (G.set p (xObj x T)) = some (.junk, [(p, xObj x (T.set k v))]) := by
 rw [stoA_at set_self (Nat.le_refl 0) rfl (by rw [as_len, hT]; omega) hv hv2, as_set]; rfl
def hasC (q : Rq) (s k : Nat) (j : Nat) : Bool := q.has j && !decide (s < j ∧ j < k)
theorem hasC_start {q : Rq} {s : Nat} : ∀ j, j < 8 → hasC q s (s + 1) j = q.has j := fun j _ => by
 have : ¬ (s < j ∧ j < s + 1) := by omega
 simp [hasC, this]
theorem hasC_step {q : Rq} {s k : Nat} (h : s < k) : ∀ j, j < 8 → (if j = k then false else hasC q s k j) = hasC q s (k + 1) j := fun j _ => by
 by_cases hj : j = k
 ·subst hj; simp [hasC, h]
 ·have : (s < j ∧ j < k + 1) ↔ (s < j ∧ j < k) := by omega
  simp [hasC, hj, this]
theorem hasC_end {q : Rq} {s : Nat} : ∀ j, j < 8 → hasC q s 8 j = (q.fin s).has j := fun j hj => by
 unfold hasC Rq.fin Rq.has
 simp only [Nat.testBit_mod_two_pow]
 by_cases h : s < j
 ·have h1 : ¬ j ≤ min q.last s := by omega
  simp [h, hj, h1]
 ·have h1 : j < s + 1 := by omega
  have h2 : (j ≤ min q.last s) ↔ j ≤ q.last := by omega
  simp [h, h1, h2]
theorem fin_obj {q : Rq} {s : Nat} : (q.fin s).obj = xObj { q.as with bits := (q.b % 2 ^ (s + 1) : Nat) } ((sl8 (cutT q.T s 8) ++ bl8 (hasC q s 8)).map AV.d) := by
 unfold Rq.obj Rq.tl
 rw [bl8_congr (hasC_end (q := q) (s := s))]
 rfl
theorem got_has {q : Rq} (ok : q.Ok) {k : Nat} {nl : Bool} {d : List UInt8} (hb : q.b.testBit k = true) : ∀ j, j < 8 → (if j = k then true else q.has j) = (q.got k nl d).has j := fun j _ => by
 have hk : k ≤ q.last := by
  cases Nat.lt_or_ge q.last k with
  | inl h1 => rw [Nat.testBit_lt_two_pow (Nat.lt_of_lt_of_le ok.b (Nat.pow_le_pow_right (by omega) h1))] at hb; cases hb
  | inr h1 => exact h1
 simp only [Rq.got, hb, if_true, Rq.has, clr_bit]
 by_cases hj : j = k
 ·subst hj; simp [hk]
 ·simp [hj]
theorem got_obj {q : Rq} (ok : q.Ok) {k : Nat} {nl : Bool} {d : List UInt8} (hb : q.b.testBit k = true) : (q.got k nl d).obj = xObj { q.as with bits := (clr q.b k : Nat) } ((sl8 (q.T.set k (nl, d)) ++ bl8 fun j => if j = k then true else q.has j).map AV.d) := by
 unfold Rq.obj Rq.tl
 rw [bl8_congr (got_has ok (nl := nl) (d := d) hb)]
 simp only [Rq.got, hb, if_true, Rq.as]
set_option maxHeartbeats 1000000 in
theorem atake_c {q : Rq} (ok : q.Ok) {H : AHeap} {p : Nat} (hp : H p = some q.obj) {t : Tr} (ht : 0 ≤ t.seq ∧ t.seq ≤ 7) (hl : t.data.length < 2 ^ 40) (hnl : t.nl = true → t.data = []) {K : AV → AHeap → Prop} (h : K (.tup []) (H.set p (q.piece t).obj)) : CallsA Try.prog 71 [.ptr p 0 0 0, t.av] H K := by
 apply C71
 unfold S71
 refine box_open rfl fun u G hG hle hu => ?_
 have hp1 : G p = some (.mem 0 0 23 [q.as.cells q.tl]) := hle _ _ hp
 have hpu := le_ne hp hu
 have hG : G u = some (.mem 0 0 8 [t.cells]) := hG
 obtain ⟨s, hs⟩ : ∃ s : Nat, t.seq = (s : Int) := ⟨t.seq.toNat, by omega⟩
 have hs8 : s < 8 := by omega
 obtain ⟨kind, id, bits, seq, once, fin, ask, nl, data⟩ := t
 simp only at hs ht hl hnl
 subst hs
 simp only [Tr.cells] at hG
 obtain ⟨x, e1, e2⟩ := bit_eq (b := q.b) ok.b8 hs8
 have hw : IntKind.i64.wrap ((s : Int) + 1) = ((s + 1 : Nat) : Int) := by rw [wrap_i64 (by omega) (by omega)]; omega
 have h7 : q.as.bits = (q.b : Int) := rfl
 simp only [nilCk_ptr, ti129_f4, ti24_f3, ti24_f5, getM_of hp1, getM_of hG, As.cells, h7, e1, e2, go_sem]
 by_cases hb : q.b.testBit s = true
 ·simp only [hb, if_true, Int.reduceEq, Int.reduceNe, Int.reduceLT, Int.reduceLE, not_true_eq_false, not_false_eq_true, decide_true, decide_false, Int.reduceAdd, Int.reduceSub, Int.reduceMul]
  have ix1 : indexAddrA ti109 1 (.ptr p 0 0 7) (.d (.int .i64 (s : Int))) = some (.ptr p 0 0 (7 + s)) := by rw [ixArr (m := 8) (et := 22) rfl (by omega) (by omega)]; simp
  have ix2 : indexAddrA ti108 1 (.ptr p 0 0 15) (.d (.int .i64 (s : Int))) = some (.ptr p 0 0 (7 + (8 + s))) := by rw [ixArr (m := 8) (et := 4) rfl (by omega) (by omega)]; simp; omega
  simp only [shl_eq (show s < 9 by omega), andn_eq ok.b8 hs8, nilCk_ptr, ti129_f4, ti24_f3, ti24_f7, getM_of hp1, As.cells, h7, go_sem]
  rw [st_b (x := q.as) (T := q.tl) hp1]
  simp only [nilCk_ptr, ti129_f4, ti24_f3, ti24_f7, getM_ne (Ne.symm hpu), getM_of hG, go_sem]
  refine ⟨_, clone_c hl hnl ⟨rfl, le_refl'⟩, ?_⟩
  simp only [nilCk_ptr, ti129_f7, ti129_f8, ix1, ix2, go_sem]
  refine ⟨hpu, ?_⟩
  rw [st_tl (x := { q.as with bits := (clr q.b s : Nat) }) (by simp [Rq.tl, sl8_len, bl8_len, ok.T]) (by omega) rfl rfl]
  simp only [optA_some, stepK_some, sets_cons, sets_nil', set_set]
  rw [show q.tl = (sl8 q.T ++ bl8 q.has).map AV.d from rfl, tl_set1 (x := (nl, data)) (by rw [ok.T]; omega), st_tl (x := { q.as with bits := (clr q.b s : Nat) }) (by simp [sl8_len, bl8_len, ok.T]) (by omega) rfl rfl]
  simp only [optA_some, stepK_some, sets_cons, sets_nil', set_set]
  rw [tl_set2 (by rw [List.length_set, ok.T]) (by omega), ← got_obj ok hb]
  have hg8 : (q.got s nl data).b < 256 := by simp only [Rq.got, hb, if_true]; exact clr_lt (n := 8) ok.b8
  have hgT : (q.got s nl data).T.length = 8 := by simp only [Rq.got, hb, if_true, List.length_set, ok.T]
  simp only [ti24_f5, ti24_f3, getM_ne (Ne.symm hpu), getM_of hG, go_sem]
  cases fin with
  | false =>
   simp only [go_sem]
   exact ⟨_, le_same hle, h⟩
  | true =>
  simp only [hw, go_sem]
  generalize hq1 : q.got s nl data = q1 at *
  refine loop_ind (fun n vs G' => ∃ k : Nat, s + 1 ≤ k ∧ k ≤ 8 ∧ n = 8 - k ∧ vs = [.ptr p 0 0 0, .d (.int .i64 (k : Int))] ∧ G' = G.set p (xObj { q1.as with bits := (cutB q1.b s k : Nat) } ((sl8 (cutT q1.T s k) ++ bl8 (hasC q1 s k)).map AV.d))) (n := 8 - (s + 1)) ⟨s + 1, Nat.le_refl _, by omega, rfl, rfl, by rw [cutB_start _ (Nat.le_refl _), cutT_start hgT, bl8_congr (hasC_start (q := q1) (s := s))]; rfl⟩ ?_
  rintro X n vs _ ⟨k, hk1, hk8, rfl, rfl, rfl⟩ hX
  by_cases hk : k = 8
  ·subst hk
   simp only [List.getD_cons_succ, List.getD_cons_zero, go_sem]
   rw [if_neg (by decide)]
   refine ⟨_, le_same hle, ?_⟩
   rw [cutB_end hg8]
   have e := fin_obj (q := q1) (s := s)
   rw [← e]
   simpa [Rq.piece, hq1] using h
  ·have hX' := hX (8 - (k + 1)) _ _ (by omega) ⟨k + 1, by omega, by omega, rfl, rfl, rfl⟩
   have hlt : (k : Int) < 8 := by omega
   have hw : IntKind.i64.wrap ((k : Int) + 1) = ((k + 1 : Nat) : Int) := by rw [wrap_i64 (by omega) (by omega)]; omega
   have ix1 : indexAddrA ti109 1 (.ptr p 0 0 7) (.d (.int .i64 (k : Int))) = some (.ptr p 0 0 (7 + k)) := by rw [ixArr (m := 8) (et := 22) rfl (by omega) (by omega)]; simp
   have ix2 : indexAddrA ti108 1 (.ptr p 0 0 15) (.d (.int .i64 (k : Int))) = some (.ptr p 0 0 (7 + (8 + k))) := by rw [ixArr (m := 8) (et := 4) rfl (by omega) (by omega)]; simp; omega
   simp only [List.getD_cons_succ, List.getD_cons_zero, hlt, if_true, nilCk_ptr, ti129_f4, ti129_f7, ti129_f8, getM_set, As.cells, shl_eq (show k < 9 by omega), andn_eq (cutB_lt hg8) (show k < 8 by omega), ix1, ix2, go_sem]
   rw [st_b (x := { q1.as with bits := (cutB q1.b s k : Nat) }) set_self]
   simp only [optA_some, stepK_some, sets_cons, sets_nil', set_set]
   rw [st_tl (x := { q1.as with bits := (clr (cutB q1.b s k) k : Nat) }) (by simp [sl8_len, bl8_len, cutT_len]) (by omega) rfl rfl]
   simp only [optA_some, stepK_some, sets_cons, sets_nil', set_set]
   rw [tl_set0 (by rw [cutT_len]; omega), cutT_set (by omega) (by omega), st_tl (x := { q1.as with bits := (clr (cutB q1.b s k) k : Nat) }) (by simp [sl8_len, bl8_len, cutT_len]) (by omega) rfl rfl]
   simp only [optA_some, stepK_some, sets_cons, sets_nil', set_set, hw, intA_add]
   rw [tl_set2 cutT_len (by omega), bl8_congr (hasC_step (q := q1) (s := s) (k := k) (by omega))]
   have hb : cutB q1.b s (k + 1) = clr (cutB q1.b s k) k := by simp only [cutB]; rw [if_pos (by omega)]
   rw [hb] at hX'
   exact hX'
 ·simp only [hb, if_false, Int.reduceEq, Int.reduceNe, Int.reduceLT, Int.reduceLE, not_true_eq_false, not_false_eq_true, decide_true, decide_false, Int.reduceAdd, Int.reduceSub, Int.reduceMul, go_sem]
  cases fin with
  | false =>
   simp only [go_sem]
   refine ⟨H.set p q.obj, by rw [set_id hp]; exact hle, ?_⟩
   simpa [Rq.piece, Rq.got, hb] using h
  | true =>
  simp only [hw, go_sem]
  refine loop_ind (fun n vs G' => ∃ k : Nat, s + 1 ≤ k ∧ k ≤ 8 ∧ n = 8 - k ∧ vs = [.ptr p 0 0 0, .d (.int .i64 (k : Int))] ∧ G' = G.set p (xObj { q.as with bits := (cutB q.b s k : Nat) } ((sl8 (cutT q.T s k) ++ bl8 (hasC q s k)).map AV.d))) (n := 8 - (s + 1)) ⟨s + 1, Nat.le_refl _, by omega, rfl, rfl, by rw [cutB_start _ (Nat.le_refl _), cutT_start ok.T, bl8_congr (hasC_start (q := q) (s := s))]; exact (set_id hp1).symm⟩ ?_
  rintro X n vs _ ⟨k, hk1, hk8, rfl, rfl, rfl⟩ hX
  by_cases hk : k = 8
  ·subst hk
   simp only [List.getD_cons_succ, List.getD_cons_zero, go_sem]
   rw [if_neg (by decide)]
   refine ⟨_, le_same hle, ?_⟩
   rw [cutB_end ok.b8]
   have e := fin_obj (q := q) (s := s)
   rw [← e]
   simpa [Rq.piece, Rq.got, hb] using h
  ·have hX' := hX (8 - (k + 1)) _ _ (by omega) ⟨k + 1, by omega, by omega, rfl, rfl, rfl⟩
   have hlt : (k : Int) < 8 := by omega
   have hw : IntKind.i64.wrap ((k : Int) + 1) = ((k + 1 : Nat) : Int) := by rw [wrap_i64 (by omega) (by omega)]; omega
   have ix1 : indexAddrA ti109 1 (.ptr p 0 0 7) (.d (.int .i64 (k : Int))) = some (.ptr p 0 0 (7 + k)) := by rw [ixArr (m := 8) (et := 22) rfl (by omega) (by omega)]; simp
   have ix2 : indexAddrA ti108 1 (.ptr p 0 0 15) (.d (.int .i64 (k : Int))) = some (.ptr p 0 0 (7 + (8 + k))) := by rw [ixArr (m := 8) (et := 4) rfl (by omega) (by omega)]; simp; omega
   simp only [List.getD_cons_succ, List.getD_cons_zero, hlt, if_true, nilCk_ptr, ti129_f4, ti129_f7, ti129_f8, getM_set, As.cells, shl_eq (show k < 9 by omega), andn_eq (cutB_lt ok.b8) (show k < 8 by omega), ix1, ix2, go_sem]
   rw [st_b (x := { q.as with bits := (cutB q.b s k : Nat) }) set_self]
   simp only [optA_some, stepK_some, sets_cons, sets_nil', set_set]
   rw [st_tl (x := { q.as with bits := (clr (cutB q.b s k) k : Nat) }) (by simp [sl8_len, bl8_len, cutT_len]) (by omega) rfl rfl]
   simp only [optA_some, stepK_some, sets_cons, sets_nil', set_set]
   rw [tl_set0 (by rw [cutT_len]; omega), cutT_set (by omega) (by omega), st_tl (x := { q.as with bits := (clr (cutB q.b s k) k : Nat) }) (by simp [sl8_len, bl8_len, cutT_len]) (by omega) rfl rfl]
   simp only [optA_some, stepK_some, sets_cons, sets_nil', set_set, hw, intA_add]
   rw [tl_set2 cutT_len (by omega), bl8_congr (hasC_step (q := q) (s := s) (k := k) (by omega))]
   have hb : cutB q.b s (k + 1) = clr (cutB q.b s k) k := by simp only [cutB]; rw [if_pos (by omega)]
   rw [hb] at hX'
   exact hX'
end Go.Proofs.Ytofjhihigmimbaa
namespace Go.Proofs.Ytofjhihigmimbaa
open Go Go.AM Go.Proofs
def Rq.kv (q : Rq) : Int × AV := (q.id, .ptr q.p 0 0 0)
structure PA (H : AHeap) (k m : Nat) (nx : Int) (L : List Rq) : Prop where
 asker : H k = some (aObj nx m)
 map : ∃ es cl, H m = some (.map es cl) ∧ Kv es (L.map Rq.kv) ∧ (∀ e ∈ es, e.born < cl) ∧ (es.map (·.born)).Nodup
 obj : ∀ q ∈ L, H q.p = some q.obj
 ids : (L.map (·.id)).Nodup
 ps : (L.map (·.p)).Nodup
 ok : ∀ q ∈ L, q.Ok
 len : L.length ≤ 100
 nx : 0 ≤ nx ∧ nx ≤ 65535
abbrev SP : List Nat := [0, 4, 24]
theorem kv_fst {L : List Rq} : (L.map Rq.kv).map (·.1) = L.map (·.id) := by simp [Rq.kv]
section
variable {H G : AHeap} {k m : Nat} {nx : Int} {L : List Rq} {K : AV → AHeap → Prop}
theorem PA.fr {S : List Nat} (h : PA H k m nx L) (hf : Fr S H G) (hs : 0 ∉ S ∧ 4 ∉ S ∧ 24 ∉ S) : PA G k m nx L := by
 obtain ⟨es, cl, h1, h2⟩ := h.map
 exact ⟨hf _ _ h.asker hs.2.1, ⟨es, cl, hf _ _ h1 hs.1, h2⟩, fun q hq => hf _ _ (h.obj q hq) hs.2.2, h.ids, h.ps, h.ok, h.len, h.nx⟩
theorem PA.le (h : PA H k m nx L) (hf : AHeap.le H G) : PA G k m nx L := h.fr (S := []) (.of_le hf) (by simp)
theorem PA.look (h : PA H k m nx L) {i : Nat} {q : Rq} (hi : L[i]? = some q) : lookA .nilptr (.map m) (.d (.int .i64 q.id)) false H = some (.ptr q.p 0 0 0) := by
 obtain ⟨es, cl, h1, h2, _⟩ := h.map
 simp only [lookA, h1, findE_kv 0 i h2 (by rw [kv_fst]; exact h.ids) (show (L.map Rq.kv)[i]? = some (q.id, .ptr q.p 0 0 0) by rw [List.getElem?_map, hi]; rfl), Bool.false_eq_true, if_false]
theorem PA.look_no (h : PA H k m nx L) {id : Int} (hi : id ∉ L.map (·.id)) : lookA .nilptr (.map m) (.d (.int .i64 id)) false H = some .nilptr := by
 obtain ⟨es, cl, h1, h2, _⟩ := h.map
 simp only [lookA, h1, findE_kv_no 0 h2 (by rw [kv_fst]; exact hi), Bool.false_eq_true, if_false]
theorem PA.none (h : PA H k m nx L) (hk : K (.d (.bool false)) H) : CallsA Try.prog 68 [.ptr k 0 0 0] H K := none_c h.asker hk
theorem PA.upd (h : PA H k m nx L) {i : Nat} {q q' : Rq} (hi : L[i]? = some q) (hp : q'.p = q.p) (hid : q'.id = q.id) (hok : q'.Ok) : PA (H.set q.p q'.obj) k m nx (L.set i q') := by
 have hq : q ∈ L := List.mem_of_getElem? hi
 have ho := h.obj q hq
 obtain ⟨es, cl, h1, h2⟩ := h.map
 have hkp : k ≠ q.p := fun he => by have := h.asker; rw [he, ho] at this; cases this
 have hmp : m ≠ q.p := fun he => by rw [he, ho] at h1; cases h1
 have e1 : (L.set i q').map Rq.kv = L.map Rq.kv := map_set_same hi (by simp [Rq.kv, hp, hid])
 have e2 : (L.set i q').map (·.id) = L.map (·.id) := map_set_same hi hid
 have e3 : (L.set i q').map (·.p) = L.map (·.p) := map_set_same hi hp
 refine ⟨by rw [set_ne hkp]; exact h.asker, ⟨es, cl, by rw [set_ne hmp]; exact h1, by rw [e1]; exact h2⟩, fun x hx => ?_, by rw [e2]; exact h.ids, by rw [e3]; exact h.ps, fun x hx => ?_, by rw [List.length_set]; exact h.len, h.nx⟩
 ·obtain ⟨j, hj⟩ := List.getElem?_of_mem hx
  by_cases hij : i = j
  ·subst hij
   rw [List.getElem?_set_self (List.getElem?_eq_some_iff.1 hi).1] at hj
   cases hj
   rw [hp, set_self]
  ·rw [List.getElem?_set_ne hij] at hj
   have hne : x.p ≠ q.p := fun he => by
    have a1 : (L.map (·.p))[i]? = some q.p := by rw [List.getElem?_map, hi]; rfl
    have a2 : (L.map (·.p))[j]? = some q.p := by rw [List.getElem?_map, hj, ← he]; rfl
    have hl := (List.getElem?_eq_some_iff.1 a1).1
    exact hij ((List.getElem?_inj hl h.ps).1 (a1.trans a2.symm))
   rw [set_ne hne]
   exact h.obj x (List.mem_of_getElem? hj)
 ·rcases List.mem_or_eq_of_mem_set hx with h3 | h3
  ·exact h.ok x h3
  ·rw [h3]; exact hok
theorem id_cases (L : List Rq) (id : Int) : (∃ (i : Nat) (q : Rq), L[i]? = some q ∧ q.id = id) ∨ id ∉ L.map (·.id) := by
 by_cases h : id ∈ L.map (·.id)
 ·obtain ⟨q, hq, he⟩ := List.mem_map.1 h
  obtain ⟨i, hi⟩ := List.getElem?_of_mem hq
  exact .inl ⟨i, q, hi, he⟩
 ·exact .inr h
theorem pstate_c (h : PA H k m nx L) {id : Int} (h1 : ∀ (i : Nat) (q : Rq), L[i]? = some q → q.id = id → K (.d (.int .i64 q.state)) H) (h2 : id ∉ L.map (·.id) → K (.d (.int .i64 0)) H) : CallsA Try.prog 35 [.ptr k 0 0 0, .d (.int .i64 id)] H K := by
 apply C35
 unfold S35
 simp only [frzLK_ptr, frzLK_nil]
 refine h.none ?_
 rcases id_cases L id with ⟨i, q, hi, rfl⟩ | hn
 ·have ho : H q.p = some (.mem 0 0 23 [q.as.cells q.tl]) := h.obj q (List.mem_of_getElem? hi)
  simp only [nilCk_ptr, ti73_f2, ti129_f3, getM_of h.asker, getM_of ho, keyInt, h.look hi, nilP_eql, As.cells, go_sem]
  exact ⟨H, le_refl', h1 i q hi rfl⟩
 ·simp only [nilCk_ptr, ti73_f2, ti129_f3, getM_of h.asker, keyInt, h.look_no hn, nilN_eql, As.cells, go_sem]
  exact ⟨H, le_refl', h2 hn⟩
theorem mapDel {id : Int} {i cl : Nat} {es : List MEnt} {v : AV} {l : List (Int × AV)} (h : H m = some (.map es cl)) (hk : Kv es l) (hn : (l.map (·.1)).Nodup) (hi : l[i]? = some (id, v)) : mdA Try.prog 3 (.map m) (.d (.int .i64 id)) H = some (.tup [], [(m, .map (es.eraseIdx i) cl)]) := by
 simp only [mdA, Try.underlying3, keyOk, decide_true, if_true, mapDelA, h, findE_kv 0 i hk hn hi, Nat.zero_add]
theorem erase_mem {α : Type} {l : List α} {i : Nat} {x : α} (h : x ∈ l.eraseIdx i) : x ∈ l := (List.eraseIdx_sublist l i).subset h
theorem PA.del (h : PA H k m nx L) {i : Nat} {es : List MEnt} {cl : Nat} (h1 : H m = some (.map es cl)) (h2 : Kv es (L.map Rq.kv)) (h3 : (∀ e ∈ es, e.born < cl) ∧ (es.map (·.born)).Nodup) : PA (H.set m (.map (es.eraseIdx i) cl)) k m nx (L.eraseIdx i) := by
 have hkm : k ≠ m := fun he => by have := h.asker; rw [he, h1] at this; cases this
 refine ⟨by rw [set_ne hkm]; exact h.asker, ⟨_, cl, set_self, by rw [map_erase]; exact h2.del i, fun e he => h3.1 e (erase_mem he), ?_⟩, fun q hq => ?_, ?_, ?_, fun q hq => h.ok q (erase_mem hq), ?_, h.nx⟩
 ·rw [map_erase]; exact (List.eraseIdx_sublist _ i).nodup h3.2
 ·have := h.obj q (erase_mem hq)
  rw [set_ne fun he => by rw [he, h1] at this; cases this]; exact this
 ·rw [map_erase]; exact (List.eraseIdx_sublist _ i).nodup h.ids
 ·rw [map_erase]; exact (List.eraseIdx_sublist _ i).nodup h.ps
 ·exact Nat.le_trans (List.length_eraseIdx_le ..) h.len
theorem pforget_c (h : PA H k m nx L) {id : Int} (h1 : ∀ (i : Nat) (q : Rq), L[i]? = some q → q.id = id → (q.state = 2 ∨ q.state = 3) → ∀ H', PA H' k m nx (L.eraseIdx i) → Fr SP H H' → K (.d (.int .i64 0)) H')
  (h2 : (∀ (i : Nat) (q : Rq), L[i]? = some q → q.id = id → q.state = 1) → K (.d (.int .i64 5)) H) : CallsA Try.prog 36 [.ptr k 0 0 0, .d (.int .i64 id)] H K := by
 apply C36
 unfold S36
 simp only [frzLK_ptr, frzLK_nil]
 refine h.none ?_
 simp only [go_sem]
 obtain ⟨es, cl, m1, m2, m3⟩ := h.map
 refine pstate_c h (fun i q hi hid => ?_) fun hn => ?_
 ·have hq := h.ok q (List.mem_of_getElem? hi)
  have hd := mapDel (i := i) m1 m2 (by rw [kv_fst]; exact h.ids) (show (L.map Rq.kv)[i]? = some (q.id, .ptr q.p 0 0 0) by rw [List.getElem?_map, hi]; rfl)
  have hfr : Fr SP H (H.set m (.map (es.eraseIdx i) cl)) := Fr.refl.put m1 (by simp [osz])
  rw [hid] at hd
  rcases hq.state with hs | hs | hs
  ·simp only [hs, Int.reduceEq, Int.reduceNe, Int.reduceLT, Int.reduceLE, not_true_eq_false, not_false_eq_true, decide_true, decide_false, Int.reduceAdd, Int.reduceSub, Int.reduceMul, go_sem]
   refine pstate_c h (fun i' q' hi' hid' => ?_) fun hn => ?_
   ·have : q'.state = 1 := by
     have e : i = i' := by
      have a1 : (L.map (·.id))[i]? = some id := by rw [List.getElem?_map, hi, ← hid]; rfl
      have a2 : (L.map (·.id))[i']? = some id := by rw [List.getElem?_map, hi', ← hid']; rfl
      exact (List.getElem?_inj (List.getElem?_eq_some_iff.1 a1).1 h.ids).1 (a1.trans a2.symm)
     subst e
     rw [hi] at hi'; cases hi'; exact hs
    simp only [this, Int.reduceEq, Int.reduceNe, Int.reduceLT, Int.reduceLE, not_true_eq_false, not_false_eq_true, decide_true, decide_false, Int.reduceAdd, Int.reduceSub, Int.reduceMul, go_sem]
    refine ⟨H, le_refl', h2 fun i2 q2 hi2 hid2 => ?_⟩
    have e : i = i2 := by
     have a1 : (L.map (·.id))[i]? = some id := by rw [List.getElem?_map, hi, ← hid]; rfl
     have a2 : (L.map (·.id))[i2]? = some id := by rw [List.getElem?_map, hi2, ← hid2]; rfl
     exact (List.getElem?_inj (List.getElem?_eq_some_iff.1 a1).1 h.ids).1 (a1.trans a2.symm)
    subst e
    rw [hi] at hi2; cases hi2; exact hs
   ·exact absurd (List.mem_map.2 ⟨q, List.mem_of_getElem? hi, hid⟩) hn
  ·simp only [hs, nilCk_ptr, ti73_f2, getM_of h.asker, hd, Int.reduceEq, Int.reduceNe, Int.reduceLT, Int.reduceLE, not_true_eq_false, not_false_eq_true, decide_true, decide_false, Int.reduceAdd, Int.reduceSub, Int.reduceMul, go_sem]
   exact ⟨_, le_refl', h1 i q hi hid (.inl hs) _ (h.del m1 m2 m3) hfr⟩
  ·simp only [hs, Int.reduceEq, Int.reduceNe, Int.reduceLT, Int.reduceLE, not_true_eq_false, not_false_eq_true, decide_true, decide_false, Int.reduceAdd, Int.reduceSub, Int.reduceMul, go_sem]
   refine pstate_c h (fun i' q' hi' hid' => ?_) fun hn => ?_
   ·have e : i = i' := by
     have a1 : (L.map (·.id))[i]? = some id := by rw [List.getElem?_map, hi, ← hid]; rfl
     have a2 : (L.map (·.id))[i']? = some id := by rw [List.getElem?_map, hi', ← hid']; rfl
     exact (List.getElem?_inj (List.getElem?_eq_some_iff.1 a1).1 h.ids).1 (a1.trans a2.symm)
    subst e
    rw [hi] at hi'; cases hi'
    simp only [hs, nilCk_ptr, ti73_f2, getM_of h.asker, hd, Int.reduceEq, Int.reduceNe, Int.reduceLT, Int.reduceLE, not_true_eq_false, not_false_eq_true, decide_true, decide_false, Int.reduceAdd, Int.reduceSub, Int.reduceMul, go_sem]
    exact ⟨_, le_refl', h1 i q hi hid (.inr hs) _ (h.del m1 m2 m3) hfr⟩
   ·exact absurd (List.mem_map.2 ⟨q, List.mem_of_getElem? hi, hid⟩) hn
 ·simp only [Int.reduceEq, Int.reduceNe, Int.reduceLT, Int.reduceLE, not_true_eq_false, not_false_eq_true, decide_true, decide_false, Int.reduceAdd, Int.reduceSub, Int.reduceMul, go_sem]
  refine pstate_c h (fun i' q' hi' hid' => ?_) fun hn => ?_
  ·exact absurd (List.mem_map.2 ⟨q', List.mem_of_getElem? hi', hid'⟩) hn
  ·simp only [Int.reduceEq, Int.reduceNe, Int.reduceLT, Int.reduceLE, not_true_eq_false, not_false_eq_true, decide_true, decide_false, Int.reduceAdd, Int.reduceSub, Int.reduceMul, go_sem]
   exact ⟨H, le_refl', h2 fun i2 q2 hi2 hid2 => absurd (List.mem_map.2 ⟨q2, List.mem_of_getElem? hi2, hid2⟩) hn⟩
end
end Go.Proofs.Ytofjhihigmimbaa
namespace Go.Proofs.Ytofjhihigmimbaa
open Go Go.AM Go.Proofs
theorem nodup_sub : ∀ (l m : List Int), l.Nodup → (∀ x ∈ l, x ∈ m) → l.length ≤ m.length
 | [], m, _, _ => Nat.zero_le _
 | x :: l, m, hn, h => by
  have hx := h x (by simp)
  have h1 := nodup_sub l (m.erase x) (List.nodup_cons.1 hn).2 fun y hy => by
   have hne : y ≠ x := fun he => (List.nodup_cons.1 hn).1 (he ▸ hy)
   exact (List.mem_erase_of_ne hne).2 (h y (by simp [hy]))
  rw [List.length_erase_of_mem hx] at h1
  have : 0 < m.length := List.length_pos_of_mem hx
  simp only [List.length_cons]; omega
def nth (nx : Int) (d : Nat) : Int := (nx + d) % 65536
def dist (ids : List Int) (nx : Int) : Nat := ((List.range 101).find? fun d => decide (nth nx d ∉ ids)).getD 0
theorem dist_spec {ids : List Int} {nx : Int} (h : ids.length < 101) : nth nx (dist ids nx) ∉ ids ∧ ∀ j, j < dist ids nx → nth nx j ∈ ids := by
 unfold dist
 cases hf : (List.range 101).find? fun d => decide (nth nx d ∉ ids) with
 | none =>
  exfalso
  rw [List.find?_eq_none] at hf
  have h1 := nodup_sub ((List.range 101).map (nth nx)) ids (by
   exact List.pairwise_map.2 (List.pairwise_lt_range.imp_of_mem fun {a b} ha hb hlt => by simp only [List.mem_range] at ha hb; unfold nth; omega)) fun x hx => by
    obtain ⟨d, hd, rfl⟩ := List.mem_map.1 hx
    have := hf d hd
    simpa using this
  simp at h1
  omega
 | some d =>
  rw [List.find?_range_eq_some] at hf
  obtain ⟨h1, h2, h3⟩ := hf
  refine ⟨by simpa using h1, fun j hj => ?_⟩
  have := h3 j hj
  simpa using this
def free (L : List Rq) (nx : Int) : Int := nth nx (dist (L.map (·.id)) nx)
theorem nth_rng {nx : Int} {d : Nat} : 0 ≤ nth nx d ∧ nth nx d ≤ 65535 := by unfold nth; omega
theorem nth_0 {nx : Int} (h : 0 ≤ nx ∧ nx ≤ 65535) : nth nx 0 = nx := by unfold nth; omega
theorem nth_s {nx : Int} {d : Nat} (h : 0 ≤ nx) : (nth nx d + 1).tmod 65536 = nth nx (d + 1) := by
 have := nth_rng (nx := nx) (d := d)
 rw [Int.tmod_eq_emod_of_nonneg (by omega)]
 unfold nth; omega
def Rq.new (p : Nat) (id : Int) (nl : Bool) (data : List UInt8) (once : Bool) (tries : Int) (n : Nat) : Rq :=
 ⟨p, id, 1, nl, data, once, tries, 1, 0, 2 ^ n - 1, n - 1, List.replicate 8 (true, []), List.replicate 8 (true, [])⟩
theorem new_tl {p : Nat} {id : Int} {nl : Bool} {data : List UInt8} {once : Bool} {tries : Int} {n : Nat} (h : 1 ≤ n) : (Rq.new p id nl data once tries n).tl = T0 := by
 have : bl8 (Rq.new p id nl data once tries n).has = bl8 fun _ => false := bl8_congr fun k _ => by
  simp only [Rq.has, Rq.new, Nat.testBit_two_pow_sub_one]
  by_cases hk : k < n
  ·simp [hk]
  ·have : ¬ k ≤ n - 1 := by omega
   simp [this]
 unfold Rq.tl
 rw [this]
 rfl
theorem new_ok {p : Nat} {id : Int} {nl : Bool} {data : List UInt8} {once : Bool} {tries : Int} {n : Nat} (hid : 0 ≤ id ∧ id ≤ 65535) (hn : 1 ≤ n ∧ n ≤ 8) (ht : 1 ≤ tries ∧ tries ≤ 255) (hd : data.length ≤ 64) (hnl : nl = true → data = []) : (Rq.new p id nl data once tries n).Ok where
 id := hid
 state := .inl rfl
 tries := ht
 sent := ⟨by show (0 : Int) ≤ 1; decide, ht.1⟩
 ticks := fun _ => ⟨by show (0 : Int) ≤ 0; decide, by show (0 : Int) ≤ 2; decide⟩
 last := by show n - 1 ≤ 7; omega
 b := by
  show 2 ^ n - 1 < 2 ^ (n - 1 + 1)
  rw [show n - 1 + 1 = n by omega]
  have := Nat.pow_pos (n := n) (show 0 < 2 by decide)
  omega
 T := by simp [Rq.new]
 P := by simp [Rq.new]
 data := hd
 nl := hnl
 pcs := fun k x y _ hx hy => by
  have h1 := List.mem_of_getElem? hx
  have h2 := List.mem_of_getElem? hy
  simp only [Rq.new, List.mem_replicate] at h1 h2
  rw [h1.2, h2.2]
 fl := fun x hx => by
  simp only [Rq.new, List.mem_append, List.mem_replicate] at hx
  rcases hx with hx | hx <;> (rw [hx.2]; simp)
 done := fun h => by simp [Rq.new] at h
theorem sub1 {n : Nat} (h : 1 ≤ n ∧ n ≤ 8) : intA .sub (.d (.int .i64 ((2 ^ n : Nat) : Int))) (.d (.int .i64 1)) = some (.d (.int .i64 ((2 ^ n - 1 : Nat) : Int))) := by
 have h1 : 2 ^ n ≤ 2 ^ 8 := Nat.pow_le_pow_right (by omega) h.2
 have h2 := Nat.pow_pos (n := n) (show 0 < 2 by decide)
 rw [intA_sub, wrap_i64 (by omega) (by omega)]
 simp only [Option.some.injEq, AV.d.injEq, Dat.int.injEq, true_and]
 omega
theorem id_eq {L : List Rq} (hn : (L.map (·.id)).Nodup) {i j : Nat} {q x : Rq} (hi : L[i]? = some q) (hj : L[j]? = some x) (he : q.id = x.id) : i = j ∧ q = x := by
 have e : i = j := by
  have a1 : (L.map (·.id))[i]? = some q.id := by rw [List.getElem?_map, hi]; rfl
  have a2 : (L.map (·.id))[j]? = some q.id := by rw [List.getElem?_map, hj, he]; rfl
  exact (List.getElem?_inj (List.getElem?_eq_some_iff.1 a1).1 hn).1 (a1.trans a2.symm)
 subst e
 rw [hi] at hj; cases hj
 exact ⟨rfl, rfl⟩
theorem le_box {H G : AHeap} {u : Nat} {o : AObj} (hle : AHeap.le H G) (hu : H u = none) : AHeap.le H (G.set u o) := le_set_own hle hu
theorem ite_of {c : Prop} [Decidable c] {X Y : Prop} (h1 : c → X) (h2 : ¬ c → Y) : if c then X else Y := by
 by_cases h : c
 ·rw [if_pos h]; exact h1 h
 ·rw [if_neg h]; exact h2 h
def zt : List AV := [.d (.int .i64 0), .d (.int .i64 0), .d (.int .i64 0), .d (.int .i64 0), .d (.bool false), .d (.bool false), .d (.bool false), .d (.sl true [])]
def Rq.reqP (q : Rq) : Tr := q.as.req q.id
section
variable {H G : AHeap} {k m : Nat} {nx : Int} {L : List Rq} {K : AV → AHeap → Prop}
theorem PA.add (h : PA H k m nx L) {q : Rq} {es : List MEnt} {cl : Nat} (h1 : H m = some (.map es cl)) (h2 : Kv es (L.map Rq.kv)) (h3 : (∀ e ∈ es, e.born < cl) ∧ (es.map (·.born)).Nodup) (hp : H q.p = some q.obj) (hid : q.id ∉ L.map (·.id)) (hpp : q.p ∉ L.map (·.p)) (hok : q.Ok) (hl : L.length < 100) :
  PA (H.set m (.map (es ++ [⟨.int .i64 q.id, .ptr q.p 0 0 0, cl⟩]) (cl + 1))) k m nx (L ++ [q]) := by
 have hkm : k ≠ m := fun he => by have := h.asker; rw [he, h1] at this; cases this
 have np : ∀ (x : Rq), H x.p = some x.obj → x.p ≠ m := fun x hx he => by rw [he, h1] at hx; cases hx
 refine ⟨by rw [set_ne hkm]; exact h.asker, ⟨_, _, set_self, by rw [List.map_append]; exact h2.add _ _ _, fun e he => ?_, ?_⟩, fun x hx => ?_, ?_, ?_, fun x hx => ?_, by simp; omega, h.nx⟩
 ·rcases List.mem_append.1 he with he | he
  ·have := h3.1 e he; omega
  ·simp only [List.mem_singleton] at he; subst he; exact Nat.lt_succ_self _
 ·rw [List.map_append, List.nodup_append]
  refine ⟨h3.2, by simp, fun a ha b hb => ?_⟩
  obtain ⟨e, he, rfl⟩ := List.mem_map.1 ha
  simp only [List.map_cons, List.map_nil, List.mem_singleton] at hb
  have := h3.1 e he
  omega
 ·rcases List.mem_append.1 hx with hx | hx
  ·rw [set_ne (np x (h.obj x hx))]; exact h.obj x hx
  ·simp only [List.mem_singleton] at hx; subst hx; rw [set_ne (np _ hp)]; exact hp
 ·rw [List.map_append, List.nodup_append]
  exact ⟨h.ids, by simp, fun a ha b hb => by simp only [List.map_cons, List.map_nil, List.mem_singleton] at hb; rintro rfl; exact hid (hb ▸ ha)⟩
 ·rw [List.map_append, List.nodup_append]
  exact ⟨h.ps, by simp, fun a ha b hb => by simp only [List.map_cons, List.map_nil, List.mem_singleton] at hb; rintro rfl; exact hpp (hb ▸ ha)⟩
 ·rcases List.mem_append.1 hx with hx | hx
  ·exact h.ok x hx
  ·simp only [List.mem_singleton] at hx; subst hx; exact hok
set_option maxHeartbeats 1000000 in
theorem pask_c (h : PA H k m nx L) {nl : Bool} {data : List UInt8} (hnl : nl = true → data = []) {pieces tries : Int} {once : Bool} (hp64 : -9223372036854775808 ≤ pieces ∧ pieces ≤ 9223372036854775807)
  (hbad : ¬ (data.length ≤ 64 ∧ (1 ≤ pieces ∧ pieces ≤ 8) ∧ (1 ≤ tries ∧ tries ≤ 255)) → K (.tup [.d (.int .i64 0), .agg zt, .d (.int .i64 2)]) H)
  (hfull : (data.length ≤ 64 ∧ (1 ≤ pieces ∧ pieces ≤ 8) ∧ (1 ≤ tries ∧ tries ≤ 255)) → L.length = 100 → K (.tup [.d (.int .i64 0), .agg zt, .d (.int .i64 4)]) H)
  (hk : (data.length ≤ 64 ∧ (1 ≤ pieces ∧ pieces ≤ 8) ∧ (1 ≤ tries ∧ tries ≤ 255)) → L.length < 100 → ∀ p H', PA H' k m (nth (free L nx) 1) (L ++ [Rq.new p (free L nx) nl data once tries pieces.toNat]) → Fr SP H H' →
   K (.tup [.d (.int .i64 (free L nx)), (Rq.new p (free L nx) nl data once tries pieces.toNat).reqP.av, .d (.int .i64 0)]) H') :
  CallsA Try.prog 30 [.ptr k 0 0 0, .d (.sl nl (bs data)), .d (.int .i64 pieces), .d (.bool once), .d (.int .i64 tries)] H K := by
 apply C30
 unfold S30
 refine alloc_open fun u G hG hle hu => ?_
 have hG1 := h.le hle
 simp only [frzLK_ptr, frzLK_nil]
 refine hG1.none ?_
 have bad : ¬ (data.length ≤ 64 ∧ (1 ≤ pieces ∧ pieces ≤ 8) ∧ (1 ≤ tries ∧ tries ≤ 255)) → finA (.tup [.d (.int .i64 0), .agg zt, .d (.int .i64 2)]) (G.set u (.mem 0 0 8 [zt])) K := fun hb => ⟨H, le_box hle hu, hbad hb⟩
 simp only [zt] at bad
 simp only [bs_length, getM_of hG, getM_set, stoA_agg, stoA_get, stoM, setCells, and_self, true_and, Nat.le_refl, Nat.reduceLeDiff, List.cons_append, List.set_cons_zero, List.getElem?_cons_zero, go_sem]
 refine ite_of (fun hb => bad (by omega)) fun h64 => ?_
 refine within_c ?_
 simp only [getM_of hG, getM_set, stoA_agg, stoA_get, stoM, setCells, and_self, true_and, Nat.le_refl, Nat.reduceLeDiff, List.cons_append, List.set_cons_zero, List.getElem?_cons_zero, go_sem]
 refine ite_of (fun hb => bad (by omega)) fun hpc => ?_
 refine within_c ?_
 simp only [getM_of hG, getM_set, stoA_agg, stoA_get, stoM, setCells, and_self, true_and, Nat.le_refl, Nat.reduceLeDiff, List.cons_append, List.set_cons_zero, List.getElem?_cons_zero, go_sem]
 refine ite_of (fun hb => bad (by omega)) fun htr => ?_
 obtain ⟨es, cl, m1, m2, m3⟩ := hG1.map
 have hlen : lenMp (.map m) G = some (.d (.int .i64 L.length)) := by simp only [lenMp, m1, m2.len, List.length_map]
 have good : data.length ≤ 64 ∧ (1 ≤ pieces ∧ pieces ≤ 8) ∧ (1 ≤ tries ∧ tries ≤ 255) := by
  simp only [Decidable.not_not] at hpc htr
  exact ⟨by omega, hpc, htr⟩
 simp only [nilCk_ptr, ti73_f2, getM_of hG1.asker, hlen, getM_of hG, getM_set, stoA_agg, stoA_get, stoM, setCells, and_self, true_and, Nat.le_refl, Nat.reduceLeDiff, List.cons_append, List.set_cons_zero, List.getElem?_cons_zero, go_sem]
 refine ite_of (fun hb => ⟨H, le_box hle hu, hfull good (by omega)⟩) fun hl100 => ?_
 have hll : L.length < 100 := by have := h.len; omega
 obtain ⟨d1, d2⟩ := dist_spec (ids := L.map (·.id)) (nx := nx) (by simp; omega)
 generalize hd : dist (L.map (·.id)) nx = d at *
 have hfree : free L nx = nth nx d := by unfold free; rw [hd]
 have hku := le_ne h.asker hu
 refine loop_ind (fun n vs G' => ∃ j : Nat, j ≤ d ∧ n = d - j ∧ vs = [.ptr k 0 0 0, .d (.sl nl (bs data)), .d (.int .i64 pieces), .d (.bool once), .d (.int .i64 tries), .ptr u 0 0 0] ∧ G' = G.set k (aObj (nth nx j) m)) (n := d) ⟨0, Nat.zero_le _, rfl, rfl, by rw [nth_0 h.nx]; exact (set_id hG1.asker).symm⟩ ?_
 rintro X n vs _ ⟨j, hj, rfl, rfl, rfl⟩ hX
 have hkm : k ≠ m := fun he => by have := hG1.asker; rw [he, m1] at this; cases this
 have m1' : (G.set k (aObj (nth nx j) m)) m = some (.map es cl) := by rw [set_ne (Ne.symm hkm)]; exact m1
 have hr : ∀ j : Nat, intA .rem (.d (.int .i64 (IntKind.i64.wrap (nth nx j + 1)))) (.d (.int .i64 65536)) = some (.d (.int .i64 (nth nx (j + 1)))) := fun j => by
  have := nth_rng (nx := nx) (d := j)
  rw [wrap_i64 (by omega) (by omega), intA_rem (by decide), nth_s h.nx.1]
 by_cases hjd : j = d
 ·subst hjd
  have hno : lookA .nilptr (.map m) (.d (.int .i64 (nth nx j))) false (G.set k (aObj (nth nx j) m)) = some .nilptr := by
   simp only [lookA, m1', findE_kv_no 0 m2 (show nth nx j ∉ (L.map Rq.kv).map (·.1) by rw [kv_fst]; exact d1), Bool.false_eq_true, if_false]
  simp only [List.getD_cons_succ, List.getD_cons_zero, nilCk_ptr, ti73_f1, ti73_f2, getM_set, keyInt, hno, nilN_neq, hr, stoA_agg, stoA_get, stoM, setCells, and_self, true_and, Nat.le_refl, Nat.reduceLeDiff, List.cons_append, List.set_cons_zero, List.getElem?_cons_zero, go_sem]
  refine ⟨_, clone_c (by omega) hnl ⟨rfl, le_refl'⟩, ?_⟩
  obtain ⟨n, hn⟩ : ∃ n : Nat, pieces = (n : Int) := ⟨pieces.toNat, by omega⟩
  subst hn
  have hn8 : 1 ≤ n ∧ n ≤ 8 := by omega
  simp only [shl_eq (show n < 9 by omega), sub1 hn8, bd129_new, go_sem]
  refine box_open rfl fun p G2 hG2 hle2 hp => ?_
  obtain ⟨hpk, hpG⟩ := set_none.1 hp
  have hpH : H p = none := le_none hle hpG
  have g2k : G2 k = some (aObj (nth nx (j + 1)) m) := hle2 _ _ set_self
  have g2m : G2 m = some (.map es cl) := hle2 _ _ (by rw [set_ne (Ne.symm hkm)]; exact m1)
  have g2u := hle2 u _ (by rw [set_ne (Ne.symm hku)]; exact hG)
  have hpm : p ≠ m := fun he => by subst he; rw [g2m] at hG2; cases hG2
  have hpu : p ≠ u := fun he => by subst he; rw [hG] at hpG; cases hpG
  have hmu : muA Try.prog 3 (.map m) (.d (.int .i64 (nth nx j))) (.ptr p 0 0 0) G2 = some (.junk, [(m, .map (es ++ [⟨.int .i64 (nth nx j), .ptr p 0 0 0, cl⟩]) (cl + 1))]) := by
   simp only [muA, Try.underlying3, keyOk, decide_true, AV.storable, and_self, if_true, mapSetA, g2m, findE_kv_no 0 m2 (show nth nx j ∉ (L.map Rq.kv).map (·.1) by rw [kv_fst]; exact d1)]
  have hum : m ≠ u := fun he => by rw [he, g2u] at g2m; cases g2m
  simp only [nilCk_ptr, ti73_f2, getM_of g2k, hmu, go_sem]
  have hq := new_tl (p := p) (id := nth nx j) (nl := nl) (data := data) (once := once) (tries := tries) hn8.1
  refine send_c (x := ⟨nl, data, once, tries, 1, ((2 ^ n - 1 : Nat) : Int), 0, 0⟩) (T := T0) (p := p) (by rw [set_ne hpm]; exact hG2) (by show (0 : Int) ≤ 0 ∧ (0 : Int) < 1000; decide) (by show data.length < 2 ^ 40; omega) hnl ?_
  have ix5 : ∀ v : AV, [AV.ptr k 0 0 0, .d (.sl nl (bs data)), .d (.int .i64 (n : Int)), .d (.bool once), .d (.int .i64 tries), v].getD 5 .junk = v := fun _ => rfl
  simp only [getM_ne (Ne.symm hpu), getM_ne (Ne.symm hum), getM_of g2u, As.req, Tr.av, stoA_agg, stoA_get, stoM, setCells, and_self, true_and, Nat.le_refl, Nat.reduceLeDiff, List.cons_append, List.set_cons_zero, List.getElem?_cons_zero, go_sem]
  have hob : xObj ⟨nl, data, once, tries, 1, ((2 ^ n - 1 : Nat) : Int), 0 + 1, 0⟩ T0 = (Rq.new p (nth nx j) nl data once tries n).obj := by
   unfold Rq.obj; rw [hq]; rfl
  have hfk : nth (free L nx) 1 = nth nx (j + 1) := by rw [hfree]; unfold nth; omega
  -- the state, behind it
  have base : PA (G2.set p (Rq.new p (nth nx j) nl data once tries n).obj) k m (nth nx (j + 1)) L := by
   refine ⟨by rw [set_ne (Ne.symm hpk)]; exact g2k, ⟨es, cl, by rw [set_ne (Ne.symm hpm)]; exact g2m, m2, m3⟩, fun q hq => ?_, h.ids, h.ps, h.ok, h.len, nth_rng⟩
   have h1 := hG1.obj q hq
   have hqp : q.p ≠ p := fun he => by rw [he, hpG] at h1; cases h1
   rw [set_ne hqp]
   exact hle2 _ _ (by rw [set_ne fun he => by rw [he, hG1.asker] at h1; cases h1]; exact h1)
  have fin := base.add (q := Rq.new p (nth nx j) nl data once tries n) (by rw [set_ne (Ne.symm hpm)]; exact g2m) m2 m3 set_self d1 (fun hm => by
   obtain ⟨q, hq1, hq2⟩ := List.mem_map.1 hm
   have h1 := hG1.obj q hq1
   rw [show q.p = p from hq2, hpG] at h1; cases h1) (new_ok nth_rng hn8 good.2.2 good.1 hnl) hll
  have e5 : (((G2.set m (.map (es ++ [⟨.int .i64 (nth nx j), .ptr p 0 0 0, cl⟩]) (cl + 1))).set p (xObj ⟨nl, data, once, tries, 1, ((2 ^ n - 1 : Nat) : Int), 0 + 1, 0⟩ T0))) = (G2.set p (Rq.new p (nth nx j) nl data once tries n).obj).set m (.map (es ++ [⟨.int .i64 (nth nx j), .ptr p 0 0 0, cl⟩]) (cl + 1)) := by
   rw [hob]
   funext x
   by_cases hx : x = p
   ·subst hx; rw [set_self, set_ne hpm, set_self]
   ·rw [set_ne hx]
    by_cases hxm : x = m
    ·subst hxm; rw [set_self, set_self]
    ·rw [set_ne hxm, set_ne hxm, set_ne hx]
  have frG : Fr SP H G2 := ((Fr.of_le hle).put hG1.asker (by simp [osz])).le_right hle2
  have := hk good hll p
  rw [hfk, hfree, Int.toNat_natCast] at this
  refine ⟨_, le_refl', this _ ?_ ?_⟩
  ·rw [e5]
   refine fin.fr (S := [9]) (Fr.refl.put (o := .mem 0 0 8 [zt]) ?_ (by simp [osz])) (by decide)
   rw [set_ne (Ne.symm hum), set_ne (Ne.symm hpu)]; exact g2u
  ·exact (((frG.put g2m (by simp [osz])).own hpH).own hu)
 ·have hin := d2 j (by omega)
  obtain ⟨q, hq1, hq2⟩ := List.mem_map.1 hin
  obtain ⟨i, hi⟩ := List.getElem?_of_mem hq1
  have hlk : lookA .nilptr (.map m) (.d (.int .i64 (nth nx j))) false (G.set k (aObj (nth nx j) m)) = some (.ptr q.p 0 0 0) := by
   simp only [lookA, m1', findE_kv (k := nth nx j) (v := .ptr q.p 0 0 0) 0 i m2 (by rw [kv_fst]; exact h.ids) (by rw [← hq2, List.getElem?_map, hi]; rfl), Bool.false_eq_true, if_false]
  have hX' := hX (d - (j + 1)) _ _ (by omega) ⟨j + 1, by omega, rfl, rfl, rfl⟩
  simp only [List.getD_cons_succ, List.getD_cons_zero, nilCk_ptr, ti73_f1, ti73_f2, getM_set, keyInt, hlk, nilP_neq, hr, stoA_agg, stoA_get, stoM, setCells, and_self, true_and, Nat.le_refl, Nat.reduceLeDiff, List.cons_append, List.set_cons_zero, List.getElem?_cons_zero, go_sem]
  exact hX'
end
end Go.Proofs.Ytofjhihigmimbaa
namespace Go.Proofs.Ytofjhihigmimbaa
open Go Go.AM Go.Proofs
abbrev Tr.dats (t : Tr) : List Dat := [.int .i64 t.kind, .int .i64 t.id, .int .i64 t.bits, .int .i64 t.seq, .bool t.once, .bool t.fin, .bool t.ask, .sl t.nl (bs t.data)]
def rel (id : Int) : Tr := ⟨2, id, 0, 0, false, false, false, true, []⟩
def Rq.took (q : Rq) (t : Tr) : Rq := if q.state = 1 then (if (q.piece t).b ≠ 0 then (if t.ask = true ∧ (q.piece t).sent < (q.piece t).tries then { q.piece t with sent := (q.piece t).sent + 1, ticks := 0 } else q.piece t) else { q.piece t with state := 2 }) else q
def Rq.outs (f : Rq → Tr) (q : Rq) (t : Tr) : List Tr := if q.state = 1 then (if (q.piece t).b ≠ 0 then (if t.ask = true ∧ (q.piece t).sent < (q.piece t).tries then [f (q.piece t)] else []) else if q.once then [rel q.id] else []) else if q.once then [rel q.id] else []
theorem piece_same (q : Rq) (t : Tr) : (q.piece t).id = q.id ∧ (q.piece t).p = q.p ∧ (q.piece t).state = q.state ∧ (q.piece t).once = q.once ∧ (q.piece t).tries = q.tries ∧ (q.piece t).sent = q.sent ∧ (q.piece t).ticks = q.ticks ∧ (q.piece t).data = q.data ∧ (q.piece t).nl = q.nl := by
 unfold Rq.piece Rq.got Rq.fin
 dsimp only
 split <;> split <;> exact ⟨rfl, rfl, rfl, rfl, rfl, rfl, rfl, rfl, rfl⟩
theorem set_get {α : Type} {l : List α} {k j : Nat} {x y : α} (h : (l.set k x)[j]? = some y) : (j = k ∧ y = x) ∨ (j ≠ k ∧ l[j]? = some y) := by
 by_cases hj : k = j
 ·subst hj
  rw [List.getElem?_set_self'] at h
  cases hl : l[k]? with
  | none => rw [hl] at h; cases h
  | some z => rw [hl] at h; simp at h; exact .inl ⟨rfl, h.symm⟩
 ·rw [List.getElem?_set_ne hj] at h
  exact .inr ⟨Ne.symm hj, h⟩
theorem got_ok {q : Rq} (ok : q.Ok) (h1 : q.state = 1) {k : Nat} {nl : Bool} {d : List UInt8} (hd : d.length ≤ 64) (hnl : nl = true → d = []) : (q.got k nl d).Ok := by
 unfold Rq.got
 split
 ·rename_i hb
  refine ⟨ok.id, ok.state, ok.tries, ok.sent, ok.ticks, ok.last, clr_lt ok.b, by simp [ok.T], by simp [ok.P], ok.data, ok.nl, fun j x y hh hx hy => ?_, fun x hx => ?_, fun h2 => ?_⟩
  ·rcases set_get hx with ⟨hj, rfl⟩ | ⟨hj, hx⟩
   ·rcases set_get hy with ⟨_, rfl⟩ | ⟨hj', _⟩
    ·rfl
    ·exact absurd hj hj'
   ·rcases set_get hy with ⟨hj', _⟩ | ⟨_, hy⟩
    ·exact absurd hj' hj
    ·refine ok.pcs j x y ?_ hx hy
     simp only [Rq.has, clr_bit] at hh ⊢
     simpa [hj] using hh
  ·rcases List.mem_append.1 hx with hx | hx
   ·rcases List.mem_or_eq_of_mem_set hx with h3 | h3
    ·exact ok.fl x (List.mem_append_left _ h3)
    ·rw [h3]; exact ⟨hnl, hd⟩
   ·rcases List.mem_or_eq_of_mem_set hx with h3 | h3
    ·exact ok.fl x (List.mem_append_right _ h3)
    ·rw [h3]; exact ⟨fun h => by simp at h, hd⟩
  ·simp only [h1] at h2; exact absurd h2 (by decide)
 ·exact ok
theorem fin_ok {q : Rq} (ok : q.Ok) (h1 : q.state = 1) {s : Nat} : (q.fin s).Ok := by
 unfold Rq.fin
 refine ⟨ok.id, ok.state, ok.tries, ok.sent, ok.ticks, by have := ok.last; simp only; omega, ?_, cutT_len, ok.P, ok.data, ok.nl, fun j x y hh hx hy => ?_, fun x hx => ?_, fun h2 => ?_⟩
 ·show q.b % 2 ^ (s + 1) < 2 ^ (min q.last s + 1)
  rcases Nat.le_total q.last s with h | h
  ·rw [Nat.min_eq_left h]; exact Nat.lt_of_le_of_lt (Nat.mod_le _ _) ok.b
  ·rw [Nat.min_eq_right h]; exact Nat.mod_lt _ (Nat.pow_pos (by decide))
 ·have hs : j ≤ min q.last s := by simp only [Rq.has, Bool.and_eq_true, decide_eq_true_eq] at hh; exact hh.1
  have hq : q.has j = true := by
   simp only [Rq.has, Bool.and_eq_true, decide_eq_true_eq, Bool.not_eq_true', Nat.testBit_mod_two_pow] at hh ⊢
   refine ⟨by omega, ?_⟩
   have h3 := hh.2
   have : j < s + 1 := by omega
   simpa [this] using h3
  have hj : j < 8 := by have := ok.last; omega
  have h3 : ¬ (s < j ∧ j < 8) := by omega
  have hT : (cutT q.T s 8)[j]? = some (q.T.getD j (true, [])) := by
   have h4 : ¬ s < j := by omega
   simp [cutT, hj, h4]
  rw [hT] at hx
  have hj8 : j < q.T.length := by rw [ok.T]; exact hj
  refine ok.pcs j x y hq ?_ hy
  rw [← hx, List.getD_eq_getElem?_getD, List.getElem?_eq_getElem hj8]; rfl
 ·rcases List.mem_append.1 hx with hx | hx
  ·simp only [cutT, List.mem_map, List.mem_range] at hx
   obtain ⟨j, hj, rfl⟩ := hx
   split
   ·simp
   ·have hj8 : j < q.T.length := by rw [ok.T]; exact hj
    rw [List.getD_eq_getElem?_getD, List.getElem?_eq_getElem hj8]
    exact ok.fl _ (List.mem_append_left _ (List.getElem_mem hj8))
  ·exact ok.fl x (List.mem_append_right _ hx)
 ·simp only [h1] at h2; exact absurd h2 (by decide)
theorem piece_ok {q : Rq} (ok : q.Ok) (h1 : q.state = 1) {t : Tr} (hd : t.data.length ≤ 64) (hnl : t.nl = true → t.data = []) : (q.piece t).Ok := by
 have hg := got_ok ok h1 (k := t.seq.toNat) hd hnl
 have hg1 : (q.got t.seq.toNat t.nl t.data).state = 1 := by unfold Rq.got; split <;> exact h1
 unfold Rq.piece
 dsimp only
 split
 ·exact fin_ok hg hg1
 ·exact hg
theorem took_ok {q : Rq} (ok : q.Ok) {t : Tr} (hd : t.data.length ≤ 64) (hnl : t.nl = true → t.data = []) : (q.took t).Ok := by
 unfold Rq.took
 split
 ·rename_i h1
  have hp := piece_ok ok h1 hd hnl
  obtain ⟨_, _, e3, _⟩ := piece_same q t
  split
  ·split
   ·rename_i hs
    exact ⟨hp.id, hp.state, hp.tries, ⟨by have := hp.sent; show 0 ≤ (q.piece t).sent + 1; omega, by have := hs.2; show (q.piece t).sent + 1 ≤ (q.piece t).tries; omega⟩, fun _ => ⟨by show (0 : Int) ≤ 0; decide, by show (0 : Int) ≤ 2; decide⟩, hp.last, hp.b, hp.T, hp.P, hp.data, hp.nl, hp.pcs, hp.fl, hp.done⟩
   ·exact hp
  ·rename_i hb
   exact ⟨hp.id, .inr (.inl rfl), hp.tries, hp.sent, fun h => by simp at h, hp.last, hp.b, hp.T, hp.P, hp.data, hp.nl, hp.pcs, hp.fl, fun _ => by simpa using hb⟩
 ·exact ok
theorem took_same (q : Rq) (t : Tr) : (q.took t).id = q.id ∧ (q.took t).p = q.p ∧ (q.took t).once = q.once := by
 obtain ⟨e1, e2, e3, e4, _⟩ := piece_same q t
 unfold Rq.took
 split
 ·split
  ·split
   ·exact ⟨e1, e2, e4⟩
   ·exact ⟨e1, e2, e4⟩
  ·exact ⟨e1, e2, e4⟩
 ·exact ⟨rfl, rfl, rfl⟩
theorem bd24_rel {a : Dat} {H : AHeap} : bdA Try.prog ti24 [0, 1] [.d (.int .i64 2), .d a] H = some (.agg [.d (.int .i64 2), .d a, .d (.int .i64 0), .d (.int .i64 0), .d (.bool false), .d (.bool false), .d (.bool false), .d (.sl true [])], []) := by
 simp only [bdA, bd24, cell3, cell4, cell22, fillA, setCells, List.zip_cons_cons, List.zip_nil_right, Option.map_some, Nat.reduceLeDiff, List.cons_append, go_sem]
theorem bs24_1 {a b c d e f g h : Dat} {H : AHeap} {n : Nat} : bsA ti24 1 [0] [.agg [.d a, .d b, .d c, .d d, .d e, .d f, .d g, .d h]] H n = some (.lit [[a, b, c, d, e, f, g, h]], []) := rfl
section
variable {H G : AHeap} {k m : Nat} {nx : Int} {L : List Rq} {K : AV → AHeap → Prop}
set_option maxHeartbeats 1000000 in
theorem ptake_c (h : PA H k m nx L) {t : Tr} (hnl : t.nl = true → t.data = [])
  (h0 : ¬ t.Valid → K (.tup [.d (.sl true []), .d (.int .i64 2)]) H)
  (h1 : t.Valid → (t.kind = 1 → ∀ (i : Nat) (q : Rq), L[i]? = some q → q.id = t.id → q.state = 3) → K (.tup [.d (.sl true []), .d (.int .i64 0)]) H)
  (h2 : t.Valid → t.kind = 1 → ∀ (i : Nat) (q : Rq), L[i]? = some q → q.id = t.id → q.state ≠ 3 → ∀ nl H', (nl = true → q.outs Rq.reqP t = []) → PA H' k m nx (L.set i (q.took t)) → Fr SP H H' → K (.tup [.d (.sl nl ((q.outs Rq.reqP t).map Tr.dats)), .d (.int .i64 0)]) H') :
  CallsA Try.prog 31 [.ptr k 0 0 0, t.av] H K := by
 apply C31
 unfold S31
 refine box_open rfl fun u G hG hle hu => ?_
 have hG1 := h.le hle
 simp only [frzLK_ptr, frzLK_nil]
 refine hG1.none ?_
 have hG : G u = some (.mem 0 0 8 [t.cells]) := hG
 simp only [Tr.cells] at hG
 simp only [getM_of hG, go_sem]
 refine valid_c (t := t) ?_
 by_cases hv' : ¬ t.Valid
 ·have hv := hv'
  simp only [hv, decide_false, Bool.not_false, go_sem]
  exact ⟨H, hle, h0 hv⟩
 have hv : t.Valid := Decidable.not_not.1 hv'
 have h64 : t.data.length ≤ 64 := by have := hv.2.1; omega
 have end0 : (t.kind = 1 → ∀ (i : Nat) (q : Rq), L[i]? = some q → q.id = t.id → q.state = 3) → finA (.tup [.d (.sl true []), .d (.int .i64 0)]) G K := fun hh => ⟨H, hle, h1 hv hh⟩
 rcases (id_cases L t.id).symm with hn | ⟨i, q, hi, hid⟩
 ·have hlk := hG1.look_no hn
  simp only [hv, decide_true, Bool.not_true, nilCk_ptr, ti73_f2, ti24_f0, ti24_f1, getM_of hG, getM_of hG1.asker, keyInt, hlk, nilN_eql, go_sem]
  refine ite_of (fun hk => end0 fun h1 => absurd h1 hk) fun hk => ?_
  exact end0 fun _ j x hj hx => absurd (List.mem_map.2 ⟨x, List.mem_of_getElem? hj, hx⟩) hn
 have hlk := hG1.look hi
 rw [hid] at hlk
 have ok := h.ok q (List.mem_of_getElem? hi)
 have ho : G q.p = some (.mem 0 0 23 [q.as.cells q.tl]) := hG1.obj q (List.mem_of_getElem? hi)
 have s1 : q.as.state = q.state := rfl
 have s2 : q.as.once = q.once := rfl
 have hpu : q.p ≠ u := le_ne (h.obj q (List.mem_of_getElem? hi)) hu
 have uniq : ∀ (j : Nat) (x : Rq), L[j]? = some x → x.id = t.id → x = q := fun j x hj hx => ((id_eq h.ids hi hj (hid.trans hx.symm)).2).symm
 simp only [hv, decide_true, Bool.not_true, nilCk_ptr, ti73_f2, ti129_f3, ti24_f0, ti24_f1, getM_of hG, getM_of hG1.asker, getM_of ho, As.cells, s1, keyInt, hlk, nilP_eql, go_sem]
 refine ite_of (fun hk => end0 fun h1 => absurd h1 hk) fun hk => ?_
 have hkind : t.kind = 1 := by simpa using hk
 refine ite_of (fun h3 => end0 fun _ j x hj hx => by rw [uniq j x hj hx]; exact h3) fun h3 => ?_
 have fin := h2 hv hkind i q hi hid h3
 have hseq : 0 ≤ t.seq ∧ t.seq ≤ 7 := by have := hv.2.2; omega
 have relr : q.once = true → q.id = t.id → (rel q.id).dats = [.int .i64 2, .int .i64 t.id, .int .i64 0, .int .i64 0, .bool false, .bool false, .bool false, .sl true []] := fun _ h => by simp only [Tr.dats, rel, h, bs_nil]
 by_cases hst : q.state = 1
 ·rw [if_pos hst]
  try simp only [getM_of hG, go_sem]
  refine atake_c ok (hG1.obj q (List.mem_of_getElem? hi)) hseq (by omega) hnl ?_
  obtain ⟨e1, e2, e3, e4, e5, e6, e7, e8, e9⟩ := piece_same q t
  have pok := piece_ok ok hst h64 hnl
  have hP := hG1.upd hi (q' := q.piece t) e2 e1 pok
  have ho2 : (G.set q.p (q.piece t).obj) q.p = some (.mem 0 0 23 [(q.piece t).as.cells (q.piece t).tl]) := set_self
  have hu2 : (G.set q.p (q.piece t).obj) u = some (.mem 0 0 8 [[.d (.int .i64 t.kind), .d (.int .i64 t.id), .d (.int .i64 t.bits), .d (.int .i64 t.seq), .d (.bool t.once), .d (.bool t.fin), .d (.bool t.ask), .d (.sl t.nl (bs t.data))]]) := by rw [set_ne (Ne.symm hpu)]; exact hG
  have s3 : (q.piece t).as.bits = ((q.piece t).b : Int) := rfl
  have s4 : (q.piece t).as.sent = (q.piece t).sent := rfl
  have s5 : (q.piece t).as.tries = (q.piece t).tries := rfl
  have s6 : (q.piece t).as.once = q.once := e4
  have frP : Fr SP H (G.set q.p (q.piece t).obj) := (Fr.of_le hle).put (hG1.obj q (List.mem_of_getElem? hi)) (by simp [osz, Rq.obj])
  simp only [nilCk_ptr, ti129_f1, ti129_f2, ti129_f3, ti129_f4, ti129_f5, ti24_f1, ti24_f6, getM_of ho2, getM_of hu2, As.cells, s3, s4, s5, s6, go_sem]
  by_cases hb : (q.piece t).b = 0
  ·rw [if_neg (by omega)]
   have htk : q.took t = { q.piece t with state := 2 } := by unfold Rq.took; rw [if_pos hst, if_neg (by simp [hb])]
   have hou : q.outs Rq.reqP t = if q.once then [rel q.id] else [] := by unfold Rq.outs; rw [if_pos hst, if_neg (by simp [hb])]
   have hT := hG1.upd hi (q' := q.took t) (took_same q t).2.1 (took_same q t).1 (took_ok ok h64 hnl)
   have frT : Fr SP H (G.set q.p (q.took t).obj) := (Fr.of_le hle).put (hG1.obj q (List.mem_of_getElem? hi)) (by simp [osz, Rq.obj])
   have hobj : (q.took t).obj = .mem 0 0 23 [{ (q.piece t).as with state := 2 }.cells (q.piece t).tl] := by rw [htk]; rfl
   rw [hobj] at hT frT
   simp only [As.cells] at hT frT
   simp only [s3, s4, s5, s6, getM_of ho2, As.cells, stoA_agg, stoA_get, stoM, setCells, and_self, true_and, Nat.le_refl, Nat.reduceLeDiff, List.cons_append, List.set_cons_zero, List.getElem?_cons_zero, go_sem]
   simp only [s3, s4, s5, s6] at hT frT
   have hu3 := (show (G.set q.p (.mem 0 0 23 [(AV.d (Dat.sl (q.piece t).as.nl (bs (q.piece t).as.data)) :: AV.d (Dat.bool q.once) :: AV.d (Dat.int IntKind.i64 (q.piece t).tries) :: AV.d (Dat.int IntKind.i64 2) :: AV.d (Dat.int IntKind.i64 ↑(q.piece t).b) :: AV.d (Dat.int IntKind.i64 (q.piece t).sent) :: AV.d (Dat.int IntKind.i64 (q.piece t).as.ticks) :: (q.piece t).tl)])) u = G u from set_ne (Ne.symm hpu)).trans hG
   cases ho : q.once with
   | true =>
    rw [hou, ho] at fin
    simp only [ho, getM_ne (Ne.symm hpu), getM_of hG, bd24_rel, bs24_1, newK_iff, go_sem]
    intro n hn
    try simp only [go_sem]
    have := fin false _ (fun h => by simp at h) (by simpa only [ho] using hT) (by simpa only [ho] using frT)
    simp only [List.map_cons, List.map_nil, if_true, relr ho hid] at this
    exact ⟨_, le_refl', this⟩
   | false =>
    rw [hou, ho] at fin
    simp only [ho, go_sem]
    exact ⟨_, le_refl', fin true _ (fun _ => rfl) (by simpa only [ho] using hT) (by simpa only [ho] using frT)⟩
  ·rw [if_pos (by omega)]
   have same : ¬ (t.ask = true ∧ (q.piece t).sent < (q.piece t).tries) → finA (.tup [.d (.sl true []), .d (.int .i64 0)]) (G.set q.p (q.piece t).obj) K := fun hn => by
    have htk : q.took t = q.piece t := by unfold Rq.took; rw [if_pos hst, if_pos hb, if_neg hn]
    have hou : q.outs Rq.reqP t = [] := by unfold Rq.outs; rw [if_pos hst, if_pos hb, if_neg hn]
    rw [htk, hou] at fin
    exact ⟨_, le_refl', fin true _ (fun _ => rfl) hP frP⟩
   cases ha : t.ask with
   | false =>
    simp only [go_sem]
    exact same (by simp [ha])
   | true =>
    simp only [go_sem]
    refine ite_of (fun hlt => ?_) fun hlt => same (by simp [ha, hlt])
    have htk : q.took t = { q.piece t with sent := (q.piece t).sent + 1, ticks := 0 } := by unfold Rq.took; rw [if_pos hst, if_pos hb, if_pos ⟨ha, hlt⟩]
    have hou : q.outs Rq.reqP t = [(q.piece t).reqP] := by unfold Rq.outs; rw [if_pos hst, if_pos hb, if_pos ⟨ha, hlt⟩]
    rw [hou] at fin
    have hsr := pok.sent
    have htr := pok.tries
    refine send_c (x := (q.piece t).as) (T := (q.piece t).tl) set_self ⟨by rw [s4]; exact hsr.1, by rw [s4]; omega⟩ (by show (q.piece t).data.length < 2 ^ 40; have := pok.data; omega) pok.nl ?_
    simp only [As.req, Tr.av, Tr.cells, bs24_1, newK_iff, set_set, go_sem]
    intro n hn
    try simp only [go_sem]
    have hT := hG1.upd hi (q' := q.took t) (took_same q t).2.1 (took_same q t).1 (took_ok ok h64 hnl)
    have frT : Fr SP H (G.set q.p (q.took t).obj) := (Fr.of_le hle).put (hG1.obj q (List.mem_of_getElem? hi)) (by simp [osz, Rq.obj])
    have := fin false _ (fun h => by simp at h) hT frT
    have hobj : (q.took t).obj = xObj { (q.piece t).as with sent := (q.piece t).as.sent + 1, ticks := 0 } (q.piece t).tl := by rw [htk]; rfl
    rw [hobj] at this
    refine ⟨_, le_refl', ?_⟩
    have e : [(q.piece t).reqP].map Tr.dats = [[.int .i64 0, .int .i64 t.id, .int .i64 (q.piece t).as.bits, .int .i64 0, .bool (q.piece t).as.once, .bool false, .bool false, .sl (q.piece t).as.nl (bs (q.piece t).as.data)]] := by
     simp only [List.map_cons, List.map_nil, Rq.reqP, As.req, Tr.dats, e1, hid]
    rw [e] at this
    exact this
 ·rw [if_neg hst]
  have htk : q.took t = q := by unfold Rq.took; rw [if_neg hst]
  have hou : q.outs Rq.reqP t = if q.once then [rel q.id] else [] := by unfold Rq.outs; rw [if_neg hst]
  rw [htk, set_same hi] at fin
  simp only [nilCk_ptr, ti129_f1, getM_of ho, As.cells, s2, go_sem]
  cases hon : q.once with
  | true =>
   rw [hou, hon] at fin
   simp only [ti24_f1, getM_of hG, bd24_rel, bs24_1, newK_iff, go_sem]
   intro n hn
   try simp only [go_sem]
   have := fin false _ (fun h => by simp at h) hG1 (Fr.of_le hle)
   simp only [List.map_cons, List.map_nil, if_true, relr hon hid] at this
   exact ⟨_, le_refl', this⟩
  | false =>
   rw [hou, hon] at fin
   simp only [go_sem]
   exact ⟨_, le_refl', fin true _ (fun _ => rfl) hG1 (Fr.of_le hle)⟩
end
end Go.Proofs.Ytofjhihigmimbaa
namespace Go.Proofs.Ytofjhihigmimbaa
open Go Go.AM Go.Proofs
def Rq.rowsP (q : Rq) (j : Nat) : List (List Dat) := ((List.range j).filter q.has).map fun k => [.sl (q.T.getD k (true, [])).1 (bs (q.T.getD k (true, [])).2)]
theorem rowsP_s {q : Rq} {j : Nat} : q.rowsP (j + 1) = if q.has j then q.rowsP j ++ [[.sl (q.T.getD j (true, [])).1 (bs (q.T.getD j (true, [])).2)]] else q.rowsP j := by
 unfold Rq.rowsP
 rw [List.range_succ, List.filter_append, List.map_append]
 cases h : q.has j <;> simp [h]
theorem rowsP_len {q : Rq} {j : Nat} : (q.rowsP j).length ≤ j := by
 unfold Rq.rowsP
 rw [List.length_map]
 exact Nat.le_trans (List.length_filter_le _ _) (by simp)
theorem bs22_x {x : Dat} {H : AHeap} {n : Nat} : bsA ti22 1 [0] [.d x] H n = some (.lit [[x]], []) := rfl
theorem elemsA_1 {c : List Dat} {H : AHeap} : elemsA (.lit [c]) H = some (avs [c]) := rfl
theorem bl8_ix {f : Nat → Bool} {k : Nat} (h : k < 8) : indexA ti108 ti4 (.agg ((bl8 f).map AV.d)) (.d (.int .i64 (k : Int))) = some (.d (.bool (f k))) := by
 have h1 : (k : Int) < 8 := by omega
 have h2 : ((bl8 f).map AV.d)[k]? = some (.d (.bool (f k))) := by rw [List.getElem?_map, bl8_get h]; rfl
 have h3 : (0 : Int) ≤ (k : Int) ∧ (k : Int) < (8 : Nat) := ⟨by omega, by omega⟩
 simp only [indexA, ti108, ti4, h3, and_self, if_true, Int.toNat_natCast, Nat.mul_one]
 exact ld1 h2
section
variable {H G : AHeap} {k m : Nat} {nx : Int} {L : List Rq} {K : AV → AHeap → Prop}
theorem PA.get (h : PA H k m nx L) {i : Nat} {q : Rq} (hi : L[i]? = some q) : H q.p = some (.mem 0 0 23 [q.as.cells q.tl]) := h.obj q (List.mem_of_getElem? hi)
theorem ppieces_c (h : PA H k m nx L) {id : Int} (h1 : ∀ (i : Nat) (q : Rq), L[i]? = some q → q.id = id → q.state = 2 → ∀ nl H', (nl = true → q.rowsP 8 = []) → AHeap.le H H' → K (.tup [.d (.sl nl (q.rowsP 8)), .d (.int .i64 0)]) H')
  (h2 : (∀ (i : Nat) (q : Rq), L[i]? = some q → q.id = id → q.state ≠ 2) → K (.tup [.d (.sl true []), .d (.int .i64 5)]) H) : CallsA Try.prog 33 [.ptr k 0 0 0, .d (.int .i64 id)] H K := by
 apply C33
 unfold S33
 simp only [frzLK_ptr, frzLK_nil]
 refine h.none ?_
 simp only [go_sem]
 refine pstate_c h (fun i q hi hid => ?_) fun hn => by
  simp only [Int.reduceEq, Int.reduceNe, Int.reduceLT, Int.reduceLE, not_true_eq_false, not_false_eq_true, decide_true, decide_false, Int.reduceAdd, Int.reduceSub, Int.reduceMul, go_sem]
  exact ⟨H, le_refl', h2 fun i q hi hid => absurd (List.mem_map.2 ⟨q, List.mem_of_getElem? hi, hid⟩) hn⟩
 have ok := h.ok q (List.mem_of_getElem? hi)
 simp only [go_sem]
 refine ite_of (fun hs => ⟨H, le_refl', h2 fun j x hj hx => by rw [(id_eq h.ids hj hi (hx.trans hid.symm)).2]; exact hs⟩) fun hs => ?_
 have hs2 : q.state = 2 := by simpa using hs
 have hlk := h.look hi
 rw [hid] at hlk
 have hag : ∀ G : AHeap, G q.p = some (.mem 0 0 23 [q.as.cells q.tl]) → ldV true 8 (.ptr q.p 0 0 15) G = some (.agg ((bl8 q.has).map AV.d)) := fun G hG => by
  have e : ((q.as.cells q.tl).drop 15).take 8 = (bl8 q.has).map AV.d := by
   show (q.tl.drop 8).take 8 = _
   unfold Rq.tl
   rw [List.map_append, List.drop_left' (by rw [List.length_map, sl8_len, ok.T]), List.take_of_length_le (by rw [List.length_map, bl8_len]; exact Nat.le_refl _)]
  simp only [ldV, hG, if_true, List.getElem?_cons_zero, partV, e, List.length_map, bl8_len]
 have hm2 : ldV false 1 (.ptr k 0 0 2) H = some (.map m) := ldV_at h.asker rfl rfl
 simp only [nilCk_ptr, ti73_f2, ti129_f8, Nat.zero_add, optA_some, hm2, keyInt, hlk, hag H (h.get hi)]
 refine loop_ind (fun n vs G => ∃ (j : Nat) (v : AV), j ≤ 8 ∧ n = 8 - j ∧ vs = [v, .ptr q.p 0 0 0, .agg ((bl8 q.has).map AV.d), .d (.int .i64 (j : Int))] ∧ Ml [] H 1 G v (q.rowsP j)) (n := 8) ⟨0, _, by omega, rfl, rfl, Ml.nil Fr.refl⟩ ?_
 rintro X n vs G ⟨j, v, hj, rfl, rfl, hv⟩ hX
 have hf := hv.fr
 by_cases hj8 : j = 8
 ·subst hj8
  simp only [List.getD_cons_succ, List.getD_cons_zero, Int.reduceEq, Int.reduceNe, Int.reduceLT, Int.reduceLE, not_true_eq_false, not_false_eq_true, decide_true, decide_false, Int.reduceAdd, Int.reduceSub, Int.reduceMul, go_sem]
  rw [if_neg (by decide)]
  exact hv.ret2 fun nl H' e1 e2 _ => h1 i q hi hid hs2 nl H' e1 e2.le
 ·have hX' := fun (v : AV) (G' : AHeap) (hv : Ml [] H 1 G' v (q.rowsP (j + 1))) => hX (8 - (j + 1)) _ G' (by omega) ⟨j + 1, v, by omega, rfl, rfl, hv⟩
  have hlt : (j : Int) < 8 := by omega
  have hw : IntKind.i64.wrap ((j : Int) + 1) = ((j + 1 : Nat) : Int) := by rw [wrap_i64 (by omega) (by omega)]; omega
  rw [rowsP_s] at hX'
  have hpq := (h.fr hf (by decide)).get hi
  have ix1 : indexAddrA ti109 1 (.ptr q.p 0 0 7) (.d (.int .i64 (j : Int))) = some (.ptr q.p 0 0 (7 + j)) := by rw [ixArr (m := 8) (et := 22) rfl (by omega) (by omega)]; simp
  simp only [List.getD_cons_succ, List.getD_cons_zero, hlt, if_true, bl8_ix (show j < 8 by omega), go_sem]
  cases hb : q.has j with
  | false =>
   simp only [hb, Bool.false_eq_true, if_false] at hX'
   simp only [hw, go_sem]
   exact hX' v G hv
  | true =>
   simp only [hb, if_true] at hX'
   obtain ⟨x, hx⟩ : ∃ x, q.T[j]? = some x := ⟨_, List.getElem?_eq_getElem (by rw [ok.T]; omega)⟩
   have hxd : q.T.getD j (true, []) = x := by rw [List.getD_eq_getElem?_getD, hx]; rfl
   have hfl := ok.fl x (List.mem_append_left _ (List.mem_of_getElem? hx))
   have hld : ldV false 1 (.ptr q.p 0 0 (7 + j)) G = some (.d (.sl x.1 (bs x.2))) := ldV_at hpq rfl (by
    rw [as_at]
    unfold Rq.tl
    rw [List.map_append, List.getElem?_append_left (by rw [List.length_map, sl8_len, ok.T]; omega), List.getElem?_map, sl8_get hx]; rfl)
   simp only [nilCk_ptr, ti129_f7, ix1, optA_some]
   rw [hld]
   simp only [go_sem]
   refine clone_c (by omega) hfl.1 ?_
   simp only [bs22_x, newK_iff, go_sem]
   intro _ _
   rw [hxd] at hX'
   have hlen := rowsP_len (q := q) (j := j)
   refine hv.app elemsA_1 (by decide) (by decide) (by simp) (by simp [mostBytes]; omega) fun v' G' hv' _ _ => ?_
   simp only [hw, go_sem]
   exact hX' v' G' hv'
def Rq.tk (q : Rq) : Rq := if q.state = 1 then (if q.ticks + 1 < 3 then { q with ticks := q.ticks + 1 } else if q.sent < q.tries then { q with ticks := 0, sent := q.sent + 1 } else { q with ticks := q.ticks + 1, state := 3 }) else q
def Rq.tkO (f : Rq → Tr) (q : Rq) : List Tr := if q.state = 1 ∧ ¬ q.ticks + 1 < 3 ∧ q.sent < q.tries then [f q] else []
def srt (L : List Rq) : List Int := (L.map (·.id)).mergeSort fun x y => decide (x ≤ y)
def outOf (f : Rq → Tr) (L : List Rq) (id : Int) : List Tr := ((L.find? fun q => q.id == id).map (Rq.tkO f)).getD []
def tkL (L : List Rq) (D : List Int) : List Rq := L.map fun q => if q.id ∈ D then q.tk else q
def tkOs (f : Rq → Tr) (L : List Rq) (D : List Int) : List Tr := D.flatMap (outOf f L)
theorem tk_same (q : Rq) : q.tk.id = q.id ∧ q.tk.p = q.p := by
 unfold Rq.tk; split <;> (try split) <;> (try split) <;> exact ⟨rfl, rfl⟩
theorem tk_ok {q : Rq} (ok : q.Ok) : q.tk.Ok := by
 unfold Rq.tk
 split
 ·rename_i h1
  have ht := ok.ticks h1
  split
  ·exact ⟨ok.id, ok.state, ok.tries, ok.sent, fun _ => ⟨by show 0 ≤ q.ticks + 1; omega, by show q.ticks + 1 ≤ 2; omega⟩, ok.last, ok.b, ok.T, ok.P, ok.data, ok.nl, ok.pcs, ok.fl, ok.done⟩
  ·split
   ·have := ok.sent
    exact ⟨ok.id, ok.state, ok.tries, ⟨by show 0 ≤ q.sent + 1; omega, by show q.sent + 1 ≤ q.tries; omega⟩, fun _ => ⟨by show (0 : Int) ≤ 0; decide, by show (0 : Int) ≤ 2; decide⟩, ok.last, ok.b, ok.T, ok.P, ok.data, ok.nl, ok.pcs, ok.fl, ok.done⟩
   ·exact ⟨ok.id, .inr (.inr rfl), ok.tries, ok.sent, fun h => by exact absurd (show (3 : Int) = 1 from h) (by decide), ok.last, ok.b, ok.T, ok.P, ok.data, ok.nl, ok.pcs, ok.fl, fun h => by exact absurd (show (3 : Int) = 2 from h) (by decide)⟩
 ·exact ok
theorem srt_mem {L : List Rq} {id : Int} : id ∈ srt L ↔ id ∈ L.map (·.id) := by unfold srt; exact List.mem_mergeSort
theorem srt_len {L : List Rq} : (srt L).length = L.length := by unfold srt; rw [List.length_mergeSort, List.length_map]
theorem srt_nodup {L : List Rq} (h : (L.map (·.id)).Nodup) : (srt L).Nodup := by unfold srt; exact (List.mergeSort_perm _ _).nodup_iff.2 h
theorem find_id {L : List Rq} (hn : (L.map (·.id)).Nodup) {i : Nat} {q : Rq} (hi : L[i]? = some q) : L.find? (fun x => x.id == q.id) = some q := by
 cases hf : L.find? (fun x => x.id == q.id) with
 | none =>
  rw [List.find?_eq_none] at hf
  have := hf q (List.mem_of_getElem? hi)
  simp at this
 | some x =>
  have h1 := List.find?_some hf
  obtain ⟨j, hj⟩ := List.getElem?_of_mem (List.mem_of_find?_eq_some hf)
  simp only [beq_iff_eq] at h1
  rw [(id_eq hn hi hj h1.symm).2]
theorem tkL_step {L : List Rq} (hn : (L.map (·.id)).Nodup) {i : Nat} {q : Rq} (hi : L[i]? = some q) {D : List Int} (hd : q.id ∉ D) : (tkL L D)[i]? = some q ∧ (tkL L D).set i q.tk = tkL L (D ++ [q.id]) := by
 have h1 : (tkL L D)[i]? = some q := by unfold tkL; rw [List.getElem?_map, hi]; simp [hd]
 refine ⟨h1, List.ext_getElem? fun j => ?_⟩
 by_cases hij : i = j
 ·subst hij
  rw [List.getElem?_set_self (List.getElem?_eq_some_iff.1 h1).1]
  unfold tkL; rw [List.getElem?_map, hi]; simp
 ·rw [List.getElem?_set_ne hij]
  unfold tkL
  rw [List.getElem?_map, List.getElem?_map]
  cases hj : L[j]? with
  | none => rfl
  | some x =>
   have hne : x.id ≠ q.id := fun he => hij (id_eq hn hi hj he.symm).1
   simp [hne]
theorem tkL_nil {L : List Rq} : tkL L [] = L := by unfold tkL; simp
theorem tkL_all {L : List Rq} {D : List Int} (h : ∀ q ∈ L, q.id ∈ D) : tkL L D = L.map Rq.tk := by
 unfold tkL
 exact List.map_congr_left fun q hq => by simp [h q hq]
theorem tkOs_step {f : Rq → Tr} {L : List Rq} (hn : (L.map (·.id)).Nodup) {i : Nat} {q : Rq} (hi : L[i]? = some q) {D : List Int} : tkOs f L (D ++ [q.id]) = tkOs f L D ++ q.tkO f := by
 unfold tkOs outOf
 rw [List.flatMap_append]
 simp only [List.flatMap_cons, List.flatMap_nil, List.append_nil, find_id hn hi, Option.map_some, Option.getD_some]
theorem tkOs_len {f : Rq → Tr} {L : List Rq} : ∀ {D : List Int}, (tkOs f L D).length ≤ D.length
 | [] => Nat.le_refl _
 | x :: D => by
  have := tkOs_len (f := f) (L := L) (D := D)
  unfold tkOs at this ⊢
  rw [List.flatMap_cons, List.length_append, List.length_cons]
  have h1 : (outOf f L x).length ≤ 1 := by
   unfold outOf
   cases L.find? fun q => q.id == x with
   | none => simp
   | some q => simp only [Option.map_some, Option.getD_some, Rq.tkO]; split <;> simp
  omega
end
end Go.Proofs.Ytofjhihigmimbaa
namespace Go.Proofs.Ytofjhihigmimbaa
open Go Go.AM Go.Proofs
section
variable {H G : AHeap} {k m : Nat} {nx : Int} {L : List Rq} {K : AV → AHeap → Prop}
theorem kv_keys {es : List MEnt} (h : Kv es (L.map Rq.kv)) : es.map (·.key) = (L.map (·.id)).map (Dat.int .i64) := by
 have := congrArg (List.map (·.1)) h
 simpa [Rq.kv, Function.comp_def] using this
theorem wf_id {n : Int} (h : 0 ≤ n ∧ n ≤ 65535) : (Lit.int .i64 n).wf = true := by
 simp only [Lit.wf, Bool.and_eq_true, decide_eq_true_eq]
 exact ⟨Int.le_trans (by decide) h.1, Int.le_trans h.2 (by decide)⟩
theorem PA.keysOk (h : PA H k m nx L) : ∃ es cl, H m = some (.map es cl) ∧ KeysOk es cl (L.map (·.id)) := by
 obtain ⟨es, cl, h1, h2, h3⟩ := h.map
 refine ⟨es, cl, h1, kv_keys h2, h.ids, h3, by rw [List.length_map]; have := h.len; omega, fun x hx => ?_⟩
 obtain ⟨q, hq, rfl⟩ := List.mem_map.1 hx
 exact wf_id (h.ok q hq).id
theorem intsD_get {l : List Int} {j : Nat} {x : Int} (h : l[j]? = some x) : (intsD l)[j]? = some [.int .i64 x] := by simp [intsD, h]
theorem ix55_sl {nl : Bool} {l : List Int} {j : Nat} {x : Int} (h : l[j]? = some x) : indexAddrA ti55 1 (.d (.sl nl (intsD l))) (.d (.int .i64 (j : Int))) = some (.vptr [.int .i64 x] 0) := by
 simp only [indexAddrA, ti55, Int.natCast_nonneg, if_true, Int.toNat_natCast, intsD_get h, List.length_cons, List.length_nil, Nat.zero_add]
theorem set_x {H : AHeap} {p : Nat} {x : As} {T : List AV} {v : Int} (h : H p = some (xObj x T)) : stoA false 1 (.ptr p 0 0 6) (.d (.int .i64 v)) H = some (.junk, [(p, xObj { x with ticks := v } T)]) := by
 rw [stoA_at h (Nat.le_refl 0) rfl (by rw [as_len]; omega) rfl rfl]; rfl
theorem set_st {H : AHeap} {p : Nat} {x : As} {T : List AV} {v : Int} (h : H p = some (xObj x T)) : stoA false 1 (.ptr p 0 0 3) (.d (.int .i64 v)) H = some (.junk, [(p, xObj { x with state := v } T)]) := by
 rw [stoA_at h (Nat.le_refl 0) rfl (by rw [as_len]; omega) rfl rfl]; rfl
set_option maxHeartbeats 1000000 in
theorem ptick_c (h : PA H k m nx L) (hk : ∀ nl H', (nl = true → tkOs Rq.reqP L (srt L) = []) → PA H' k m nx (L.map Rq.tk) → Fr SP H H' → K (.tup [.d (.sl nl ((tkOs Rq.reqP L (srt L)).map Tr.dats)), .d (.int .i64 0)]) H') : CallsA Try.prog 32 [.ptr k 0 0 0] H K := by
 apply C32
 unfold S32
 simp only [frzLK_ptr, frzLK_nil]
 refine h.none ?_
 simp only [nilCk_ptr, ti73_f2, getM_of h.asker, go_sem]
 apply C72
 unfold S72
 refine box_open rfl fun u G hG hle hu => ?_
 simp only [go_sem]
 have hG1 := h.le hle
 obtain ⟨es, cl, m1, m2⟩ := hG1.keysOk
 refine ⟨G, le_refl', ?_⟩
 refine sorted_keys ⟨_, Try.func60, ne_of_beq_false (by kernel_rfl), rfl⟩ Try.underlying3 keysS96 hG m1 m2 ?_
 simp only [lenSl_d, optA_some]
 have hsl : (intsD ((L.map (·.id)).mergeSort fun x y => decide (x ≤ y))).length = L.length := by
  have := srt_len (L := L); unfold srt at this; simp only [intsD, List.length_map]; simpa using this
 rw [hsl]
 have hll := h.len
 refine loop_ind (fun n vs G' => ∃ (j : Nat) (v : AV), j ≤ L.length ∧ n = L.length - j ∧ vs = [.ptr k 0 0 0, v, .d (.sl (L.map (·.id)).isEmpty (intsD (srt L))), .d (.int .i64 (L.length : Int)), .d (.int .i64 (j : Int))] ∧ PA G' k m nx (tkL L ((srt L).take j)) ∧ Ml SP H 8 G' v ((tkOs Rq.reqP L ((srt L).take j)).map Tr.dats)) (n := L.length) ⟨0, _, Nat.zero_le _, rfl, rfl, by rw [List.take_zero, tkL_nil]; exact hG1, Ml.nil (Fr.of_le hle)⟩ ?_
 rintro X n vs G' ⟨j, v, hj, rfl, rfl, hP, hv⟩ hX
 by_cases hjl : j = L.length
 ·subst hjl
  simp only [List.getD_cons_succ, List.getD_cons_zero, Int.lt_irrefl, go_sem]
  have hall : (srt L).take L.length = srt L := List.take_of_length_le (by rw [srt_len]; exact Nat.le_refl _)
  rw [hall] at hP hv
  rw [tkL_all fun q hq => srt_mem.2 (List.mem_map.2 ⟨q, hq, rfl⟩)] at hP
  refine hv.ret2 fun nl H' e1 e2 e3 => hk nl H' (fun hn => by simpa using e1 hn) (hP.fr e3 (by decide)) e2
 ·obtain ⟨id, hid⟩ : ∃ id, (srt L)[j]? = some id := ⟨_, List.getElem?_eq_getElem (by rw [srt_len]; omega)⟩
  obtain ⟨q, hq, hqid⟩ := List.mem_map.1 (srt_mem.1 (List.mem_of_getElem? hid))
  obtain ⟨i, hi⟩ := List.getElem?_of_mem hq
  have htk : (srt L).take (j + 1) = (srt L).take j ++ [q.id] := by rw [List.take_add_one, hid, hqid]; rfl
  have hnd : q.id ∉ (srt L).take j := by
   intro hm
   have := srt_nodup h.ids
   obtain ⟨i2, hi2⟩ := List.getElem?_of_mem hm
   have hlt := (List.getElem?_eq_some_iff.1 hi2).1
   rw [List.getElem?_take_of_lt (by simp at hlt; omega)] at hi2
   have e := (List.getElem?_inj (by simp at hlt; omega) this).1 (hi2.trans (hqid ▸ hid.symm))
   simp at hlt; omega
  obtain ⟨hi1, hstep⟩ := tkL_step h.ids hi hnd
  have hout := tkOs_step (f := Rq.reqP) h.ids hi (D := (srt L).take j)
  have hX' := fun (v : AV) (G' : AHeap) (h1 : PA G' k m nx (tkL L ((srt L).take (j + 1)))) (h2 : Ml SP H 8 G' v ((tkOs Rq.reqP L ((srt L).take (j + 1))).map Tr.dats)) => hX (L.length - (j + 1)) _ G' (by omega) ⟨j + 1, v, by omega, rfl, rfl, h1, h2⟩
  rw [htk, hout, ← hstep] at hX'
  have hlt : (j : Int) < (L.length : Int) := by omega
  have hw : IntKind.i64.wrap ((j : Int) + 1) = ((j + 1 : Nat) : Int) := by rw [wrap_i64 (by omega) (by omega)]; omega
  have hlk := hP.look hi1
  have ho := hP.get hi1
  have ok := hP.ok q (List.mem_of_getElem? hi1)
  have s1 : q.as.state = q.state := rfl
  have s2 : q.as.ticks = q.ticks := rfl
  have s3 : q.as.sent = q.sent := rfl
  have s4 : q.as.tries = q.tries := rfl
  have hixs := ix55_sl (nl := (L.map (·.id)).isEmpty) hid
  rw [← hqid] at hixs
  have hupd := hP.upd hi1 (tk_same q).2 (tk_same q).1 (tk_ok ok)
  have hob : osz q.obj ∈ SP := by simp [osz, Rq.obj]
  simp only [List.getD_cons_succ, List.getD_cons_zero, hlt, if_true, hixs, nilCk_ptr, ti73_f2, ti129_f3, ti129_f6, getM_of hP.asker, keyInt, hlk, getM_of ho, As.cells, s1, s2, go_sem]
  by_cases hs : ¬ q.state = 1
  ·have e : q.tk = q := by unfold Rq.tk; rw [if_neg hs]
   have e2 : q.tkO Rq.reqP = [] := by unfold Rq.tkO; rw [if_neg fun hh => hs hh.1]
   rw [e, e2, List.append_nil, set_same hi1] at hX'
   rw [if_pos hs]
   simp only [hw, go_sem]
   exact hX' v G' hP hv
  have hs1 : q.state = 1 := Decidable.not_not.1 hs
  have htk := ok.ticks hs1
  have hw2 : IntKind.i64.wrap (q.ticks + 1) = q.ticks + 1 := wrap_i64 (by omega) (by omega)
  rw [if_neg hs]
  rw [set_x (x := q.as) (T := q.tl) ho]
  simp only [hw2, nilCk_ptr, ti129_f2, ti129_f3, ti129_f5, ti129_f6, getM_set, As.cells, s3, s4, go_sem]
  refine ite_of (fun hlt3 => ?_) fun hge3 => ?_
  ·have e : q.tk = { q with ticks := q.ticks + 1 } := by unfold Rq.tk; rw [if_pos hs1, if_pos hlt3]
   have e2 : q.tkO Rq.reqP = [] := by unfold Rq.tkO; rw [if_neg fun hh => hh.2.1 hlt3]
   rw [e2, List.append_nil] at hX'
   have e3 : q.tk.obj = xObj { q.as with ticks := q.ticks + 1 } q.tl := by rw [e]; rfl
   rw [e3] at hupd
   simp only [hw, go_sem]
   exact hX' v _ hupd (hv.step (Fr.refl.put ho hob) (by decide))
  ·refine ite_of (fun hsn => ?_) fun hsn => ?_
   ·have e : q.tk = { q with ticks := 0, sent := q.sent + 1 } := by unfold Rq.tk; rw [if_pos hs1, if_neg hge3, if_pos hsn]
    have e2 : q.tkO Rq.reqP = [q.reqP] := by unfold Rq.tkO; rw [if_pos ⟨hs1, hge3, hsn⟩]
    rw [e2, List.map_append] at hX'
    have hsr := ok.sent
    have htr := ok.tries
    refine send_c (x := { q.as with ticks := q.ticks + 1 }) (T := q.tl) set_self ⟨by rw [s3]; exact hsr.1, by rw [s3]; omega⟩ (by show q.data.length < 2 ^ 40; have := ok.data; omega) ok.nl ?_
    simp only [As.req, Tr.av, Tr.cells, bs24_1, newK_iff, set_set, go_sem]
    intro n hn
    have e3 : q.tk.obj = xObj { q.as with sent := q.as.sent + 1, ticks := 0 } q.tl := by rw [e]; rfl
    rw [e3] at hupd
    have hv2 := hv.step (H' := G'.set q.p (xObj { q.as with sent := q.as.sent + 1, ticks := 0 } q.tl)) (Fr.refl.put ho hob) (by decide)
    have hol := tkOs_len (f := Rq.reqP) (L := L) (D := (srt L).take j)
    have htl : ((srt L).take j).length ≤ 100 := by rw [List.length_take, srt_len]; omega
    refine hv2.app (ys := [q.reqP.dats]) elemsA_1 (by decide) (by decide) (by simp) (by simp [mostBytes]; omega) fun v' H' hv' _ hf' => ?_
    simp only [hw, go_sem]
    exact hX' v' H' (hupd.fr hf' (by decide)) hv'
   ·have e : q.tk = { q with ticks := q.ticks + 1, state := 3 } := by unfold Rq.tk; rw [if_pos hs1, if_neg hge3, if_neg hsn]
    have e2 : q.tkO Rq.reqP = [] := by unfold Rq.tkO; rw [if_neg fun hh => hsn hh.2.2]
    rw [e2, List.append_nil] at hX'
    have e3 : q.tk.obj = xObj { q.as with ticks := q.ticks + 1, state := 3 } q.tl := by rw [e]; rfl
    rw [e3] at hupd
    rw [set_st (x := ⟨q.as.nl, q.as.data, q.as.once, q.tries, q.as.state, q.as.bits, q.sent, q.ticks + 1⟩) (T := q.tl) set_self]
    simp only [hw, set_set, go_sem]
    exact hX' v _ hupd (hv.step (Fr.refl.put ho hob) (by decide))
end
end Go.Proofs.Ytofjhihigmimbaa
namespace Go.Proofs.Ytofjhihigmimbaa
open Go Go.AM Go.Proofs
structure RA (H : AHeap) (r : Nat) (nx : Int) (L : List Rq) : Prop where
 asker : ∃ v, H r = some (.mem 0 0 2 [[.d (.int .i64 nx), v]]) ∧ Ms 24 H v (L.map Rq.row)
 ids : (L.map (·.id)).Nodup
 ok : ∀ q ∈ L, q.Ok
 len : L.length ≤ 100
 nx : 0 ≤ nx ∧ nx ≤ 65535
abbrev SR : List Nat := [3, 25]
def Rq.reqR (q : Rq) : Tr := ⟨0, q.id, q.b, 0, q.once, false, false, false, q.data⟩
section
variable {H G : AHeap} {r : Nat} {nx : Int} {L : List Rq} {K : AV → AHeap → Prop}
theorem RA.fr {S : List Nat} (h : RA H r nx L) (hf : Fr S H G) (hs : 3 ∉ S ∧ 25 ∉ S) : RA G r nx L := by
 obtain ⟨v, h1, h2⟩ := h.asker
 exact ⟨⟨v, hf _ _ h1 hs.1, h2.fr hf hs.2⟩, h.ids, h.ok, h.len, h.nx⟩
theorem RA.le (h : RA H r nx L) (hf : AHeap.le H G) : RA G r nx L := h.fr (S := []) (.of_le hf) (by simp)
theorem RA.at (h : RA H r nx L) : ∃ v, H r = some (.mem 0 0 2 [[.d (.int .i64 nx), v]]) ∧ Ms 24 H v (L.map Rq.row) ∧ lenSl v = some (.d (.int .i64 L.length)) ∧
  ∀ (j : Nat) (q : Rq), L[j]? = some q → ∃ i ver Lm, indexAddrA ti103 24 v (.d (.int .i64 (j : Int))) = some (.ptr i ver j 0) ∧ idOf v = some i ∧ H i = some (.mem ver 0 24 Lm) ∧ Lm[j]? = some (q.row.map AV.d) := by
 obtain ⟨v, h1, h2⟩ := h.asker
 refine ⟨v, h1, h2, by rw [h2.len, List.length_map], fun j q hj => ?_⟩
 exact h2.at (ti := ti103) (et := 111) rfl (by rw [List.getElem?_map, hj]; rfl)
theorem rfind_c (h : RA H r nx L) {id : Int} (h1 : ∀ (i : Nat) (q : Rq), L[i]? = some q → q.id = id → K (.d (.int .i64 i)) H) (h2 : id ∉ L.map (·.id) → K (.d (.int .i64 (-1))) H) : CallsA Try.prog 85 [.ptr r 0 0 0, .d (.int .i64 id)] H K := by
 apply C85
 unfold S85
 obtain ⟨v, e1, e2, e3, e4⟩ := h.at
 have hll := h.len
 refine loop_ind (fun n vs G => ∃ j : Nat, j ≤ L.length ∧ n = L.length - j ∧ vs = [.ptr r 0 0 0, .d (.int .i64 id), .d (.int .i64 (j : Int))] ∧ G = H ∧ ∀ (i : Nat) (q : Rq), i < j → L[i]? = some q → q.id ≠ id) (n := L.length) ⟨0, Nat.zero_le _, rfl, rfl, rfl, fun i q hi => absurd hi (Nat.not_lt_zero _)⟩ ?_
 rintro X n vs G ⟨j, hj, rfl, rfl, rfl, hno⟩ hX
 by_cases hjl : j = L.length
 ·subst hjl
  simp only [List.getD_cons_succ, List.getD_cons_zero, nilCk_ptr, ti105_f1, getM_of e1, e3, Int.lt_irrefl, Int.reduceEq, Int.reduceNe, Int.reduceLT, Int.reduceLE, not_true_eq_false, not_false_eq_true, decide_true, decide_false, Int.reduceAdd, Int.reduceSub, Int.reduceMul, go_sem]
  refine ⟨_, le_refl', h2 fun hm => ?_⟩
  obtain ⟨q, hq, he⟩ := List.mem_map.1 hm
  obtain ⟨i, hi⟩ := List.getElem?_of_mem hq
  exact hno i q (List.getElem?_eq_some_iff.1 hi).1 hi he
 ·obtain ⟨q, hq⟩ : ∃ q, L[j]? = some q := ⟨_, List.getElem?_eq_getElem (by omega)⟩
  obtain ⟨i, ver, Lm, f1, f2, f3, f4⟩ := e4 j q hq
  have hlt : (j : Int) < (L.length : Int) := by omega
  have hw : IntKind.i64.wrap ((j : Int) + 1) = ((j + 1 : Nat) : Int) := by rw [wrap_i64 (by omega) (by omega)]; omega
  simp only [List.getD_cons_succ, List.getD_cons_zero, nilCk_ptr, ti105_f1, ti111_f0, getM_of e1, e3, hlt, if_true, f1, getM_of f3, f4, Rq.row, go_sem]
  refine ite_of (fun he => ⟨_, le_refl', h1 j q hq he⟩) fun he => ?_
  simp only [hw, go_sem]
  refine hX (L.length - (j + 1)) _ _ (by omega) ⟨j + 1, by omega, rfl, rfl, rfl, fun i2 q2 hi2 hq2 => ?_⟩
  by_cases h3 : i2 = j
  ·subst h3; rw [hq] at hq2; cases hq2; exact he
  ·exact hno i2 q2 (by omega) hq2
theorem rstate_c (h : RA H r nx L) {id : Int} (h1 : ∀ (i : Nat) (q : Rq), L[i]? = some q → q.id = id → K (.d (.int .i64 q.state)) H) (h2 : id ∉ L.map (·.id) → K (.d (.int .i64 0)) H) : CallsA Try.prog 53 [.ptr r 0 0 0, .d (.int .i64 id)] H K := by
 apply C53
 unfold S53
 simp only [frzLK_ptr, frzLK_d, frzLK_nil]
 obtain ⟨v, e1, e2, e3, e4⟩ := h.at
 refine rfind_c h (fun i q hi hid => ?_) fun hn => ?_
 ·obtain ⟨i', ver, Lm, f1, f2, f3, f4⟩ := e4 i q hi
  have h0 : (0 : Int) ≤ (i : Int) := by omega
  simp only [h0, if_true, nilCk_ptr, ti105_f1, ti111_f1, getM_of e1, f1, getM_of f3, f4, Rq.row, go_sem]
  exact ⟨_, le_refl', h1 i q hi hid⟩
 ·simp only [Int.reduceEq, Int.reduceNe, Int.reduceLT, Int.reduceLE, not_true_eq_false, not_false_eq_true, decide_true, decide_false, Int.reduceAdd, Int.reduceSub, Int.reduceMul, go_sem]
  exact ⟨_, le_refl', h2 hn⟩
theorem RA.store (h : RA H r nx L) {L' : List Rq} {w : AV} {v : AV} (h1 : H r = some (.mem 0 0 2 [[.d (.int .i64 nx), v]])) (hw : Ms 24 H w (L'.map Rq.row)) (ids : (L'.map (·.id)).Nodup) (ok : ∀ q ∈ L', q.Ok) (len : L'.length ≤ 100) : stoA false 1 (.ptr r 0 0 1) w H = some (.junk, [(r, .mem 0 0 2 [[.d (.int .i64 nx), w]])]) ∧ RA (H.set r (.mem 0 0 2 [[.d (.int .i64 nx), w]])) r nx L' := by
 refine ⟨stoA_at h1 (Nat.le_refl 0) rfl (by simp) hw.st.1 hw.st.2, ⟨⟨w, set_self, hw.keep fun i hi => ?_⟩, ids, ok, len, h.nx⟩⟩
 rw [set_ne (hw.ne h1 (by simp [osz]) hi)]
theorem bs111 {H : AHeap} {n : Nat} {q : Rq} (ok : q.Ok) : bsA ti111 1 [0] [.agg (q.row.map AV.d)] H n = some (.lit [q.row], []) := by
 have hP := ok.P
 obtain ⟨p, id, state, nl, data, once, tries, sent, ticks, b, last, T, P⟩ := q
 simp only at hP
 match P, hP with
 | [a0, a1, a2, a3, a4, a5, a6, a7], _ => rfl
theorem row_len {q : Rq} (ok : q.Ok) : q.row.length = 24 := by
 simp only [Rq.row, List.length_cons, List.length_append, bl8_len, sl8_len, ok.P]
theorem ldRow {H : AHeap} {i ver j : Nat} {Lm : List (List AV)} {q : Rq} (ok : q.Ok) (h1 : H i = some (.mem ver 0 24 Lm)) (h2 : Lm[j]? = some (q.row.map AV.d)) : ldV true 24 (.ptr i ver j 0) H = some (.agg (q.row.map AV.d)) := by
 have hl : (q.row.map AV.d).length = 24 := by rw [List.length_map, row_len ok]
 simp only [ldV, h1, if_true, h2, partV, List.drop_zero, List.take_of_length_le (Nat.le_of_eq hl), hl]
theorem row_noRs {q : Rq} : (∀ v ∈ q.row.map AV.d, noRs v = true) := fun v hv => by
 obtain ⟨x, _, rfl⟩ := List.mem_map.1 hv; rfl
theorem rforget_c (h : RA H r nx L) {id : Int} (h1 : ∀ (i : Nat) (q : Rq), L[i]? = some q → q.id = id → (q.state = 2 ∨ q.state = 3) → ∀ H', RA H' r nx (L.eraseIdx i) → Fr SR H H' → K (.d (.int .i64 0)) H')
  (h2 : (∀ (i : Nat) (q : Rq), L[i]? = some q → q.id = id → q.state = 1) → K (.d (.int .i64 5)) H) : CallsA Try.prog 50 [.ptr r 0 0 0, .d (.int .i64 id)] H K := by
 apply C50
 unfold S50
 simp only [frzLK_ptr, frzLK_d, frzLK_nil]
 have hll := h.len
 refine rstate_c h (fun i0 q0 hi0 hid0 => ?_) fun hn => by
  simp only [Int.reduceEq, Int.reduceNe, Int.reduceLT, Int.reduceLE, not_true_eq_false, not_false_eq_true, decide_true, decide_false, Int.reduceAdd, Int.reduceSub, Int.reduceMul, go_sem]
  exact ⟨_, le_refl', h2 fun i q hi hid => absurd (List.mem_map.2 ⟨q, List.mem_of_getElem? hi, hid⟩) hn⟩
 have ok0 := h.ok q0 (List.mem_of_getElem? hi0)
 simp only [go_sem]
 refine ite_of (fun hlt => ⟨_, le_refl', h2 fun i q hi hid => by rw [(id_eq h.ids hi hi0 (hid.trans hid0.symm)).2]; have := ok0.state; omega⟩) fun hge => ?_
 have fin := h1 i0 q0 hi0 hid0 (by have := ok0.state; omega)
 -- what is kept, so far
 have keepOf : ∀ j, j ≤ L.length → ((L.take j).filter fun q => decide (q.id ≠ id)).length ≤ 100 := fun j hj => Nat.le_trans (List.length_filter_le _ _) (by rw [List.length_take]; omega)
 refine loop_ind (fun n vs G => ∃ (j : Nat) (v : AV), j ≤ L.length ∧ n = L.length - j ∧ vs = [.ptr r 0 0 0, .d (.int .i64 id), v, .d (.int .i64 (j : Int))] ∧ RA G r nx L ∧ Ml [] H 24 G v (((L.take j).filter fun q => decide (q.id ≠ id)).map Rq.row)) (n := L.length) ⟨0, _, Nat.zero_le _, rfl, rfl, h, Ml.nil Fr.refl⟩ ?_
 rintro X n vs G ⟨j, v, hj, rfl, rfl, hR, hv⟩ hX
 obtain ⟨w, e1, e2, e3, e4⟩ := hR.at
 by_cases hjl : j = L.length
 ·subst hjl
  have hfl : (L.take L.length).filter (fun q => decide (q.id ≠ id)) = L.eraseIdx i0 := by
   rw [List.take_of_length_le (Nat.le_refl _)]
   have hi := hi0
   have hn := h.ids
   clear e4 e3 e2 e1 hR hv hX fin keepOf hj hll h h1 h2
   induction L generalizing i0 with
   | nil => simp at hi
   | cons a L ih =>
    rw [List.map_cons, List.nodup_cons] at hn
    cases i0 with
    | zero =>
     simp only [List.getElem?_cons_zero, Option.some.injEq] at hi
     subst hi
     rw [List.filter_cons, if_neg (by simp [hid0]), List.eraseIdx_cons_zero, List.filter_eq_self]
     intro x hx
     have : x.id ≠ a.id := fun he => hn.1 (List.mem_map.2 ⟨x, hx, he⟩)
     simpa [hid0] using fun he => this (he.trans hid0.symm)
    | succ i0 =>
     simp only [List.getElem?_cons_succ] at hi
     have hne : a.id ≠ id := fun he => hn.1 (List.mem_map.2 ⟨q0, List.mem_of_getElem? hi, hid0.trans he.symm⟩)
     rw [List.filter_cons, if_pos (by simp [hne]), List.eraseIdx_cons_succ, ih _ hi hi hn.2]
  rw [hfl] at hv
  obtain ⟨s1, s2⟩ := hR.store e1 hv.1 (by rw [map_erase]; exact (List.eraseIdx_sublist _ _).nodup h.ids) (fun q hq => h.ok q (erase_mem hq)) (Nat.le_trans (List.length_eraseIdx_le ..) h.len)
  simp only [List.getD_cons_succ, List.getD_cons_zero, nilCk_ptr, ti105_f1, getM_of e1, e3, Int.lt_irrefl, Int.reduceEq, Int.reduceNe, Int.reduceLT, Int.reduceLE, not_true_eq_false, not_false_eq_true, decide_true, decide_false, Int.reduceAdd, Int.reduceSub, Int.reduceMul, go_sem]
  rw [s1]
  simp only [go_sem]
  exact ⟨_, le_refl', fin _ s2 ((Fr.of_le hv.fr.le).put e1 (by simp [osz]))⟩
 ·obtain ⟨q, hq⟩ : ∃ q, L[j]? = some q := ⟨_, List.getElem?_eq_getElem (by omega)⟩
  have ok := h.ok q (List.mem_of_getElem? hq)
  obtain ⟨i, ver, Lm, f1, f2, f3, f4⟩ := e4 j q hq
  have hlt : (j : Int) < (L.length : Int) := by omega
  have hw : IntKind.i64.wrap ((j : Int) + 1) = ((j + 1 : Nat) : Int) := by rw [wrap_i64 (by omega) (by omega)]; omega
  have htk : L.take (j + 1) = L.take j ++ [q] := by rw [List.take_add_one, hq]; rfl
  have hld := ldRow ok f3 f4
  have hid1 : ldV false 1 (.ptr i ver j 0) G = some (.d (.int .i64 q.id)) := ldV_at f3 f4 rfl
  have hX' := fun (v : AV) (G' : AHeap) (h1 : RA G' r nx L) (h2 : Ml [] H 24 G' v (((L.take (j + 1)).filter fun q => decide (q.id ≠ id)).map Rq.row)) => hX (L.length - (j + 1)) _ G' (by omega) ⟨j + 1, v, by omega, rfl, rfl, h1, h2⟩
  rw [htk, List.filter_append, List.map_append] at hX'
  have hv1 : ldV false 1 (.ptr r 0 0 1) G = some w := ldV_at e1 rfl rfl
  simp only [List.getD_cons_succ, List.getD_cons_zero, nilCk_ptr, ti105_f1, ti111_f0, hv1, e3, hlt, if_true, f1, hid1, optA_some, intA_lss, intA_neq, ifA_ite, Nat.zero_add]
  refine ite_of (fun hne => ?_) fun heq => ?_
  ·have e : [q].filter (fun q => decide (q.id ≠ id)) = [q] := by simp [hne]
   rw [e] at hX'
   rw [hld]
   simp only [bs111 ok, optA_some, newK_iff, stepK_some, sets_nil']
   intro _ _
   refine hv.app (ys := [q.row]) elemsA_1 (by decide) (by decide) (by simpa using row_len ok) (by have := keepOf j hj; simp only [List.length_map, List.length_cons, List.length_nil, mostBytes]; omega) fun v' G' hv' hk1 hk2 => ?_
   simp only [hw, go_sem]
   refine hX' v' G' ?_ hv'
   have hR' : RA G' r nx L := by
    refine ⟨⟨w, hk2 _ _ e1 (by simp [osz]), e2.keep fun i2 hi2 => ?_⟩, h.ids, h.ok, h.len, h.nx⟩
    obtain ⟨ver2, L2, g2⟩ := e2.isObj hi2
    refine hk1 i2 (by rw [g2]; rfl) fun he => ?_
    -- the slice that grows is another one
    have hw0 : ∃ o, H i2 = some o := by
     obtain ⟨w0, a1, a2⟩ := h.asker
     have hww : w0 = w := by
      have := hv.fr _ _ a1 (by simp)
      rw [e1] at this; simpa using this.symm
     subst hww
     obtain ⟨ver3, L3, g3⟩ := a2.isObj hi2
     exact ⟨_, g3⟩
    obtain ⟨o, ho⟩ := hw0
    have := hv.2.2 i2 o he ho
    simp at this
   exact hR'
  ·have e : [q].filter (fun q => decide (q.id ≠ id)) = [] := by simp only [ne_eq, Decidable.not_not] at heq; simp [heq]
   rw [e, List.map_nil, List.append_nil] at hX'
   simp only [hw, go_sem]
   exact hX' v G hR hv
end
end Go.Proofs.Ytofjhihigmimbaa
namespace Go.Proofs.Ytofjhihigmimbaa
open Go Go.AM Go.Proofs
structure Cp (H H' : AHeap) (v : AV) (d : List UInt8) : Prop where
 gr : Gr H 1 H' v (bs d)
 nl : nilS v = false
theorem cpB {H : AHeap} {nl : Bool} {d : List UInt8} (hd : d.length < 2 ^ 40) {K : AV → AHeap → Prop} (hk : ∀ v H', Cp H H' v d → (∀ i, (H i).isSome → H' i = H i) → K v H') : newK H (fun n => apA 1 1 (.lit []) (.d (.sl nl (bs d))) H n) K := by
 refine (Gr.lit le_refl').app (ys := bs d) rfl (by decide) (by decide) bs_sz (by rw [bs_length]; simp [mostBytes]; omega) fun v' H3 hv' hk2 _ hn3 => ?_
 rw [List.nil_append] at hv'
 exact hk v' H3 ⟨hv', by rw [hn3]; rfl⟩ fun i hi => hk2 i hi (by simp [idOf])
section
variable {H H' : AHeap} {v : AV} {d : List UInt8} {K : AV → AHeap → Prop}
theorem Cp.st (h : Cp H H' v d) : v.storable = true ∧ v.cells = [v] ∧ aggL v = [] ∧ rsOf v = rsOf v := by
 refine ⟨?_, ?_, h.gr.aggL, rfl⟩ <;> rcases h.gr.2.2 with ⟨_, rfl | rfl⟩ | ⟨i, ver, L, rfl, _⟩ <;> rfl
theorem Cp.new (h : Cp H H' v d) {i : Nat} (hi : idOf v = some i) : H i = none := (h.gr.obj hi).2
theorem Cp.frz (h : Cp H H' v d) {G : AHeap} (hk : ∀ i, idOf v = some i → G i = H' i) : ∃ us, AM.frz v G = some (.d (.sl false (bs d)), us) ∧ AM.frzA v G = some (.d (.sl false (bs d)), us) ∧ ∀ i o, (i, o) ∈ us → idOf v = some i := by
 have o : Own noHeap 1 G v (bs d) := by
  have := h.gr.own
  refine ⟨noHeap_le, this.2.1, ?_⟩
  rcases this.2.2 with h1 | h1 | ⟨i, ver, L, rfl, h2, h3, h4, _⟩
  ·exact .inl h1
  ·exact .inr (.inl h1)
  ·exact .inr (.inr ⟨i, ver, L, rfl, by rw [hk i rfl]; exact h2, h3, h4, rfl⟩)
 obtain ⟨us, h1, h2, _, h4⟩ := o.frz
 rw [h.nl] at h1 h2
 exact ⟨us, h1, h2, h4⟩
theorem Cp.out (h : Cp H H' v d) {us : Ups} (hu : ∀ i o, (i, o) ∈ us → idOf v = some i) {G : AHeap} {i : Nat} {o : AObj} (hi : H i = some o) : G.sets us i = G i := upsOut fun o' ho' => by
 rw [h.new (hu _ _ ho')] at hi; cases hi
end
theorem row_want {q : Rq} {k : Nat} (h : k < 8) : q.row[8 + k]? = some (.bool (q.b.testBit k)) := by
 rw [Nat.add_comm]
 show (bl8 q.b.testBit ++ sl8 q.P)[k]? = _
 rw [List.getElem?_append_left (by rw [bl8_len]; exact h), bl8_get h]
theorem row_pcs {q : Rq} {k : Nat} {x : Bool × List UInt8} (h : q.P[k]? = some x) : q.row[16 + k]? = some (.sl x.1 (bs x.2)) := by
 rw [Nat.add_comm]
 show (bl8 q.b.testBit ++ sl8 q.P)[k + 8]? = _
 rw [List.getElem?_append_right (by rw [bl8_len]; omega), bl8_len, Nat.add_sub_cancel, sl8_get h]
section
variable {H G : AHeap} {r i ver j : Nat} {nx : Int} {L : List Rq} {Lm : List (List AV)} {q : Rq} {K : AV → AHeap → Prop}
theorem ix108_at {k : Nat} (h : k < 8) {e o : Nat} : indexAddrA ti108 1 (.ptr i ver e o) (.d (.int .i64 (k : Int))) = some (.ptr i ver e (o + k)) := by rw [ixArr (m := 8) (et := 4) rfl (by omega) (by omega)]; simp
theorem ix109_at {k : Nat} (h : k < 8) {e o : Nat} : indexAddrA ti109 1 (.ptr i ver e o) (.d (.int .i64 (k : Int))) = some (.ptr i ver e (o + k)) := by rw [ixArr (m := 8) (et := 22) rfl (by omega) (by omega)]; simp
theorem bits_step {b k : Nat} (hb : b < 256) (hk : k < 8) : (((b / 2 ^ (k + 1) : Nat) : Int) * 2 + (if b.testBit k then 1 else 0)) = ((b / 2 ^ k : Nat) : Int) := by
 have := half_fin ⟨b, hb⟩ ⟨k, hk⟩
 simp only at this
 cases h : b.testBit k <;> simp only [h, if_true, if_false, Bool.false_eq_true] at this ⊢ <;> omega
theorem rpacket_c (ok : q.Ok) (h1 : H i = some (.mem ver 0 24 Lm)) (h2 : Lm[j]? = some (q.row.map AV.d)) (hk : K q.reqR.av H) : CallsA Try.prog 86 [.ptr i ver j 0] H K := by
 apply C86
 unfold S86
 refine alloc_open fun u G hG hle hu => ?_
 have g1 := hle _ _ h1
 simp only [nilCk_ptr, ti111_f0, ti111_f3, ti111_f2, getM_of g1, h2, Rq.row, bs5_0, go_sem]
 intro _ _
 simp only [getM_of g1, h2, Rq.row, go_sem]
 have hd := ok.data
 refine cpB (by omega) fun v G2 hv hkp => ?_
 obtain ⟨us, f1, f2, f3⟩ := hv.frz (G := G2) (fun _ _ => rfl)
 have hbd : bdA Try.prog ti24 [1, 4, 7] [.d (.int .i64 q.id), .d (.bool q.once), v] G2 = some (.agg [.d (.int .i64 0), .d (.int .i64 q.id), .d (.int .i64 0), .d (.int .i64 0), .d (.bool q.once), .d (.bool false), .d (.bool false), .d (.sl false (bs q.data))], us) := by
  simp only [bdA, frzAL, frzA_d, AHeap.sets, f2, List.append_nil, List.nil_append, bd24, cell3, cell4, cell22, fillA, setCells, List.zip_cons_cons, List.zip_nil_right, Option.map_some, Nat.reduceLeDiff, List.cons_append, go_sem]
 simp only [hbd, hv.st.2.2.1, aggL_d, noRsA_nil, optA_some, stepK_some]
 refine alloc_open fun w G3 hG3 hle3 hw => ?_
 have g2 : ∀ x o, G x = some o → G2.sets us x = some o := fun x o hx => by rw [hv.out f3 hx, hkp x (by rw [hx]; rfl)]; exact hx
 have u3 := hle3 _ _ (g2 _ _ hG)
 have i3 := hle3 _ _ (g2 _ _ g1)
 have uw : u ≠ w := le_ne (g2 _ _ hG) hw
 have iw : i ≠ w := le_ne (g2 _ _ g1) hw
 have iu : i ≠ u := fun he => by subst he; rw [h1] at hu; cases hu
 simp only [noRsA_cons, noRsA_nil, noRs_d, aggL_agg, getM_of hG3, stoA_agg, stoA_get, stoM, setCells, and_self, true_and, Nat.le_refl, Nat.reduceLeDiff, List.cons_append, List.set_cons_zero, List.getElem?_cons_zero, go_sem]
 obtain ⟨wv, hwv⟩ : ∃ wv : Int → AObj, ∀ b, wv b = .mem 0 0 8 [[.d (.int .i64 0), .d (.int .i64 q.id), .d (.int .i64 b), .d (.int .i64 0), .d (.bool q.once), .d (.bool false), .d (.bool false), .d (.sl false (bs q.data))]] := ⟨_, fun _ => rfl⟩
 refine loop_ind (fun n vs G' => ∃ k : Nat, k ≤ 8 ∧ n = k ∧ vs = [.ptr i ver j 0, .ptr u 0 0 0, .ptr w 0 0 0, .d (.int .i64 ((k : Int) - 1))] ∧ G' = G3.set w (wv ((q.b / 2 ^ k : Nat) : Int))) (n := 8) ⟨8, Nat.le_refl _, rfl, rfl, by rw [hwv, Nat.div_eq_of_lt (show q.b < 2 ^ 8 from ok.b8)]; rfl⟩ ?_
 rintro X n vs _ ⟨k, hk8, rfl, rfl, rfl⟩ hX
 by_cases hk0 : n = 0
 ·subst hk0
  simp only [List.getD_cons_succ, List.getD_cons_zero, Int.reduceEq, Int.reduceNe, Int.reduceLT, Int.reduceLE, not_true_eq_false, not_false_eq_true, decide_true, decide_false, Int.reduceAdd, Int.reduceSub, Int.reduceMul, go_sem]
  rw [if_neg (by decide)]
  simp only [hwv, getM_set, getM_ne uw, getM_of u3, stoA_agg, stoA_get, stoM, setCells, and_self, true_and, Nat.le_refl, Nat.reduceLeDiff, List.cons_append, List.set_cons_zero, List.getElem?_cons_zero, go_sem]
  refine ⟨H, fun x o hx => ?_, ?_⟩
  ·have hxu := le_ne hx hu
   have hxw : x ≠ w := le_ne (g2 _ _ (hle _ _ hx)) hw
   rw [set_ne hxu, set_ne hxw]
   exact hle3 _ _ (g2 _ _ (hle _ _ hx))
  ·simpa [Rq.reqR, Tr.av] using hk
 ·obtain ⟨k, rfl⟩ : ∃ k, n = k + 1 := ⟨n - 1, by omega⟩
  have hX' := hX k _ _ (Nat.lt_succ_self _) ⟨k, by omega, rfl, rfl, rfl⟩
  have hge : (0 : Int) ≤ ((k + 1 : Nat) : Int) - 1 := by omega
  have hkk : ((k + 1 : Nat) : Int) - 1 = (k : Int) := by omega
  have hb8 := ok.b8
  have hlt : q.b / 2 ^ (k + 1) < 256 := Nat.lt_of_le_of_lt (Nat.div_le_self _ _) hb8
  have hlt2 : q.b / 2 ^ k < 256 := Nat.lt_of_le_of_lt (Nat.div_le_self _ _) hb8
  have hst := bits_step hb8 (show k < 8 by omega)
  have hwt : ∀ G', G' i = some (.mem ver 0 24 Lm) → ldV false 1 (.ptr i ver j (8 + k)) G' = some (.d (.bool (q.b.testBit k))) := fun G' hG' => ldV_at hG' h2 (by rw [List.getElem?_map, row_want (by omega)]; rfl)
  simp only [hkk] at hge ⊢
  obtain ⟨y, hy⟩ : ∃ y, y = q.b / 2 ^ (k + 1) := ⟨_, rfl⟩
  obtain ⟨z, hz⟩ : ∃ z, z = q.b / 2 ^ k := ⟨_, rfl⟩
  rw [← hy] at hlt hst
  rw [← hz] at hlt2 hst hX'
  rw [← hy]
  have hm : IntKind.i64.wrap (((y : Nat) : Int) * 2) = ((y : Nat) : Int) * 2 := wrap_i64 (by omega) (by omega)
  have hw2 := hwt (G3.set w (.mem 0 0 8 [[.d (.int .i64 0), .d (.int .i64 q.id), .d (.int .i64 (((y : Nat) : Int) * 2)), .d (.int .i64 0), .d (.bool q.once), .d (.bool false), .d (.bool false), .d (.sl false (bs q.data))]])) (by rw [set_ne iw]; exact i3)
  have hwk : IntKind.i64.wrap ((k : Int) - 1) = (k : Int) - 1 := wrap_i64 (by omega) (by omega)
  simp only [List.getD_cons_succ, List.getD_cons_zero, hge, if_true, hwv, nilCk_ptr, ti24_f2, ti111_f8, Nat.zero_add, ix108_at (show k < 8 by omega), getM_set, hm, ↓hw2, stoA_agg, stoA_get, stoM, setCells, and_self, true_and, Nat.le_refl, Nat.reduceLeDiff, List.cons_append, List.set_cons_zero, List.getElem?_cons_zero, go_sem]
  cases hb : q.b.testBit k with
  | false =>
   rw [hb] at hst
   simp only [Bool.false_eq_true, if_false, Int.add_zero] at hst
   simp only [hwk, hst, go_sem]
   rw [hwv] at hX'
   exact hX'
  | true =>
   rw [hb] at hst
   simp only [if_true] at hst
   have hm2 : IntKind.i64.wrap (((y : Nat) : Int) * 2 + 1) = ((z : Nat) : Int) := by rw [hst]; exact wrap_i64 (by omega) (by omega)
   simp only [ti24_f2, getM_set, hm2, hwk, stoA_agg, stoA_get, stoM, setCells, and_self, true_and, Nat.le_refl, Nat.reduceLeDiff, List.cons_append, List.set_cons_zero, List.getElem?_cons_zero, go_sem]
   rw [hwv] at hX'
   exact hX'
end
end Go.Proofs.Ytofjhihigmimbaa
namespace Go.Proofs.Ytofjhihigmimbaa
open Go Go.AM Go.Proofs
section
variable {H G : AHeap} {r i ver j : Nat} {nx : Int} {L : List Rq} {Lm : List (List AV)} {q : Rq} {K : AV → AHeap → Prop}
def Rq.againR (q : Rq) : Rq := if q.sent < q.tries then { q with sent := q.sent + 1, ticks := 0 } else q
theorem set_row {q' : Rq} {n : Nat} {x : Dat} (h : q.row.set n x = q'.row) : (q.row.map AV.d).set n (.d x) = q'.row.map AV.d := by rw [← h, List.map_set]
theorem sto_row {q' : Rq} {n : Nat} {x : Dat} (h1 : H i = some (.mem ver 0 24 Lm)) (h2 : Lm[j]? = some (q.row.map AV.d)) (hn : n < q.row.length) (h : q.row.set n x = q'.row) :
  stoA false 1 (.ptr i ver j n) (.d x) H = some (.junk, [(i, .mem ver 0 24 (Lm.set j (q'.row.map AV.d)))]) ∧ (Lm.set j (q'.row.map AV.d))[j]? = some (q'.row.map AV.d) := by
 refine ⟨?_, by rw [List.getElem?_set_self (List.getElem?_eq_some_iff.1 h2).1]⟩
 rw [stoA_at h1 (Nat.zero_le _) h2 (by rw [List.length_map]; exact hn) rfl rfl, set_row h]
theorem set_set_l {α : Type} {l : List α} {n : Nat} {x y : α} : (l.set n x).set n y = l.set n y := by simp
theorem tick0_ok (ok : q.Ok) : ({ q with ticks := 0 } : Rq).Ok := ⟨ok.id, ok.state, ok.tries, ok.sent, fun _ => ⟨by show (0 : Int) ≤ 0; decide, by show (0 : Int) ≤ 2; decide⟩, ok.last, ok.b, ok.T, ok.P, ok.data, ok.nl, ok.pcs, ok.fl, ok.done⟩
theorem ragain_c (ok : ({ q with ticks := 0 } : Rq).Ok) (h1 : H i = some (.mem ver 0 24 Lm)) (h2 : Lm[j]? = some (q.row.map AV.d))
  (hk : ¬ q.sent < q.tries → K (.d (.sl true [])) H) (hk2 : q.sent < q.tries → K (.d (.sl false [q.reqR.dats])) (H.set i (.mem ver 0 24 (Lm.set j (q.againR.row.map AV.d))))) : CallsA Try.prog 88 [.ptr i ver j 0] H K := by
 apply C88
 unfold S88
 simp only [nilCk_ptr, ti111_f4, ti111_f5, ti111_f6, getM_of h1, h2, Rq.row, go_sem]
 refine ite_of (fun hge => ⟨H, le_refl', hk (by omega)⟩) fun hlt => ?_
 have hsn : 0 ≤ q.sent ∧ q.sent ≤ q.tries := ok.sent
 have htr : 1 ≤ q.tries ∧ q.tries ≤ 255 := ok.tries
 have hw : IntKind.i64.wrap (q.sent + 1) = q.sent + 1 := wrap_i64 (by omega) (by omega)
 have hl : q.row.length = 24 := row_len (q := { q with ticks := 0 }) ok
 obtain ⟨s1, s2⟩ := sto_row (q := q) (q' := { q with sent := q.sent + 1 }) (n := 5) (x := .int .i64 (q.sent + 1)) h1 h2 (by omega) rfl
 obtain ⟨s3, s4⟩ := sto_row (H := H.set i (.mem ver 0 24 (Lm.set j (({ q with sent := q.sent + 1 } : Rq).row.map AV.d)))) (q := { q with sent := q.sent + 1 }) (q' := { q with sent := q.sent + 1, ticks := 0 }) (n := 6) (x := .int .i64 0) set_self s2 (by rw [show ({ q with sent := q.sent + 1 } : Rq).row.length = q.row.length from rfl]; omega) rfl
 rw [hw, s1]
 simp only [nilCk_ptr, ti111_f6, optA_some, stepK_some, sets_cons, sets_nil', Nat.zero_add]
 rw [s3]
 simp only [optA_some, stepK_some, sets_cons, sets_nil', set_set, set_set_l, frzLK_ptr, frzLK_nil]
 have e : q.againR = { q with sent := q.sent + 1, ticks := 0 } := by unfold Rq.againR; rw [if_pos (by omega)]
 have ok2 : ({ q with sent := q.sent + 1, ticks := 0 } : Rq).Ok := ⟨ok.id, ok.state, ok.tries, ⟨by show 0 ≤ q.sent + 1; omega, by show q.sent + 1 ≤ q.tries; omega⟩, fun _ => ⟨by show (0 : Int) ≤ 0; decide, by show (0 : Int) ≤ 2; decide⟩, ok.last, ok.b, ok.T, ok.P, ok.data, ok.nl, ok.pcs, ok.fl, ok.done⟩
 rw [set_set_l] at s4
 refine rpacket_c ok2 set_self s4 ?_
 intro n hn
 simp only [Tr.av, Tr.cells, bs24_1, Rq.reqR, go_sem]
 have := hk2 (by omega)
 rw [e] at this
 exact ⟨_, le_refl', this⟩
theorem rbehind_c (h : RA H r nx L) {last : Int} (hl : -1 ≤ last) (h1 : ∀ (i : Nat) (q : Rq), L[i]? = some q → last < q.id → (∀ x ∈ L, last < x.id → q.id ≤ x.id) → K (.d (.int .i64 i)) H) (h2 : (∀ x ∈ L, x.id ≤ last) → K (.d (.int .i64 (-1))) H) : CallsA Try.prog 89 [.ptr r 0 0 0, .d (.int .i64 last)] H K := by
 apply C89
 unfold S89
 obtain ⟨v, e1, e2, e3, e4⟩ := h.at
 have hll := h.len
 refine loop_ind (fun n vs G => ∃ (j : Nat) (best : Int), j ≤ L.length ∧ n = L.length - j ∧ vs = [.ptr r 0 0 0, .d (.int .i64 last), .d (.int .i64 best), .d (.int .i64 (j : Int))] ∧ G = H ∧
  ((best = -1 ∧ ∀ (i : Nat) (q : Rq), i < j → L[i]? = some q → q.id ≤ last) ∨ ∃ (b : Nat) (q : Rq), best = (b : Int) ∧ L[b]? = some q ∧ last < q.id ∧ ∀ (i : Nat) (x : Rq), i < j → L[i]? = some x → last < x.id → q.id ≤ x.id)) (n := L.length) ⟨0, -1, Nat.zero_le _, rfl, rfl, rfl, .inl ⟨rfl, fun i q hi => absurd hi (Nat.not_lt_zero _)⟩⟩ ?_
 rintro X n vs G ⟨j, best, hj, rfl, rfl, rfl, hb⟩ hX
 by_cases hjl : j = L.length
 ·subst hjl
  simp only [List.getD_cons_succ, List.getD_cons_zero, nilCk_ptr, ti105_f1, getM_of e1, e3, Int.lt_irrefl, Int.reduceEq, Int.reduceNe, Int.reduceLT, Int.reduceLE, not_true_eq_false, not_false_eq_true, decide_true, decide_false, Int.reduceAdd, Int.reduceSub, Int.reduceMul, go_sem]
  rcases hb with ⟨rfl, hn⟩ | ⟨b, q, rfl, hq, hlq, hmin⟩
  ·exact ⟨_, le_refl', h2 fun x hx => by obtain ⟨i, hi⟩ := List.getElem?_of_mem hx; exact hn i x (List.getElem?_eq_some_iff.1 hi).1 hi⟩
  ·exact ⟨_, le_refl', h1 b q hq hlq fun x hx hlx => by obtain ⟨i, hi⟩ := List.getElem?_of_mem hx; exact hmin i x (List.getElem?_eq_some_iff.1 hi).1 hi hlx⟩
 ·obtain ⟨q, hq⟩ : ∃ q, L[j]? = some q := ⟨_, List.getElem?_eq_getElem (by omega)⟩
  obtain ⟨i, ver, Lm, f1, f2, f3, f4⟩ := e4 j q hq
  have hlt : (j : Int) < (L.length : Int) := by omega
  have hw : IntKind.i64.wrap ((j : Int) + 1) = ((j + 1 : Nat) : Int) := by rw [wrap_i64 (by omega) (by omega)]; omega
  have hld : ldV false 1 (.ptr i ver j 0) G = some (.d (.int .i64 q.id)) := ldV_at f3 f4 rfl
  have next : ∀ best', ((best' = -1 ∧ ∀ (i : Nat) (q : Rq), i < j + 1 → L[i]? = some q → q.id ≤ last) ∨ ∃ (b : Nat) (q : Rq), best' = (b : Int) ∧ L[b]? = some q ∧ last < q.id ∧ ∀ (i : Nat) (x : Rq), i < j + 1 → L[i]? = some x → last < x.id → q.id ≤ x.id) → X [.ptr r 0 0 0, .d (.int .i64 last), .d (.int .i64 best'), .d (.int .i64 ((j + 1 : Nat) : Int))] G := fun best' hb' => hX (L.length - (j + 1)) _ _ (by omega) ⟨j + 1, best', by omega, rfl, rfl, rfl, hb'⟩
  have split : ∀ {P : Nat → Rq → Prop}, (∀ (i : Nat) (x : Rq), i < j → L[i]? = some x → P i x) → P j q → ∀ (i : Nat) (x : Rq), i < j + 1 → L[i]? = some x → P i x := fun hP hj2 i x hi hx => by
   by_cases h3 : i = j
   ·subst h3; rw [hq] at hx; cases hx; exact hj2
   ·exact hP i x (by omega) hx
  simp only [List.getD_cons_succ, List.getD_cons_zero, nilCk_ptr, ti105_f1, ti111_f0, getM_of e1, e3, hlt, if_true, f1, Nat.zero_add, ↓hld, go_sem]
  refine ite_of (fun hgt => ?_) fun hle => ?_
  ·rcases hb with ⟨rfl, hn⟩ | ⟨b, p, rfl, hp, hlp, hmin⟩
   ·simp only [Int.reduceEq, Int.reduceNe, Int.reduceLT, Int.reduceLE, not_true_eq_false, not_false_eq_true, decide_true, decide_false, Int.reduceAdd, Int.reduceSub, Int.reduceMul, hw, go_sem]
    exact next _ (.inr ⟨j, q, rfl, hq, hgt, split (P := fun _ x => last < x.id → q.id ≤ x.id) (fun i2 x hi hx hlx => by have := hn i2 x hi hx; omega) fun _ => Int.le_refl _⟩)
   ·have hb0 : ¬ ((b : Int) < 0) := by omega
    obtain ⟨i', ver', Lm', g1, g2, g3, g4⟩ := e4 b p hp
    have hld2 : ldV false 1 (.ptr i' ver' b 0) G = some (.d (.int .i64 p.id)) := ldV_at g3 g4 rfl
    rw [if_neg hb0]
    simp only [nilCk_ptr, ti105_f1, ti111_f0, getM_of e1, f1, g1, Nat.zero_add, ↓hld, ↓hld2, go_sem]
    refine ite_of (fun hlt2 => ?_) fun hge2 => ?_
    ·simp only [hw, go_sem]
     exact next _ (.inr ⟨j, q, rfl, hq, hgt, split (P := fun _ x => last < x.id → q.id ≤ x.id) (fun i2 x hi hx hlx => by have := hmin i2 x hi hx hlx; omega) fun _ => Int.le_refl _⟩)
    ·simp only [hw, go_sem]
     exact next _ (.inr ⟨b, p, rfl, hp, hlp, split (P := fun _ x => last < x.id → p.id ≤ x.id) hmin fun _ => by omega⟩)
  ·simp only [hw, go_sem]
   rcases hb with ⟨rfl, hn⟩ | ⟨b, p, rfl, hp, hlp, hmin⟩
   ·exact next _ (.inl ⟨rfl, split (P := fun _ x => x.id ≤ last) hn (by omega)⟩)
   ·exact next _ (.inr ⟨b, p, rfl, hp, hlp, split (P := fun _ x => last < x.id → p.id ≤ x.id) hmin fun h => absurd h (by omega)⟩)
def Rq.rowsR (q : Rq) (j : Nat) : List (List Dat) := (List.range j).map fun k => [.sl false (bs (q.P.getD k (true, [])).2)]
theorem rowsR_s {q : Rq} {j : Nat} : q.rowsR (j + 1) = q.rowsR j ++ [[.sl false (bs (q.P.getD j (true, [])).2)]] := by
 unfold Rq.rowsR; rw [List.range_succ, List.map_append]; rfl
theorem bs22_cp {H G : AHeap} {v : AV} {d : List UInt8} {us : Ups} (f : frzA v G = some (.d (.sl false (bs d)), us)) {n : Nat} : bsA ti22 1 [0] [v] G n = some (.lit [[.sl false (bs d)]], us) := by
 simp only [bsA, frzAL, f, List.append_nil]
 rfl
set_option maxHeartbeats 1000000 in
theorem rpieces_c (h : RA H r nx L) {id : Int} (h1 : ∀ (i : Nat) (q : Rq), L[i]? = some q → q.id = id → q.state = 2 → ∀ nl H', (nl = true → q.rowsR (q.last + 1) = []) → AHeap.le H H' → K (.tup [.d (.sl nl (q.rowsR (q.last + 1))), .d (.int .i64 0)]) H')
  (h2 : (∀ (i : Nat) (q : Rq), L[i]? = some q → q.id = id → q.state ≠ 2) → K (.tup [.d (.sl true []), .d (.int .i64 5)]) H) : CallsA Try.prog 52 [.ptr r 0 0 0, .d (.int .i64 id)] H K := by
 apply C52
 unfold S52
 simp only [frzLK_ptr, frzLK_d, frzLK_nil]
 obtain ⟨v, e1, e2, e3, e4⟩ := h.at
 refine rstate_c h (fun i q hi hid => ?_) fun hn => by
  simp only [Int.reduceEq, Int.reduceNe, Int.reduceLT, Int.reduceLE, not_true_eq_false, not_false_eq_true, decide_true, decide_false, Int.reduceAdd, Int.reduceSub, Int.reduceMul, go_sem]
  exact ⟨_, le_refl', h2 fun i q hi hid => absurd (List.mem_map.2 ⟨q, List.mem_of_getElem? hi, hid⟩) hn⟩
 have ok := h.ok q (List.mem_of_getElem? hi)
 simp only [go_sem]
 refine ite_of (fun hs => ⟨_, le_refl', h2 fun j x hj hx => by rw [(id_eq h.ids hj hi (hx.trans hid.symm)).2]; exact hs⟩) fun hs => ?_
 have hs2 : q.state = 2 := by simpa using hs
 obtain ⟨i', ver, Lm, f1, f2, f3, f4⟩ := e4 i q hi
 have hap : apart (.d (.int .i64 id)) (.ptr r 0 0 1) := trivial
 have hv1 : ldV false 1 (.ptr r 0 0 1) H = some v := ldV_at e1 rfl rfl
 simp only [nilCk_ptr, ti105_f1, Nat.zero_add, ↓hv1, ap_nil, go_sem]
 refine ⟨_, rfind_c h (K := fun v H2 => v = .d (.int .i64 (i : Int)) ∧ AHeap.le H H2) (fun j x hj hx => ⟨by rw [(id_eq h.ids hj hi (hx.trans hid.symm)).1], le_refl'⟩) (fun hn => absurd (List.mem_map.2 ⟨q, List.mem_of_getElem? hi, hid⟩) hn), ?_⟩
 simp only [f1, optA_some]
 rw [ldRow ok f3 f4]
 simp only [optA_some]
 refine alloc_open fun u G hG hle hu => ?_
 have hst : stoA true 24 (.ptr u 0 0 0) (.agg (q.row.map AV.d)) G = some (.junk, [(u, .mem 0 0 24 [q.row.map AV.d])]) := by
  have hf : ∀ (l : List Dat), frzL (l.map AV.d) G = some (l.map AV.d, []) := fun l => by
   induction l with
   | nil => rfl
   | cons a l ih => simp only [List.map_cons, frzL, frz, AHeap.sets, ih, List.append_nil]
  have hl : (q.row.map AV.d).length = 24 := by rw [List.length_map, row_len ok]
  rw [stoA_agg, hf]
  simp only [AHeap.sets, stoA, stA, hG, AV.storable, AV.cells, hl, Nat.le_refl, and_self, if_true, List.getElem?_cons_zero, Bool.false_eq_true, if_false, List.length_cons, List.length_nil, Nat.zero_add, setCells, List.take_zero, List.nil_append, List.set_cons_zero, Option.some.injEq, Prod.mk.injEq, true_and, List.cons.injEq, AObj.mem.injEq, and_true]
  simp
 have hnr : ∀ X : Prop, X → noRsA (aggL (.agg (q.row.map AV.d))) X := fun X hX => noRsA_iff.2 ⟨row_noRs, hX⟩
 refine hnr _ ?_
 rw [hst]
 simp only [optA_some, stepK_some, sets_cons, sets_nil']
 have hl7 := ok.last
 have hP : RA (G.set u (.mem 0 0 24 [q.row.map AV.d])) r nx L := h.le (le_box hle hu)
 refine loop_ind (fun n vs G' => ∃ (j : Nat) (w : AV), j ≤ q.last + 1 ∧ n = q.last + 1 - j ∧ vs = [.ptr u 0 0 0, w, .d (.int .i64 (j : Int))] ∧ G' u = some (.mem 0 0 24 [q.row.map AV.d]) ∧ Ml [] H 1 G' w (q.rowsR j)) (n := q.last + 1) ⟨0, _, Nat.zero_le _, rfl, rfl, set_self, Ml.nil (Fr.of_le (le_box hle hu))⟩ ?_
 rintro X n vs G' ⟨j, w, hj, rfl, rfl, hu', hw'⟩ hX
 have hl : ldV false 1 (.ptr u 0 0 7) G' = some (.d (.int .i64 (q.last : Int))) := ldV_at hu' rfl rfl
 by_cases hjl : j = q.last + 1
 ·subst hjl
  have hno : ¬ (((q.last + 1 : Nat) : Int) ≤ (q.last : Int)) := by omega
  simp only [List.getD_cons_succ, List.getD_cons_zero, ti111_f7, Nat.zero_add, ↓hl, hno, if_false, go_sem]
  exact hw'.ret2 fun nl H' g1 g2 _ => h1 i q hi hid hs2 nl H' g1 g2.le
 ·have hle2 : (j : Int) ≤ (q.last : Int) := by omega
  have hww : IntKind.i64.wrap ((j : Int) + 1) = ((j + 1 : Nat) : Int) := by rw [wrap_i64 (by omega) (by omega)]; omega
  obtain ⟨x, hx⟩ : ∃ x, q.P[j]? = some x := ⟨_, List.getElem?_eq_getElem (by rw [ok.P]; omega)⟩
  have hxd : q.P.getD j (true, []) = x := by rw [List.getD_eq_getElem?_getD, hx]; rfl
  have hfl := ok.fl x (List.mem_append_right _ (List.mem_of_getElem? hx))
  have hpx : ldV false 1 (.ptr u 0 0 (16 + j)) G' = some (.d (.sl x.1 (bs x.2))) := ldV_at hu' rfl (by rw [List.getElem?_map, row_pcs hx]; rfl)
  have hpx' : ldV false 1 (.ptr u 0 0 (0 + 16 + j)) G' = some (.d (.sl x.1 (bs x.2))) := by rw [Nat.zero_add]; exact hpx
  have hX' := fun (w : AV) (G2 : AHeap) (g1 : G2 u = some (.mem 0 0 24 [q.row.map AV.d])) (g2 : Ml [] H 1 G2 w (q.rowsR (j + 1))) => hX (q.last + 1 - (j + 1)) _ G2 (by omega) ⟨j + 1, w, by omega, rfl, rfl, g1, g2⟩
  rw [rowsR_s, hxd] at hX'
  simp only [List.getD_cons_succ, List.getD_cons_zero, ti111_f7, Nat.zero_add, hl, hle2, if_true, optA_some, intA_leq, ifA_ite, bs5_0]
  intro _ _
  simp only [stepK_some, sets_nil', ti111_f9, Nat.zero_add, ix109_at (show j < 8 by omega), hpx, optA_some]
  refine cpB (d := x.2) (by omega) fun v2 G2 hv hkp => ?_
  obtain ⟨us, g1, g2, g3⟩ := hv.frz (G := G2) (fun _ _ => rfl)
  simp only [bs22_cp (H := G') g2, newK_iff, stepK_some, optA_some]
  intro _ _
  have hsame : ∀ i o, G' i = some o → G2.sets us i = some o := fun i o hi => by rw [hv.out g3 hi, hkp i (by rw [hi]; rfl)]; exact hi
  have hml : Ml [] H 1 (G2.sets us) w (q.rowsR j) := hw'.step (fun i o hi _ => hsame i o hi) (by simp)
  have hrl : (q.rowsR j).length = j := by simp [Rq.rowsR]
  refine hml.app (ys := [[.sl false (bs x.2)]]) elemsA_1 (by decide) (by decide) (by simp) (by rw [hrl]; simp [mostBytes]; omega) fun w' G3 hw3 hk3 _ => ?_
  simp only [hww, go_sem]
  refine hX' w' G3 ?_ hw3
  have hu2 := hsame _ _ hu'
  rw [hk3 u (by rw [hu2]; rfl) fun he => ?_]
  ·exact hu2
  ·obtain ⟨vv, LL, h3⟩ := hml.1.isObj he
   rw [h3] at hu2; cases hu2
end
end Go.Proofs.Ytofjhihigmimbaa
namespace Go.Proofs.Ytofjhihigmimbaa
open Go Go.AM Go.Proofs
def rw' (q : Rq) (f : Nat → Bool) (last : Int) (pc : List AV) : List AV := .d (.int .i64 q.id) :: .d (.int .i64 q.state) :: .d (.sl false (bs q.data)) :: .d (.bool q.once) :: .d (.int .i64 q.tries) :: .d (.int .i64 q.sent) :: .d (.int .i64 q.ticks) :: .d (.int .i64 last) :: ((bl8 f).map AV.d ++ pc)
theorem row_rw {q : Rq} : q.row.map AV.d = rw' q q.b.testBit q.last ((sl8 q.P).map AV.d) := by
 unfold Rq.row rw'
 simp only [List.map_cons, List.map_append]
section
variable {q : Rq} {f g : Nat → Bool} {last : Int} {pc : List AV} {k : Nat}
theorem rw_len (h : pc.length = 8) : (rw' q f last pc).length = 24 := by simp [rw', bl8_len, h]
theorem rw_want (h : k < 8) : (rw' q f last pc)[8 + k]? = some (.d (.bool (f k))) := by
 rw [Nat.add_comm]
 show ((bl8 f).map AV.d ++ pc)[k]? = _
 rw [List.getElem?_append_left (by rw [List.length_map, bl8_len]; exact h), List.getElem?_map, bl8_get h]; rfl
theorem rw_setW (h : k < 8) {v : Bool} : (rw' q f last pc).set (8 + k) (.d (.bool v)) = rw' q (fun j => if j = k then v else f j) last pc := by
 rw [Nat.add_comm]
 show .d (.int .i64 q.id) :: .d (.int .i64 q.state) :: .d (.sl false (bs q.data)) :: .d (.bool q.once) :: .d (.int .i64 q.tries) :: .d (.int .i64 q.sent) :: .d (.int .i64 q.ticks) :: .d (.int .i64 last) :: (((bl8 f).map AV.d ++ pc).set k (.d (.bool v))) = _
 rw [List.set_append_left _ _ (by rw [List.length_map, bl8_len]; exact h), ← List.map_set, bl8_set]; rfl
theorem rw_setP {v : AV} : (rw' q f last pc).set (16 + k) v = rw' q f last (pc.set k v) := by
 rw [Nat.add_comm]
 show .d (.int .i64 q.id) :: .d (.int .i64 q.state) :: .d (.sl false (bs q.data)) :: .d (.bool q.once) :: .d (.int .i64 q.tries) :: .d (.int .i64 q.sent) :: .d (.int .i64 q.ticks) :: .d (.int .i64 last) :: (((bl8 f).map AV.d ++ pc).set (k + 8) v) = _
 rw [List.set_append_right _ _ (by rw [List.length_map, bl8_len]; omega), List.length_map, bl8_len, Nat.add_sub_cancel]; rfl
theorem rw_setL {n : Int} : (rw' q f last pc).set 7 (.d (.int .i64 n)) = rw' q f n pc := rfl
theorem rw_last : (rw' q f last pc)[7]? = some (.d (.int .i64 last)) := rfl
theorem rw_congr (h : ∀ k, k < 8 → f k = g k) : rw' q f last pc = rw' q g last pc := by unfold rw'; rw [bl8_congr h]
end
def wk (f : Nat → Bool) (last : Int) (k j : Nat) : Bool := if j < k then f j && decide ((j : Int) ≤ last) else f j
def lk (f : Nat → Bool) (last : Int) (k : Nat) : Bool := (List.range k).any fun j => f j && decide ((j : Int) ≤ last)
theorem lk_s {f : Nat → Bool} {last : Int} {k : Nat} : lk f last (k + 1) = (lk f last k || (f k && decide ((k : Int) ≤ last))) := by
 unfold lk; rw [List.range_succ, List.any_append]; simp
theorem wk_s {f : Nat → Bool} {last : Int} {k j : Nat} : (if j = k then (f k && decide ((k : Int) ≤ last)) else wk f last k j) = wk f last (k + 1) j := by
 unfold wk
 by_cases h : j = k
 ·subst h; simp
 ·have : (j < k + 1) ↔ (j < k) := by omega
  simp [h, this]
theorem bits_zero {b : Nat} (hb : b < 256) : ((List.range 8).any fun j => b.testBit j) = !decide (b = 0) := by
 have : ∀ b : Fin 256, ((List.range 8).any fun j => b.1.testBit j) = !decide (b.1 = 0) := by decide +kernel
 exact this ⟨b, hb⟩
section
variable {H G : AHeap} {i ver j : Nat} {Lm : List (List AV)} {q : Rq} {K : AV → AHeap → Prop}
theorem sto_rw {f f' : Nat → Bool} {last last' : Int} {pc pc' : List AV} {n : Nat} {x : AV} (h1 : H i = some (.mem ver 0 24 (Lm.set j (rw' q f last pc)))) (hj : j < Lm.length) (hn : n < 24) (hpc : pc.length = 8) (hx : x.storable = true ∧ x.cells = [x]) (h : (rw' q f last pc).set n x = rw' q f' last' pc') :
  stoA false 1 (.ptr i ver j n) x H = some (.junk, [(i, .mem ver 0 24 (Lm.set j (rw' q f' last' pc')))]) := by
 rw [stoA_at h1 (Nat.zero_le _) (by rw [List.getElem?_set_self hj]) (by rw [rw_len hpc]; exact hn) hx.1 hx.2, h, set_set_l]
theorem ld_rw {f : Nat → Bool} {last : Int} {pc : List AV} {n : Nat} {x : AV} (h1 : H i = some (.mem ver 0 24 (Lm.set j (rw' q f last pc)))) (hj : j < Lm.length) (h : (rw' q f last pc)[n]? = some x) : ldV false 1 (.ptr i ver j n) H = some x :=
 ldV_at h1 (by rw [List.getElem?_set_self hj]) h
set_option maxHeartbeats 2000000 in
theorem rpiece_c (ok : q.Ok) (hj : j < Lm.length) (h1 : H i = some (.mem ver 0 24 Lm)) (h2 : Lm[j]? = some (q.row.map AV.d)) {t : Tr} (ht : 0 ≤ t.seq ∧ t.seq ≤ 7) (hl : t.data.length < 2 ^ 40)
  (hk : ∀ H', H' i = some (.mem ver 0 24 (Lm.set j ((q.piece t).row.map AV.d))) → (∀ x o, x ≠ i → H x = some o → H' x = some o) → K (.d (.bool (decide ((q.piece t).b = 0)))) H') : CallsA Try.prog 87 [.ptr i ver j 0, t.av] H K := by
 apply C87
 unfold S87
 refine box_open rfl fun u G hG hle hu => ?_
 have g1 := hle _ _ h1
 have iu := le_ne h1 hu
 have hG : G u = some (.mem 0 0 8 [t.cells]) := hG
 obtain ⟨s, hs⟩ : ∃ s : Nat, t.seq = (s : Int) := ⟨t.seq.toNat, by omega⟩
 have hs8 : s < 8 := by omega
 have g2 : G i = some (.mem ver 0 24 (Lm.set j (rw' q q.b.testBit q.last ((sl8 q.P).map AV.d)))) := by rw [g1, ← row_rw, set_same h2]
 have hP8 : ((sl8 q.P).map AV.d).length = 8 := by rw [List.length_map, sl8_len, ok.P]
 have hts : ∀ G', G' u = some (.mem 0 0 8 [t.cells]) → ldV false 1 (.ptr u 0 0 3) G' = some (.d (.int .i64 (s : Int))) := fun G' hG' => ldV_at hG' rfl (by rw [← hs]; rfl)
 have htd : ∀ G', G' u = some (.mem 0 0 8 [t.cells]) → ldV false 1 (.ptr u 0 0 7) G' = some (.d (.sl t.nl (bs t.data))) := fun G' hG' => ldV_at hG' rfl rfl
 have hte : ∀ G', G' u = some (.mem 0 0 8 [t.cells]) → ldV false 1 (.ptr u 0 0 5) G' = some (.d (.bool t.fin)) := fun G' hG' => ldV_at hG' rfl rfl
 -- the end: all pieces are looked through
 intro X1 hX1
 have part1 : ∀ (G1 : AHeap) (b1 : Nat) (pc : List AV) (P1 : List (Bool × List UInt8)), b1 < 2 ^ (q.last + 1) → pc.length = 8 → G1 i = some (.mem ver 0 24 (Lm.set j (rw' q b1.testBit q.last pc))) → G1 u = some (.mem 0 0 8 [t.cells]) → (∀ x o, x ≠ i → x ≠ u → G x = some o → G1 x = some o) →
   (∀ G2 rowB last2, (∀ x, x ≠ i → x ≠ u → G2 x = G1 x) → G2 i = some (.mem ver 0 24 (Lm.set j (rw' q rowB last2 pc))) → ∃ G3, Fz G2 G3 ∧ G3 i = some (.mem ver 0 24 (Lm.set j (rw' q rowB last2 ((sl8 P1).map AV.d)))) ∧ ∀ x o, x ≠ i → H x = some o → G3 x = some o) →
   (q.got s t.nl t.data).b = b1 → (q.got s t.nl t.data).P = P1 → X1 [.ptr i ver j 0, .ptr u 0 0 0, .junk, .junk] G1 := by
  intro G1 b1 pc P1 hb1 hpc gi gu gx gz eb eP
  refine hX1 _ _ ?_
  intro X2 hX2
  have part2 : ∀ (G2 : AHeap) (last2 : Nat), last2 ≤ 7 → (∀ x, x ≠ i → G2 x = G1 x) → G2 i = some (.mem ver 0 24 (Lm.set j (rw' q b1.testBit last2 pc))) → last2 = (q.piece t).last → (q.piece t).b = b1 % 2 ^ (last2 + 1) → X2 [.ptr i ver j 0, .junk, .junk] G2 := by
   intro G2 last2 hl2 gx2 gi2 el eb2
   refine hX2 _ _ ?_
   have hb8 : b1 < 256 := Nat.lt_of_lt_of_le hb1 (Nat.le_trans (Nat.pow_le_pow_right (by omega) (show q.last + 1 ≤ 8 by have := ok.last; omega)) (by decide))
   refine loop_ind (fun n vs G' => ∃ k : Nat, k ≤ 8 ∧ n = 8 - k ∧ vs = [.ptr i ver j 0, .d (.bool (lk b1.testBit last2 k)), .d (.int .i64 (k : Int))] ∧ (∀ x, x ≠ i → G' x = G1 x) ∧ G' i = some (.mem ver 0 24 (Lm.set j (rw' q (wk b1.testBit last2 k) last2 pc)))) (n := 8) ⟨0, by omega, rfl, rfl, gx2, by rw [gi2, rw_congr (f := wk b1.testBit last2 0) (g := b1.testBit) fun k _ => by simp [wk]]⟩ ?_
   rintro X n vs G' ⟨k, hk8, rfl, rfl, gx', gi'⟩ hX
   by_cases hk : k = 8
   ·subst hk
    simp only [List.getD_cons_succ, List.getD_cons_zero, retZ_d, go_sem]
    rw [if_neg (by decide)]
    obtain ⟨G3, z1, z2, z3⟩ := gz G' _ _ (fun x hx _ => gx' x hx) gi'
    refine ⟨G3, z1, G3, le_refl', ?_⟩
    have hb' : ∀ k, k < 8 → wk b1.testBit last2 8 k = (q.piece t).b.testBit k := fun k hk => by
     rw [eb2, Nat.testBit_mod_two_pow]
     unfold wk
     rw [if_pos hk]
     by_cases h : k ≤ last2
     ·have h3 : (k : Int) ≤ (last2 : Int) := by omega
      have h4 : k < last2 + 1 := by omega
      simp [h3, h4]
     ·have h3 : ¬ (k : Int) ≤ (last2 : Int) := by omega
      have h4 : ¬ k < last2 + 1 := by omega
      simp [h3, h4]
    have hrow : rw' q (wk b1.testBit last2 8) last2 ((sl8 P1).map AV.d) = (q.piece t).row.map AV.d := by
     obtain ⟨e1, e2, e3, e4, e5, e6, e7, e8, e9⟩ := piece_same q t
     rw [rw_congr hb', row_rw]
     have ePP : (q.piece t).P = P1 := by
      rw [← eP]
      unfold Rq.piece
      rw [hs, Int.toNat_natCast]
      dsimp only
      split <;> rfl
     unfold rw'
     rw [e1, e3, e4, e5, e6, e7, e8, el, ePP]
    rw [hrow] at z2
    have hlk : lk b1.testBit last2 8 = !decide ((q.piece t).b = 0) := by
     have hb9 : (q.piece t).b < 256 := by rw [eb2]; exact Nat.lt_of_le_of_lt (Nat.mod_le _ _) hb8
     rw [← bits_zero hb9]
     unfold lk
     rw [Bool.eq_iff_iff, List.any_eq_true, List.any_eq_true]
     have : ∀ x, x < 8 → (b1.testBit x && decide ((x : Int) ≤ (last2 : Int))) = (q.piece t).b.testBit x := fun x hx => by
      rw [← hb' x hx]; unfold wk; rw [if_pos hx]
     constructor
     ·rintro ⟨x, hx, hx2⟩; exact ⟨x, hx, by rw [← this x (by simpa using hx)]; exact hx2⟩
     ·rintro ⟨x, hx, hx2⟩; exact ⟨x, hx, by rw [this x (by simpa using hx)]; exact hx2⟩
    rw [hlk, Bool.not_not]
    exact hk G3 z2 z3
   ·have hlt : (k : Int) < 8 := by omega
    have hw : IntKind.i64.wrap ((k : Int) + 1) = ((k + 1 : Nat) : Int) := by rw [wrap_i64 (by omega) (by omega)]; omega
    have hX' := fun (G4 : AHeap) g1 g2 => hX (8 - (k + 1)) _ G4 (by omega) ⟨k + 1, by omega, rfl, rfl, g1, g2⟩
    have hld := ld_rw gi' hj (rw_want (q := q) (f := wk b1.testBit last2 k) (last := last2) (pc := pc) (show k < 8 by omega))
    have hwk : wk b1.testBit last2 k k = b1.testBit k := by simp [wk]
    have hlast := ld_rw gi' hj (rw_last (q := q) (f := wk b1.testBit last2 k) (last := last2) (pc := pc))
    have hst : ∀ v : Bool, v = (b1.testBit k && decide ((k : Int) ≤ (last2 : Int))) → stoA false 1 (.ptr i ver j (8 + k)) (.d (.bool v)) G' = some (.junk, [(i, .mem ver 0 24 (Lm.set j (rw' q (wk b1.testBit last2 (k + 1)) last2 pc)))]) := fun v hv => sto_rw gi' hj (by omega) hpc ⟨rfl, rfl⟩ (by
     rw [rw_setW (show k < 8 by omega)]
     exact rw_congr fun x _ => by rw [hv]; exact wk_s)
    simp only [List.getD_cons_succ, List.getD_cons_zero, hlt, if_true, go_sem]
    intro X3 hX3
    have part3 : X3 [.ptr i ver j 0, .d (.bool (lk b1.testBit last2 k)), .d (.int .i64 (k : Int))] (G'.set i (.mem ver 0 24 (Lm.set j (rw' q (wk b1.testBit last2 (k + 1)) last2 pc)))) := by
     refine hX3 _ _ ?_
     have gi4 : (G'.set i (.mem ver 0 24 (Lm.set j (rw' q (wk b1.testBit last2 (k + 1)) last2 pc)))) i = some (.mem ver 0 24 (Lm.set j (rw' q (wk b1.testBit last2 (k + 1)) last2 pc))) := set_self
     have hld4 := ld_rw gi4 hj (rw_want (q := q) (f := wk b1.testBit last2 (k + 1)) (last := last2) (pc := pc) (show k < 8 by omega))
     have hwk4 : wk b1.testBit last2 (k + 1) k = (b1.testBit k && decide ((k : Int) ≤ (last2 : Int))) := by simp [wk]
     have hfin := hX' _ (fun x hx => by rw [set_ne hx]; exact gx' x hx) gi4
     rw [lk_s] at hfin
     simp only [List.getD_cons_succ, List.getD_cons_zero]
     cases hlk : lk b1.testBit last2 k with
     | true =>
      rw [hlk] at hfin
      simp only [hw, go_sem]
      simpa using hfin
     | false =>
      rw [hlk] at hfin
      simp only [nilCk_ptr, ti111_f8, Nat.zero_add, ix108_at (show k < 8 by omega), ↓hld4, hwk4, hw, go_sem]
      simpa using hfin
    simp only [nilCk_ptr, ti111_f8, ti111_f7, Nat.zero_add, ix108_at (show k < 8 by omega), ↓hld, hwk, ↓hlast, go_sem]
    cases hb : b1.testBit k with
    | true =>
     simp only [go_sem]
     rw [hst _ (by rw [hb]; rfl)]
     simp only [go_sem]
     exact part3
    | false =>
     simp only [go_sem]
     rw [hst _ (by rw [hb]; rfl)]
     simp only [go_sem]
     exact part3
  simp only [List.getD_cons_succ, List.getD_cons_zero, ti24_f5, Nat.zero_add, ↓hte G1 gu, go_sem]
  have el0 : (q.got s t.nl t.data).last = q.last := by unfold Rq.got; split <;> rfl
  cases hf : t.fin with
  | false =>
   simp only [go_sem]
   have e1 : q.piece t = q.got s t.nl t.data := by unfold Rq.piece; rw [hs, Int.toNat_natCast, hf]; rfl
   exact part2 G1 q.last ok.last (fun _ _ => rfl) gi (by rw [e1, el0]) (by rw [e1, eb, Nat.mod_eq_of_lt hb1])
  | true =>
   have e1 : q.piece t = (q.got s t.nl t.data).fin s := by unfold Rq.piece; rw [hs, Int.toNat_natCast, hf]; rfl
   have hlast := ld_rw gi hj (rw_last (q := q) (f := b1.testBit) (last := q.last) (pc := pc))
   have hmin : foldA min2A [.d (.int .i64 (q.last : Int)), .d (.int .i64 (s : Int))] = some (.d (.int .i64 ((min q.last s : Nat) : Int))) := by
    simp only [foldA, List.foldl, min2A]
    by_cases h : (s : Int) < (q.last : Int)
    ·rw [if_pos h, Nat.min_eq_right (by omega)]
    ·rw [if_neg h, Nat.min_eq_left (by omega)]
   have hst : stoA false 1 (.ptr i ver j 7) (.d (.int .i64 ((min q.last s : Nat) : Int))) G1 = some (.junk, [(i, .mem ver 0 24 (Lm.set j (rw' q b1.testBit ((min q.last s : Nat) : Int) pc)))]) := sto_rw gi hj (by decide) hpc ⟨rfl, rfl⟩ rw_setL
   simp only [nilCk_ptr, ti111_f7, ti24_f3, Nat.zero_add, ↓hlast, ↓hts G1 gu, hmin, go_sem]
   rw [hst]
   simp only [go_sem]
   refine part2 _ (min q.last s) (by have := ok.last; omega) (fun x hx => by rw [set_ne hx]) set_self (by rw [e1]; show _ = min (q.got s t.nl t.data).last s; rw [el0]) ?_
   rw [e1]
   show (q.got s t.nl t.data).b % 2 ^ (s + 1) = _
   rw [eb]
   rcases Nat.le_total q.last s with h | h
   ·rw [Nat.min_eq_left h, Nat.mod_eq_of_lt hb1, Nat.mod_eq_of_lt (Nat.lt_of_lt_of_le hb1 (Nat.pow_le_pow_right (by omega) (by omega)))]
   ·rw [Nat.min_eq_right h]
 have hw0 := ld_rw g2 hj (rw_want (q := q) (f := q.b.testBit) (last := q.last) (pc := (sl8 q.P).map AV.d) hs8)
 have hHG : ∀ x o, x ≠ i → H x = some o → G x = some o := fun x o _ ho => hle _ _ ho
 simp only [drA_true, nilCk_ptr, ti24_f3, ti111_f8, Nat.zero_add, hts G hG, ix108_at hs8, hw0, optA_some]
 cases hb : q.b.testBit s with
 | false =>
  have hgot : q.got s t.nl t.data = q := by unfold Rq.got; rw [if_neg (by simp [hb])]
  simp only [go_sem]
  exact part1 G q.b _ q.P ok.b hP8 g2 hG (fun x o _ _ ho => ho) (fun G2 rb l2 hx2 hi2 => ⟨G2, .refl _, hi2, fun x o hxi ho => by rw [hx2 x hxi (le_ne ho hu)]; exact hHG x o hxi ho⟩) (by rw [hgot]) (by rw [hgot])
 | true =>
  simp only [ifA_t, drA_true, ti24_f3, Nat.zero_add, hts G hG, optA_some, bs5_0]
  intro _ _
  simp only [stepK_some, sets_nil', ti24_f7, Nat.zero_add, ap_lit_ptr, htd G hG, optA_some, true_and]
  refine cpB hl fun v G2 hv hkp => ?_
  have hst := hv.st
  have gi2 : G2 i = some (.mem ver 0 24 (Lm.set j (rw' q q.b.testBit q.last ((sl8 q.P).map AV.d)))) := by rw [hkp i (by rw [g2]; rfl)]; exact g2
  have gu2 : G2 u = some (.mem 0 0 8 [t.cells]) := by rw [hkp u (by rw [hG]; rfl)]; exact hG
  have hs1 : stoA false 1 (.ptr i ver j (16 + s)) v G2 = some (.junk, [(i, .mem ver 0 24 (Lm.set j (rw' q q.b.testBit q.last (((sl8 q.P).map AV.d).set s v))))]) := sto_rw gi2 hj (by omega) hP8 ⟨hst.1, hst.2.1⟩ rw_setP
  have hP8' : (((sl8 q.P).map AV.d).set s v).length = 8 := by rw [List.length_set]; exact hP8
  have hs2 : stoA false 1 (.ptr i ver j (8 + s)) (.d (.bool false)) (G2.set i (.mem ver 0 24 (Lm.set j (rw' q q.b.testBit q.last (((sl8 q.P).map AV.d).set s v))))) = some (.junk, [(i, .mem ver 0 24 (Lm.set j (rw' q (clr q.b s).testBit q.last (((sl8 q.P).map AV.d).set s v))))]) := sto_rw set_self hj (by omega) hP8' ⟨rfl, rfl⟩ (by
   rw [rw_setW hs8]
   refine rw_congr fun x _ => ?_
   rw [clr_bit]
   by_cases hx : x = s
   ·subst hx; simp
   ·simp [hx])
  simp only [nilCk_ptr, ti111_f9, ti111_f8, Nat.zero_add, ix109_at hs8, ix108_at hs8, ap_ptr_ptr, hst.2.2.1, noRsA_nil, ↓hs1, optA_some, stepK_some, sets_cons, sets_nil']
  refine ⟨iu, ?_⟩
  simp only [aggL_d, noRsA_nil, ↓hs2, optA_some, stepK_some, sets_cons, sets_nil', set_set]
  have hgot : q.got s t.nl t.data = { q with b := clr q.b s, T := q.T.set s (t.nl, t.data), P := q.P.set s (false, t.data) } := by unfold Rq.got; rw [if_pos hb]
  have vi : idOf v ≠ some i := fun he => by have := hv.new he; rw [g2] at this; cases this
  have vu : idOf v ≠ some u := fun he => by have := hv.new he; rw [hG] at this; cases this
  refine part1 _ (clr q.b s) _ (q.P.set s (false, t.data)) (clr_lt ok.b) hP8' set_self (by rw [set_ne (Ne.symm iu)]; exact gu2) (fun x o hxi hxu ho => by rw [set_ne hxi, hkp x (by rw [ho]; rfl)]; exact ho) (fun G3 rb l2 hx3 hi3 => ?_) (by rw [hgot]) (by rw [hgot])
  obtain ⟨us, f1, f2, f3⟩ := hv.frz (G := G3) fun x hx => by
   have hxi : x ≠ i := fun he => vi (he ▸ hx)
   have hxu : x ≠ u := fun he => vu (he ▸ hx)
   rw [hx3 x hxi hxu, set_ne hxi]
  have hne : ∀ o, (i, o) ∉ us := fun o ho => vi (f3 _ _ ho)
  have hcell : (rw' q rb l2 (((sl8 q.P).map AV.d).set s v))[16 + s]? = some v := by
   have e : rw' q rb l2 (((sl8 q.P).map AV.d).set s v) = (rw' q rb l2 ((sl8 q.P).map AV.d)).set (16 + s) v := rw_setP.symm
   rw [e, List.getElem?_set_self (by rw [rw_len hP8]; omega)]
  refine ⟨_, fz_cell f1 hi3 hne (by rw [List.getElem?_set_self hj]) hcell, ?_, fun x o hxi ho => ?_⟩
  ·rw [set_self, rw_setP, set_set_l, set_set_l, ← List.map_set, sl8_set (x := (false, t.data))]
  ·have hgx := hle _ _ ho
   have hxu := le_ne ho hu
   rw [set_ne hxi, hv.out f3 hgx, hx3 x hxi hxu, set_ne hxi, hkp x (by rw [hgx]; rfl)]
   exact hgx
end
end Go.Proofs.Ytofjhihigmimbaa
namespace Go.Proofs.Ytofjhihigmimbaa
open Go Go.AM Go.Proofs
section
variable {H G H' : AHeap} {r i ver j : Nat} {nx : Int} {L : List Rq} {Lm : List (List AV)} {q q' : Rq} {v : AV} {K : AV → AHeap → Prop}
theorem set_map_id {L : List Rq} {j : Nat} {q q' : Rq} (hj : L[j]? = some q) (hid : q'.id = q.id) : (L.set j q').map (·.id) = L.map (·.id) := map_set_same hj hid
theorem RA.upd (h : RA H r nx L) (h1 : H r = some (.mem 0 0 2 [[.d (.int .i64 nx), v]])) (hv : Ms 24 H v (L.map Rq.row)) (hi : idOf v = some i) (hL : H i = some (.mem ver 0 24 Lm)) (hj : L[j]? = some q) (hid : q'.id = q.id) (hok : q'.Ok)
  (e : H' i = some (.mem ver 0 24 (Lm.set j (q'.row.map AV.d)))) (er : H' r = H r) : RA H' r nx (L.set j q') := by
 have hjl : j < (L.map Rq.row).length := by rw [List.length_map]; exact (List.getElem?_eq_some_iff.1 hj).1
 refine ⟨⟨v, er.trans h1, ?_⟩, by rw [set_map_id hj hid]; exact h.ids, fun x hx => ?_, by rw [List.length_set]; exact h.len, h.nx⟩
 ·rw [List.map_set]
  refine (hv.put hi hL hjl (c := q'.row) (row_len hok)).keep fun x hx => ?_
  rw [hi] at hx; cases hx
  rw [e, set_self]
 ·rcases List.mem_or_eq_of_mem_set hx with h3 | h3
  ·exact h.ok x h3
  ·rw [h3]; exact hok
theorem ld_row {n : Nat} {x : Dat} (h1 : H i = some (.mem ver 0 24 Lm)) (h2 : Lm[j]? = some (q.row.map AV.d)) (h : q.row[n]? = some x) : ldV false 1 (.ptr i ver j n) H = some (.d x) := ldV_at h1 h2 (by rw [List.getElem?_map, h]; rfl)
theorem frzLK_tr {t : Tr} {l : List AV} {H : AHeap} {K : List AV → AHeap → Prop} : frzLK (t.av :: l) H K = frzLK l H fun l' H' => K (t.av :: l') H' := by
 simp only [Tr.av, Tr.cells, frzLK_agg, frzL_cons, frz_d, frzL_nil, sets_nil', List.append_nil, optA_some]
set_option maxHeartbeats 1000000 in
theorem rtake_c (h : RA H r nx L) {t : Tr} (hnl : t.nl = true → t.data = [])
  (h0 : ¬ t.Valid → K (.tup [.d (.sl true []), .d (.int .i64 2)]) H)
  (h1 : t.Valid → (t.kind = 1 → ∀ (i : Nat) (q : Rq), L[i]? = some q → q.id = t.id → q.state = 3) → K (.tup [.d (.sl true []), .d (.int .i64 0)]) H)
  (h2 : t.Valid → t.kind = 1 → ∀ (i : Nat) (q : Rq), L[i]? = some q → q.id = t.id → q.state ≠ 3 → ∀ nl H', (nl = true → q.outs Rq.reqR t = []) → RA H' r nx (L.set i (q.took t)) → Fr SR H H' → K (.tup [.d (.sl nl ((q.outs Rq.reqR t).map Tr.dats)), .d (.int .i64 0)]) H') :
  CallsA Try.prog 48 [.ptr r 0 0 0, t.av] H K := by
 apply C48
 unfold S48
 refine box_open rfl fun u G hG hle hu => ?_
 have hR := h.le hle
 have hG : G u = some (.mem 0 0 8 [t.cells]) := hG
 have hG' : G u = some (.mem 0 0 8 [[.d (.int .i64 t.kind), .d (.int .i64 t.id), .d (.int .i64 t.bits), .d (.int .i64 t.seq), .d (.bool t.once), .d (.bool t.fin), .d (.bool t.ask), .d (.sl t.nl (bs t.data))]]) := hG
 have lav : ∀ G', G' u = some (.mem 0 0 8 [t.cells]) → ldV true 8 (.ptr u 0 0 0) G' = some t.av := fun G' hh => by simp only [ldV, hh, if_true]; rfl
 have lid : ldV false 1 (.ptr u 0 0 1) G = some (.d (.int .i64 t.id)) := ldV_at hG rfl rfl
 have lk0 : ldV false 1 (.ptr u 0 0 0) G = some (.d (.int .i64 t.kind)) := ldV_at hG rfl rfl
 simp only [lav G hG, optA_some, frzLK_tr, frzLK_nil]
 refine rvalid_c (t := t) ?_
 by_cases hv' : ¬ t.Valid
 ·simp only [hv', decide_false, Bool.not_false, go_sem]
  exact ⟨H, hle, h0 hv'⟩
 have hv : t.Valid := Decidable.not_not.1 hv'
 have h64 : t.data.length ≤ 64 := by have := hv.2.1; omega
 have end0 : (t.kind = 1 → ∀ (i : Nat) (q : Rq), L[i]? = some q → q.id = t.id → q.state = 3) → finA (.tup [.d (.sl true []), .d (.int .i64 0)]) G K := fun hh => ⟨H, hle, h1 hv hh⟩
 simp only [hv, decide_true, unA_not, Bool.not_true, optA_some, ifA_f, ti24_f1, Nat.zero_add, lid, frzLK_ptr, frzLK_d, frzLK_nil]
 refine rfind_c hR (fun j q hj hid => ?_) fun hn => by
  simp only [ti24_f0, getM_of hG', go_sem]
  refine ite_of (fun hk => end0 fun h1 => absurd h1 hk) fun hk => ?_
  rw [if_pos (by decide)]
  exact end0 fun _ j x hj hx => absurd (List.mem_map.2 ⟨x, List.mem_of_getElem? hj, hx⟩) hn
 obtain ⟨v, e1, e2, e3, e4⟩ := hR.at
 obtain ⟨i, ver, Lm, f1, f2, f3, f4⟩ := e4 j q hj
 have ok := h.ok q (List.mem_of_getElem? hj)
 have hjm : j < Lm.length := (List.getElem?_eq_some_iff.1 f4).1
 have iu : i ≠ u := fun he => by subst he; rw [f3] at hG; cases hG
 have ru : r ≠ u := fun he => by subst he; rw [e1] at hG; cases hG
 have ir : i ≠ r := fun he => by subst he; rw [f3] at e1; cases e1
 have uniq : ∀ (j' : Nat) (x : Rq), L[j']? = some x → x.id = t.id → x = q := fun j' x hj' hx => ((id_eq h.ids hj hj' (hid.trans hx.symm)).2).symm
 have hneg : ¬ ((j : Int) < 0) := by omega
 have l1 := ld_row f3 f4 (q := q) (n := 1) rfl
 have l3 := ld_row f3 f4 (q := q) (n := 3) rfl
 have l0 := ld_row f3 f4 (q := q) (n := 0) rfl
 have lv : ldV false 1 (.ptr r 0 0 1) G = some v := ldV_at e1 rfl rfl
 have la6 : ∀ G', G' u = some (.mem 0 0 8 [t.cells]) → ldV false 1 (.ptr u 0 0 6) G' = some (.d (.bool t.ask)) := fun G' hh => ldV_at hh rfl rfl
 simp only [ti24_f0, Nat.zero_add, lk0, optA_some, intA_neq, ifA_ite]
 refine ite_of (fun hk => by simp only [go_sem]; exact end0 fun h1 => absurd h1 hk) fun hk => ?_
 have hkind : t.kind = 1 := by simpa using hk
 simp only [intA_lss, optA_some, ifA_ite, hneg, if_false, nilCk_ptr, ti105_f1, Nat.zero_add, lv, f1, ti111_f1, l1, intA_eql]
 refine ite_of (fun h3 => by simp only [go_sem]; exact end0 fun _ j x hj hx => by rw [uniq j x hj hx]; exact h3) fun h3 => ?_
 have fin := h2 hv hkind j q hj hid h3
 have hseq : 0 ≤ t.seq ∧ t.seq ≤ 7 := by have := hv.2.2; omega
 have fr : ∀ {G' : AHeap} {o' : AObj}, G'.set i o' = G'.set i o' → (∀ x o, x ≠ i → G x = some o → G' x = some o) → Fr SR H (G'.set i o') := fun _ hh x o hx ho => by
  have hgx := hle _ _ hx
  have hxi : x ≠ i := fun he => by subst he; rw [f3] at hgx; cases hgx; exact ho (by simp [osz])
  rw [set_ne hxi]; exact hh x o hxi hgx
 refine ite_of (fun hst => ?_) fun hst => ?_
 ·simp only [lav G hG, optA_some, frzLK_ptr, frzLK_tr, frzLK_nil]
  refine rpiece_c ok hjm f3 f4 hseq (by omega) fun G2 k1 k2 => ?_
  obtain ⟨p1, p2, p3, p4, p5, p6, p7, p8, p9⟩ := piece_same q t
  have pok := piece_ok ok hst h64 hnl
  have u2 := k2 u _ (Ne.symm iu) hG
  have r2 := k2 r _ (Ne.symm ir) e1
  have s2 : (Lm.set j ((q.piece t).row.map AV.d))[j]? = some ((q.piece t).row.map AV.d) := by rw [List.getElem?_set_self hjm]
  have hR2 := hR.upd (H' := G2) e1 e2 f2 f3 hj (q' := q.piece t) p1 pok k1 (by rw [r2, e1])
  by_cases hb : (q.piece t).b = 0
  ·have htk : q.took t = { q.piece t with state := 2 } := by unfold Rq.took; rw [if_pos hst, if_neg (by simp [hb])]
   have hou : q.outs Rq.reqR t = if q.once then [rel q.id] else [] := by unfold Rq.outs; rw [if_pos hst, if_neg (by simp [hb])]
   obtain ⟨w1, w2⟩ := sto_row (q := q.piece t) (q' := q.took t) (n := 1) (x := .int .i64 2) k1 s2 (by rw [row_len pok]; decide) (by rw [htk]; rfl)
   have hR3 := hR.upd (H' := G2.set i (.mem ver 0 24 ((Lm.set j ((q.piece t).row.map AV.d)).set j ((q.took t).row.map AV.d)))) e1 e2 f2 f3 hj (q' := q.took t) (took_same q t).1 (took_ok ok h64 hnl) (by rw [set_self, set_set_l]) (by rw [set_ne (Ne.symm ir), r2, e1])
   have m1 := ld_row (H := G2.set i (.mem ver 0 24 ((Lm.set j ((q.piece t).row.map AV.d)).set j ((q.took t).row.map AV.d)))) set_self w2 (q := q.took t) (n := 1) (x := .int .i64 2) (by rw [htk]; rfl)
   have m3 := ld_row (H := G2.set i (.mem ver 0 24 ((Lm.set j ((q.piece t).row.map AV.d)).set j ((q.took t).row.map AV.d)))) set_self w2 (q := q.took t) (n := 3) (x := .bool q.once) (by rw [← (took_same q t).2.2]; rfl)
   have m0 := ld_row (H := G2.set i (.mem ver 0 24 ((Lm.set j ((q.piece t).row.map AV.d)).set j ((q.took t).row.map AV.d)))) set_self w2 (q := q.took t) (n := 0) (x := .int .i64 t.id) (by rw [← hid, ← (took_same q t).1]; rfl)
   have hfr := fr (G' := G2) (o' := .mem ver 0 24 ((Lm.set j ((q.piece t).row.map AV.d)).set j ((q.took t).row.map AV.d))) rfl k2
   simp only [hb, decide_true, ifA_t, nilCk_ptr, ti111_f1, Nat.zero_add, optA_some, w1, stepK_some, sets_cons, sets_nil', m1, intA_eql, ifA_ite, if_true, ti111_f3, m3]
   cases hon : q.once with
   | true =>
    rw [hou, hon] at fin
    simp only [ifA_t, nilCk_ptr, ti111_f0, optA_some, Nat.zero_add, m0, bd24_rel, stepK_some, sets_nil', bs24_1, newK_iff]
    intro n hn
    simp only [go_sem]
    have := fin false _ (fun h => by simp at h) hR3 hfr
    simp only [List.map_cons, List.map_nil, if_true, Tr.dats, rel, hid, bs_nil] at this
    exact ⟨_, le_refl', this⟩
   | false =>
    rw [hou, hon] at fin
    simp only [ifA_f, nilCk_ptr, ti111_f1, optA_some, Nat.zero_add, m1, intA_eql, ifA_ite, Int.reduceEq, Int.reduceNe, Int.reduceLT, Int.reduceLE, not_true_eq_false, not_false_eq_true, decide_true, decide_false, Int.reduceAdd, Int.reduceSub, Int.reduceMul, if_false, go_sem]
    exact ⟨_, le_refl', fin true _ (fun _ => rfl) hR3 hfr⟩
  ·have m1 := ld_row k1 s2 (q := q.piece t) (n := 1) (x := .int .i64 1) (by rw [← hst, ← p3]; rfl)
   have hfr2 : Fr SR H G2 := fun x o hx ho => by
    have hgx := hle _ _ hx
    have hxi : x ≠ i := fun he => by subst he; rw [f3] at hgx; cases hgx; exact ho (by simp [osz])
    exact k2 x o hxi hgx
   have same : ¬ (t.ask = true ∧ (q.piece t).sent < (q.piece t).tries) → K (.tup [.d (.sl true []), .d (.int .i64 0)]) G2 := fun hn => by
    have htk : q.took t = q.piece t := by unfold Rq.took; rw [if_pos hst, if_pos hb, if_neg hn]
    have hou : q.outs Rq.reqR t = [] := by unfold Rq.outs; rw [if_pos hst, if_pos hb, if_neg hn]
    rw [htk, hou] at fin
    exact fin true _ (fun _ => rfl) hR2 hfr2
   simp only [hb, decide_false, ifA_f, nilCk_ptr, ti111_f1, Nat.zero_add, optA_some, m1, intA_eql, ifA_ite, Int.reduceEq, Int.reduceNe, Int.reduceLT, Int.reduceLE, not_true_eq_false, not_false_eq_true, decide_true, decide_false, Int.reduceAdd, Int.reduceSub, Int.reduceMul, if_false, if_true, ti24_f6, la6 G2 u2]
   cases ha : t.ask with
   | false =>
    simp only [ifA_f, go_sem]
    exact ⟨_, le_refl', same (by simp [ha])⟩
   | true =>
    simp only [ifA_t, frzLK_ptr, frzLK_nil]
    refine ragain_c (tick0_ok pok) k1 s2 (fun hlt => ?_) fun hlt => ?_
    ·simp only [go_sem]
     exact ⟨_, le_refl', same (by simp [hlt])⟩
    ·have htk : q.took t = { q.piece t with sent := (q.piece t).sent + 1, ticks := 0 } := by unfold Rq.took; rw [if_pos hst, if_pos hb, if_pos ⟨ha, hlt⟩]
     have hou : q.outs Rq.reqR t = [(q.piece t).reqR] := by unfold Rq.outs; rw [if_pos hst, if_pos hb, if_pos ⟨ha, hlt⟩]
     have hag : (q.piece t).againR = q.took t := by rw [htk]; unfold Rq.againR; rw [if_pos hlt]
     rw [hou] at fin
     rw [hag]
     simp only [go_sem]
     have hR3 := hR.upd (H' := G2.set i (.mem ver 0 24 ((Lm.set j ((q.piece t).row.map AV.d)).set j ((q.took t).row.map AV.d)))) e1 e2 f2 f3 hj (q' := q.took t) (took_same q t).1 (took_ok ok h64 hnl) (by rw [set_self, set_set_l]) (by rw [set_ne (Ne.symm ir), r2, e1])
     exact ⟨_, le_refl', fin false _ (fun h => by simp at h) hR3 (fr rfl k2)⟩
 ·have htk : q.took t = q := by unfold Rq.took; rw [if_neg hst]
  have hou : q.outs Rq.reqR t = if q.once then [rel q.id] else [] := by unfold Rq.outs; rw [if_neg hst]
  have hs2 : q.state = 2 := by have := ok.state; omega
  rw [htk, set_same hj] at fin
  rw [hid] at l0
  simp only [nilCk_ptr, ti111_f1, Nat.zero_add, optA_some, l1, hs2, intA_eql, ifA_ite, Int.reduceEq, Int.reduceNe, Int.reduceLT, Int.reduceLE, not_true_eq_false, not_false_eq_true, decide_true, decide_false, Int.reduceAdd, Int.reduceSub, Int.reduceMul, if_true, ti111_f3, l3]
  cases hon : q.once with
  | true =>
   rw [hou, hon] at fin
   simp only [ifA_t, nilCk_ptr, ti111_f0, optA_some, Nat.zero_add, l0, bd24_rel, stepK_some, sets_nil', bs24_1, newK_iff]
   intro n hn
   simp only [go_sem]
   have := fin false _ (fun h => by simp at h) hR (Fr.of_le hle)
   simp only [List.map_cons, List.map_nil, if_true, Tr.dats, rel, hid, bs_nil] at this
   exact ⟨_, le_refl', this⟩
  | false =>
   rw [hou, hon] at fin
   simp only [ifA_f, nilCk_ptr, ti111_f1, optA_some, Nat.zero_add, l1, hs2, intA_eql, ifA_ite, Int.reduceEq, Int.reduceNe, Int.reduceLT, Int.reduceLE, not_true_eq_false, not_false_eq_true, decide_true, decide_false, Int.reduceAdd, Int.reduceSub, Int.reduceMul, if_false, go_sem]
   exact ⟨_, le_refl', fin true _ (fun _ => rfl) hR (Fr.of_le hle)⟩
end
end Go.Proofs.Ytofjhihigmimbaa

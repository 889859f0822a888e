/- What is a packet, and what of it is told. -/
import Derived.Test.YtofjhihigmimbaaT10
set_option autoImplicit false
set_option maxRecDepth 100000
set_option linter.unusedVariables false
set_option linter.unusedSimpArgs false
namespace Go.Proofs.Ytofjhihigmimbaa
open Go Go.AM Go.Proofs
theorem k_bool {K : AV → AHeap → Prop} {H : AHeap} {b c : Bool} (h : K (.d (.bool b)) H) (e : c = b) : K (.d (.bool c)) H := e ▸ h
/-- A packet. -/
structure Tr where
  kind : Int
  id : Int
  bits : Int
  seq : Int
  once : Bool
  fin : Bool
  ask : Bool
  nl : Bool
  data : List UInt8
abbrev Tr.cells (t : Tr) : List AV := [.d (.int .i64 t.kind), .d (.int .i64 t.id), .d (.int .i64 t.bits), .d (.int .i64 t.seq), .d (.bool t.once), .d (.bool t.fin), .d (.bool t.ask), .d (.sl t.nl (bs t.data))]
abbrev Tr.av (t : Tr) : AV := .agg t.cells
def Tr.Valid (t : Tr) : Prop := (0 ≤ t.id ∧ t.id ≤ 65535) ∧ (t.data.length : Int) ≤ 64 ∧ ((t.kind = 0 ∧ (1 ≤ t.bits ∧ t.bits ≤ 255) ∧ t.seq = 0 ∧ t.fin.toNat = 0 ∧ t.ask.toNat = 0) ∨ (t.kind = 1 ∧ t.bits = 0 ∧ (0 ≤ t.seq ∧ t.seq ≤ 7) ∧ t.once.toNat = 0) ∨ (t.kind = 2 ∧ t.bits = 0 ∧ t.seq = 0 ∧ t.once.toNat = 0 ∧ t.fin.toNat = 0 ∧ t.ask.toNat = 0 ∧ (t.data.length : Int) = 0))
instance (t : Tr) : Decidable t.Valid := by unfold Tr.Valid; exact inferInstance
theorem within_c {n low high : Int} {H : AHeap} {K : AV → AHeap → Prop} (h : K (.d (.bool (decide (low ≤ n ∧ n ≤ high)))) H) : CallsA Try.prog 46 [.d (.int .i64 n), .d (.int .i64 low), .d (.int .i64 high)] H K := by
  apply C46
  simp only [S46, go_sem]
  split <;> (rename_i h1; exact ⟨H, le_refl', by simpa [h1] using h⟩)
theorem valid_c {t : Tr} {H : AHeap} {K : AV → AHeap → Prop} (h : K (.d (.bool (decide t.Valid))) H) : CallsA Try.prog 11 [t.av] H K := by
  apply C11
  unfold S11
  refine box_open rfl fun k G hG hle hk => ?_
  obtain ⟨kind, id, bits, seq, once, fin, ask, nl, data⟩ := t
  cases once <;> cases fin <;> cases ask <;>
  repeat' first
    | (refine within_c ?_; simp only [getM_of hG, bs_length, ti24_f0, ti24_f1, ti24_f2, ti24_f3, ti24_f4, ti24_f5, ti24_f6, ti24_f7, Bool.not_true, Bool.not_false, go_sem])
    | (exact ⟨H, hle, k_bool h (by unfold Tr.Valid; first | (exact (decide_eq_false (by simp only [Bool.toNat_false, Bool.toNat_true, true_and, and_true, and_false, false_and, or_false, false_or, Nat.one_ne_zero, iff_false, not_false_eq_true] <;> omega)).symm) | (exact decide_eq_decide.2 (by simp only [Bool.toNat_false, Bool.toNat_true, true_and, and_true, and_false, false_and, or_false, false_or, Nat.one_ne_zero, iff_false, not_false_eq_true] <;> omega)) | (exact (decide_eq_true (by simp only [Bool.toNat_false, Bool.toNat_true, true_and, and_true, and_false, false_and, or_false, false_or, Nat.one_ne_zero, iff_false, not_false_eq_true] <;> omega)).symm))⟩)
    | split
    | simp only [getM_of hG, bs_length, ti24_f0, ti24_f1, ti24_f2, ti24_f3, ti24_f4, ti24_f5, ti24_f6, ti24_f7, Bool.not_true, Bool.not_false, go_sem]
set_option maxHeartbeats 2000000 in
theorem rvalid_c {t : Tr} {H : AHeap} {K : AV → AHeap → Prop} (h : K (.d (.bool (decide t.Valid))) H) : CallsA Try.prog 12 [t.av] H K := by
  apply C12
  unfold S12
  refine box_open rfl fun k G hG hle hk => ?_
  obtain ⟨kind, id, bits, seq, once, fin, ask, nl, data⟩ := t
  cases once <;> cases fin <;> cases ask <;>
  repeat' first
    | (exact ⟨H, hle, k_bool h (by unfold Tr.Valid; first | (exact (decide_eq_false (by simp only [Bool.toNat_false, Bool.toNat_true, true_and, and_true, and_false, false_and, or_false, false_or, Nat.one_ne_zero, iff_false, not_false_eq_true] <;> omega)).symm) | (exact decide_eq_decide.2 (by simp only [Bool.toNat_false, Bool.toNat_true, true_and, and_true, and_false, false_and, or_false, false_or, Nat.one_ne_zero, iff_false, not_false_eq_true] <;> omega)) | (exact (decide_eq_true (by simp only [Bool.toNat_false, Bool.toNat_true, true_and, and_true, and_false, false_and, or_false, false_or, Nat.one_ne_zero, iff_false, not_false_eq_true] <;> omega)).symm))⟩)
    | split
    | simp only [getM_of hG, bs_length, ti24_f0, ti24_f1, ti24_f2, ti24_f3, ti24_f4, ti24_f5, ti24_f6, ti24_f7, Bool.not_true, Bool.not_false, go_sem]
theorem nilA_eql {nl nl2 : Bool} {l l2 : List (List Dat)} : nilA 0 .eql (.d (.sl nl l)) (.d (.sl true l2)) = some (.d (.bool nl)) := by cases nl <;> rfl
theorem bs5_0 {H : AHeap} {n : Nat} : bsA ti5 0 [] [] H n = some (.lit [], []) := rfl
theorem clone_c {nl : Bool} {l : List UInt8} (hl : l.length < 2 ^ 40) (hnl : nl = true → l = []) {H : AHeap} {K : AV → AHeap → Prop} (h : K (.d (.sl nl (bs l))) H) : CallsA Try.prog 69 [.d (.sl nl (bs l))] H K := by
  apply C69
  unfold S69
  simp only [nilA_eql (nl2 := true), go_sem]
  cases nl with
  | true =>
    rw [hnl rfl] at h
    simp only [go_sem]
    exact ⟨H, le_refl', h⟩
  | false =>
    simp only [go_sem]
    intro n hn
    simp only [bs5_0, go_sem]
    refine (Gr.lit le_refl').app (ys := bs l) rfl (by decide) (by decide) bs_sz (by rw [bs_length]; simp [mostBytes]; omega) fun v' H3 hv' _ _ hn3 => ?_
    rw [List.nil_append] at hv'
    refine hv'.own.ret le_refl' ?_
    rw [hn3]
    exact h
theorem le_same {H G : AHeap} {p : Nat} {o : AObj} (h : AHeap.le H G) : AHeap.le (H.set p o) (G.set p o) := fun i x hi => by
  by_cases he : i = p
  · subst he; rw [set_self] at hi ⊢; exact hi
  · rw [set_ne he] at hi ⊢; exact h _ _ hi
theorem nilP_eql {i v e o : Nat} : nilA 3 .eql (.ptr i v e o) .nilptr = some (.d (.bool false)) := rfl
theorem nilP_neq {i v e o : Nat} : nilA 3 .neq (.ptr i v e o) .nilptr = some (.d (.bool true)) := rfl
theorem nilN_eql : nilA 3 .eql .nilptr .nilptr = some (.d (.bool true)) := rfl
theorem nilN_neq : nilA 3 .neq .nilptr .nilptr = some (.d (.bool false)) := rfl
theorem nilCk_ptr {i v e o : Nat} : nilCkA (.ptr i v e o) = some (.ptr i v e o) := rfl
abbrev aObj (nx : Int) (m : Nat) : AObj := .mem 0 0 3 [[.d (.bool true), .d (.int .i64 nx), .map m]]
theorem none_c {H : AHeap} {k m : Nat} {nx : Int} {K : AV → AHeap → Prop} (hk : H k = some (aObj nx m)) (h : K (.d (.bool false)) H) : CallsA Try.prog 68 [.ptr k 0 0 0] H K := by
  apply C68
  unfold S68
  simp only [nilP_eql, nilCk_ptr, ti73_f0, getM_of hk, Bool.not_true, go_sem]
  exact ⟨H, le_refl', h⟩
/-- What an asker keeps of a request. -/
structure As where
  nl : Bool
  data : List UInt8
  once : Bool
  tries : Int
  state : Int
  bits : Int
  sent : Int
  ticks : Int
abbrev As.cells (x : As) (T : List AV) : List AV := .d (.sl x.nl (bs x.data)) :: .d (.bool x.once) :: .d (.int .i64 x.tries) :: .d (.int .i64 x.state) :: .d (.int .i64 x.bits) :: .d (.int .i64 x.sent) :: .d (.int .i64 x.ticks) :: T
abbrev xObj (x : As) (T : List AV) : AObj := .mem 0 0 23 [x.cells T]
theorem bd24_req {a b c d : Dat} {H : AHeap} : bdA Try.prog ti24 [0, 1, 2, 4, 7] [.d (.int .i64 0), .d a, .d b, .d c, .d d] H = some (.agg [.d (.int .i64 0), .d a, .d b, .d (.int .i64 0), .d c, .d (.bool false), .d (.bool false), .d d], []) := by
  simp only [bdA, bd24, cell3, cell4, cell22, fillA, setCells, List.zip_cons_cons, List.zip_nil_right, Option.map_some, Nat.reduceLeDiff, List.cons_append, go_sem]
def As.req (x : As) (id : Int) : Tr := ⟨0, id, x.bits, 0, x.once, false, false, x.nl, x.data⟩
theorem send_c {H : AHeap} {p : Nat} {x : As} {T : List AV} {id : Int} {K : AV → AHeap → Prop} (hp : H p = some (xObj x T)) (hs : 0 ≤ x.sent ∧ x.sent < 1000) (hl : x.data.length < 2 ^ 40) (hnl : x.nl = true → x.data = [])
    (h : K (x.req id).av (H.set p (xObj { x with sent := x.sent + 1, ticks := 0 } T))) : CallsA Try.prog 70 [.ptr p 0 0 0, .d (.int .i64 id)] H K := by
  apply C70
  unfold S70
  refine alloc_open fun k G hG hle hk => ?_
  have hpk : p ≠ k := le_ne hp hk
  have hG' := hle _ _ hp
  simp only [nilCk_ptr, ti129_f0, ti129_f1, ti129_f4, ti129_f5, ti129_f6, getM_of hG', getM_set, As.cells, stoA_agg, stoA_get, stoM, setCells, and_self, true_and, Nat.le_refl, Nat.reduceLeDiff, List.cons_append, List.set_cons_zero, List.getElem?_cons_zero, go_sem]
  refine ⟨_, clone_c hl hnl ⟨rfl, le_refl'⟩, ?_⟩
  simp only [bd24_req, go_sem]
  simp only [getM_ne (Ne.symm hpk), getM_of hG, stoA_agg, stoA_get, stoM, setCells, and_self, true_and, Nat.le_refl, Nat.reduceLeDiff, List.cons_append, List.set_cons_zero, List.getElem?_cons_zero, go_sem]
  rw [wrap_i64 (by omega) (by omega)]
  refine ⟨_, ?_, h⟩
  exact le_set_own (le_same hle) (by rw [set_ne (Ne.symm hpk)]; exact hk)
end Go.Proofs.Ytofjhihigmimbaa

/- The example of the chapter: what an asker does. -/
import Derived.Test.YtofjhihigmimbaaM10a
set_option autoImplicit false
set_option maxRecDepth 100000
set_option linter.unusedVariables false
set_option linter.unusedSimpArgs false
namespace Go.Proofs.Ytofjhihigmimbaa
open Go Go.AM Go.Proofs
theorem keyInt {k : Int} {f : AV → Option AV} : lookKA Try.prog 3 (.d (.int .i64 k)) f = f (.d (.int .i64 k)) := by
  simp only [lookKA, Try.underlying3, keyOk, decide_true, if_true]
theorem keyEq_int {a b : Int} : keyEq (.int .i64 a) (.int .i64 b) = some (a == b) := rfl
theorem bd73_new {m : Nat} {n : Dat} {H : AHeap} : bdA Try.prog ti73 [0, 1, 2] [.d (.bool true), .d n, .map m] H = some (.agg [.d (.bool true), .d n, .map m], []) := by
  simp only [bdA, bd73, cell3, cell4, cell71, fillA, setCells, List.zip_cons_cons, List.zip_nil_right, Option.map_some, Nat.reduceLeDiff, List.cons_append, go_sem]
theorem newAsker_c {first : Int} (h0 : 0 ≤ first ∧ first ≤ 65535) {H : AHeap} {K : AV → AHeap → Prop}
    (hk : ∀ k m H', H' k = some (aObj first m) → H' m = some (.map [] 0) → AHeap.le H H' → H k = none → H m = none → K (.tup [.ptr k 0 0 0, .d (.int .i64 0)]) H') : CallsA Try.prog 15 [.d (.int .i64 first)] H K := by
  apply C15
  unfold S15
  simp only [frzLK_d, frzLK_nil]
  refine within_c ?_
  simp only [h0, and_self, decide_true, Bool.not_true, go_sem]
  intro m hm
  simp only [bd73_new, go_sem]
  refine box_open rfl fun k G hG hle hkk => ?_
  simp only [go_sem]
  exact ⟨G, le_refl', hk k m G hG (hle _ _ set_self) (fun i x hi => hle _ _ (le_set le_refl' hm _ _ hi)) (set_none.1 hkk).2 hm⟩
def nl8 : List AV := List.replicate 8 (.d (.sl true []))
abbrev T0 : List AV := [.d (.sl true []), .d (.sl true []), .d (.sl true []), .d (.sl true []), .d (.sl true []), .d (.sl true []), .d (.sl true []), .d (.sl true []), .d (.bool false), .d (.bool false), .d (.bool false), .d (.bool false), .d (.bool false), .d (.bool false), .d (.bool false), .d (.bool false)]
theorem bd129_new {a b c d e : Dat} {H : AHeap} : bdA Try.prog ti129 [0, 1, 2, 3, 4] [.d a, .d b, .d c, .d d, .d e] H = some (.agg (.d a :: .d b :: .d c :: .d d :: .d e :: .d (.int .i64 0) :: .d (.int .i64 0) :: T0), []) := by
  simp only [bdA, bd129, cell3, cell4, cell22, fillA, setCells, List.zip_cons_cons, List.zip_nil_right, Option.map_some, Nat.reduceLeDiff, List.cons_append, go_sem]
  done
structure One (H : AHeap) (k m p : Nat) (nx : Int) (x : As) (T : List AV) : Prop where
  asker : H k = some (aObj nx m)
  map : H m = some (.map [⟨.int .i64 0, .ptr p 0 0 0, 0⟩] 1)
  obj : H p = some (xObj x T)
theorem One.ne {H : AHeap} {k m p : Nat} {nx : Int} {x : As} {T : List AV} (h : One H k m p nx x T) : k ≠ m ∧ k ≠ p ∧ m ≠ p := by
  refine ⟨fun he => ?_, fun he => ?_, fun he => ?_⟩
  · subst he; have := h.asker; rw [h.map] at this; cases this
  · subst he; have := h.asker; rw [h.obj] at this; cases this
  · subst he; have := h.obj; rw [h.map] at this; cases this
def x1 : As := ⟨false, [113], false, 4, 1, 7, 0, 0⟩
theorem shl13 : intA .shl (.d (.int .i64 1)) (.d (.int .i64 3)) = some (.d (.int .i64 8)) := rfl
theorem sub81 : intA .sub (.d (.int .i64 8)) (.d (.int .i64 1)) = some (.d (.int .i64 7)) := rfl
theorem rem0 : intA .rem (.d (.int .i64 (IntKind.i64.wrap (0 + 1)))) (.d (.int .i64 65536)) = some (.d (.int .i64 1)) := rfl
theorem ask_c {H : AHeap} {k m : Nat} (hk : H k = some (aObj 0 m)) (hm : H m = some (.map [] 0)) {K : AV → AHeap → Prop}
    (h : ∀ p H', One H' k m p 1 { x1 with sent := 1 } T0 → H p = none → (∀ i o, i ≠ k → i ≠ m → H i = some o → H' i = some o) → K (.tup [.d (.int .i64 0), (x1.req 0).av, .d (.int .i64 0)]) H') : CallsA Try.prog 30 [.ptr k 0 0 0, .d (.sl false (bs [113])), .d (.int .i64 3), .d (.bool false), .d (.int .i64 4)] H K := by
  have hkm : k ≠ m := fun he => by subst he; rw [hk] at hm; cases hm
  apply C30
  unfold S30
  refine alloc_open fun u G hG hle hu => ?_
  have hk' := hle _ _ hk
  have hm' := hle _ _ hm
  have hku := le_ne hk hu
  have hmu := le_ne hm hu
  simp only [frzLK_ptr, frzLK_nil]
  refine none_c hk' ?_
  have e1 : (bs [113]).length = 1 := rfl
  simp only [e1, go_sem]
  rw [if_neg (by decide)]
  refine within_c ?_
  simp only [go_sem]
  rw [if_neg (by decide)]
  refine within_c ?_
  simp only [go_sem]
  rw [if_neg (by decide)]
  have hl : lenMp (.map m) G = some (.d (.int .i64 0)) := by simp only [lenMp, hm']; rfl
  simp only [nilCk_ptr, ti73_f2, getM_of hk', hl, go_sem]
  rw [if_neg (by decide)]
  refine loop_ind (fun n vs G' => vs = [.ptr k 0 0 0, .d (.sl false (bs [113])), .d (.int .i64 3), .d (.bool false), .d (.int .i64 4), .ptr u 0 0 0] ∧ G' = G) (n := 0) ⟨rfl, rfl⟩ ?_
  rintro X _ _ _ ⟨rfl, rfl⟩ _
  simp only [List.getD_cons_succ, List.getD_cons_zero, nilCk_ptr, ti73_f1, ti73_f2, getM_of hk', keyInt, lookA, hm', findE, nilN_neq, rem0, Bool.false_eq_true, if_false, getM_set, stoA_agg, stoA_get, stoM, setCells, and_self, true_and, Nat.le_refl, Nat.reduceLeDiff, List.cons_append, List.set_cons_zero, List.getElem?_cons_zero, go_sem]
  refine ⟨_, clone_c (by decide) (by decide) ⟨rfl, le_refl'⟩, ?_⟩
  simp only [shl13, sub81, bd129_new, go_sem]
  refine box_open rfl fun p G2 hG2 hle2 hp => ?_
  have gk : G2 k = some (aObj 1 m) := hle2 _ _ set_self
  have gm : G2 m = some (.map [] 0) := hle2 _ _ (by rw [set_ne (Ne.symm hkm)]; exact hm')
  have gu := hle2 u _ (by rw [set_ne (Ne.symm hku)]; exact hG)
  have hpm : p ≠ m := fun he => by subst he; rw [gm] at hG2; cases hG2
  have hpk : p ≠ k := fun he => by subst he; rw [gk] at hG2; cases hG2
  have hpu : p ≠ u := fun he => by subst he; rw [gu] at hG2; cases hG2
  have hmu2 : muA Try.prog 3 (.map m) (.d (.int .i64 0)) (.ptr p 0 0 0) G2 = some (.junk, [(m, .map [⟨.int .i64 0, .ptr p 0 0 0, 0⟩] 1)]) := by
    simp only [muA, Try.underlying3, keyOk, decide_true, AV.storable, and_self, if_true, mapSetA, gm, findE, List.nil_append]
  simp only [nilCk_ptr, ti73_f2, getM_of gk, hmu2, go_sem]
  refine send_c (x := x1) (T := T0) (p := p) (by rw [set_ne hpm]; exact hG2) (by decide) (by decide) (by decide) ?_
  simp only [getM_ne (Ne.symm hpu), getM_ne (Ne.symm hmu), getM_of gu, stoA_agg, stoA_get, stoM, setCells, and_self, true_and, Nat.le_refl, Nat.reduceLeDiff, List.cons_append, List.set_cons_zero, List.getElem?_cons_zero, go_sem]
  refine ⟨_, le_refl', h p _ ⟨?_, ?_, ?_⟩ (le_none hle (set_none.1 hp).2) fun i o hik him hi => ?_⟩
  · rw [set_ne hku, set_ne (Ne.symm hpk), set_ne hkm]; exact gk
  · rw [set_ne hmu, set_ne (Ne.symm hpm), set_self]
  · rw [set_ne hpu, set_self]; rfl
  · have hiu := le_ne hi hu
    have hip : i ≠ p := le_ne hi (le_none hle (set_none.1 hp).2)
    rw [set_ne hiu, set_ne hip, set_ne him]
    exact hle2 _ _ (by rw [set_ne hik]; exact hle _ _ hi)
end Go.Proofs.Ytofjhihigmimbaa

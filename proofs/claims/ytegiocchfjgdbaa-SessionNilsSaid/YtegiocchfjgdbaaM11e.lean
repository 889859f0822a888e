/- The example of sessions: the server takes the opening. -/
import Derived.Test.YtegiocchfjgdbaaM11d
set_option autoImplicit false
set_option maxRecDepth 100000
set_option linter.unusedVariables false
set_option linter.unusedSimpArgs false
namespace Go.Proofs.Ytegiocchfjgdbaa
open Go Go.AM Go.Proofs
theorem stake1_c {H : AHeap} {s m g : Nat} (hs : H s = some (sObj m g 0)) (hm : H m = some (.map [] 0)) (hg : H g = some (.map [] 0)) {K : AV → AHeap → Prop}
    (hk : ∀ x H', H' s = some (sObj m g 1) → H' m = some (.map [⟨.int .i64 1, .ptr x 0 0 0, 0⟩] 1) → H' x = some (oObj 0) → H x = none → (∀ i o, i ≠ s → i ≠ m → H i = some o → H' i = some o) → K (.tup [.d (.sl false [[.int .i64 2, .int .i64 1, .int .i64 0, .int .i64 1, .sl true []]]), .d (.int .i64 0)]) H') : CallsA Try.prog 8 [.ptr s 0 0 0, fo.av] H K := by
  apply C8
  unfold S8
  refine box_open rfl fun u G hG hle hu => ?_
  have s1 := hle _ _ hs
  simp only [frzLK_ptr, frzLK_nil]
  refine snone_c s1 ?_
  have hG : G u = some (.mem 0 0 5 [fo.cells]) := hG
  simp only [fo, Fr.cells] at hG
  simp only [getM_of hG, go_sem]
  refine valid_c (f := fo) ?_
  rw [show decide fo.Valid = true by decide]
  simp only [Bool.not_true, ti24_f0, ti24_f2, nilCk_ptr, ti53_f0, getM_of hG, getM_of s1, go_sem]
  refine has1_c ?_
  simp only [go_sem]
  have g1 := hle _ _ hg
  have lk : lookA (.d (.bool false)) (.map g) (.d (.int .i64 1)) false G = some (.d (.bool false)) := by simp only [lookA, g1, findE]; rfl
  simp only [ti53_f4, ti24_f3, getM_of s1, getM_of hG, keyInt, lk, go_sem]
  refine sopen_c s1 (hle _ _ hm) fun x H' h1 h2 h3 h4 h5 => ?_
  have bl : ∀ n, bsA ti24 1 [0] [fd.av] H' n = some (.lit [[.int .i64 2, .int .i64 1, .int .i64 0, .int .i64 1, .sl true []]], []) := fun n => rfl
  simp only [bl, newK_iff, stepK_some, sets_nil']
  intro _ _
  simp only [go_sem]
  exact ⟨_, le_refl', hk x H' h1 h2 h3 (le_none hle h4) fun i o his him hi => h5 i o his him (hle _ _ hi)⟩
end Go.Proofs.Ytegiocchfjgdbaa

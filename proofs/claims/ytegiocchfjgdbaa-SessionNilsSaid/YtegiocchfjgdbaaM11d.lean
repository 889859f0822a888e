/- The example of sessions: the server opens one. -/
import Derived.Test.YtegiocchfjgdbaaM11c
set_option autoImplicit false
set_option maxRecDepth 100000
set_option linter.unusedVariables false
set_option linter.unusedSimpArgs false
namespace Go.Proofs.Ytegiocchfjgdbaa
open Go Go.AM Go.Proofs
theorem keyInt {k : Int} {f : AV → Option AV} : lookKA Try.prog 3 (.d (.int .i64 k)) f = f (.d (.int .i64 k)) := by
  simp only [lookKA, Try.underlying3, keyOk, decide_true, if_true]
theorem keyEq_int {a b : Int} : keyEq (.int .i64 a) (.int .i64 b) = some (a == b) := rfl
theorem bd24_opened {b : Dat} {H : AHeap} : bdA Try.prog ti24 [0, 3] [.d (.int .i64 2), .d b] H = some (.agg [.d (.int .i64 2), .d (.int .i64 0), .d (.int .i64 0), .d b, .d (.sl true [])], []) := by
  simp only [bdA, bd24, cell3, fillA, setCells, List.zip_cons_cons, List.zip_nil_right, Option.map_some, Nat.reduceLeDiff, List.cons_append, go_sem]
theorem bd68_new {a b : Dat} {H : AHeap} : bdA Try.prog ti68 [0, 3] [.d a, .d b] H = some (.agg [.d a, .d (.int .i64 0), .d (.bool false), .d b, .d (.sl true []), .d (.sl true []), .nilptr, .d (.sl true []), .d (.int .i64 0), .d (.int .i64 0), .d (.int .i64 0), .d (.int .i64 0)], []) := by
  simp only [bdA, bd68, cell3, fillA, setCells, List.zip_cons_cons, List.zip_nil_right, Option.map_some, Nat.reduceLeDiff, List.cons_append, go_sem]
theorem nx_empty {G : AHeap} {j m : Nat} {a b c : Nat} (hj : G j = some (.iter m a [] b)) (hm : G m = some (.map [] c)) {K : AV → AHeap → Prop} (h : K (.tup [.d (.bool false)]) G) : nxA (.it j) G K := by
  simp only [nxA, hj, hm]
  exact ⟨fun h => absurd rfl h, fun _ => h, fun x hx => by cases hx⟩
abbrev oObj (al : Int) : AObj := .mem 0 0 12 [[.d (.int .i64 1), .d (.int .i64 0), .d (.bool false), .d (.int .i64 (-1)), .d (.sl true []), .d (.sl true []), .nilptr, .d (.sl true []), .d (.int .i64 0), .d (.int .i64 0), .d (.int .i64 0), .d (.int .i64 al)]]
/-- The answer to an opening. -/
def fd : Fr := ⟨2, 1, 0, 1, true, []⟩
theorem sopen_c {H : AHeap} {s m g : Nat} (hs : H s = some (sObj m g 0)) (hm : H m = some (.map [] 0)) {K : AV → AHeap → Prop}
    (hk : ∀ x H', H' s = some (sObj m g 1) → H' m = some (.map [⟨.int .i64 1, .ptr x 0 0 0, 0⟩] 1) → H' x = some (oObj 0) → H x = none → (∀ i o, i ≠ s → i ≠ m → H i = some o → H' i = some o) → K fd.av H') : CallsA Try.prog 33 [.ptr s 0 0 0, fo.av] H K := by
  apply C33
  unfold S33
  refine box_open rfl fun u G hG hle hu => ?_
  refine alloc_open fun u2 G2 hG2 hle2 hu2 => ?_
  have hG : G2 u = some (.mem 0 0 5 [fo.cells]) := hle2 _ _ hG
  simp only [fo, Fr.cells] at hG
  simp only [ti24_f3, getM_of hG, bd24_opened, optA_some, ldV_get, ldM, List.getElem?_cons_zero, partV, List.drop_succ_cons, List.drop_zero, List.take_succ_cons, List.take_zero, List.length_cons, List.length_nil, if_true, stepK_some, sets_nil', Bool.false_eq_true, if_false]
  refine alloc_open fun u3 G3 hG3 hle3 hu3 => ?_
  have s3 : G3 s = some (sObj m g 0) := hle3 _ _ (hle2 _ _ (hle _ _ hs))
  have m3 : G3 m = some (.map [] 0) := hle3 _ _ (hle2 _ _ (hle _ _ hm))
  have u_3 := hle3 _ _ hG
  have u2_3 := hle3 _ _ hG2
  have su3 : s ≠ u3 := le_ne (hle2 _ _ (hle _ _ hs)) hu3
  have mu3 : m ≠ u3 := le_ne (hle2 _ _ (hle _ _ hm)) hu3
  have uu3 : u ≠ u3 := le_ne hG hu3
  have u2u3 : u2 ≠ u3 := le_ne hG2 hu3
  simp only [getM_of hG3, getM_set, stoA_agg, stoA_get, stoM, setCells, and_self, true_and, Nat.le_refl, Nat.reduceLeDiff, List.cons_append, List.set_cons_zero, List.getElem?_cons_zero, nilCk_ptr, ti53_f0, ti24_f2, getM_ne su3, getM_of s3, getM_ne uu3, getM_of u_3, go_sem]
  refine ⟨_, has1_c ⟨rfl, le_refl'⟩, ?_⟩
  simp only [nilCk_ptr, ti53_f3, getM_ne su3, getM_of s3, Bool.not_true, go_sem]
  intro j hj
  have hj3 := (set_none.1 hj).1
  have hjG := (set_none.1 hj).2
  have mr : rgA (.map m) (G3.set u3 (.mem 0 0 5 [[.d (.int .i64 2), .d (.int .i64 0), .d (.int .i64 0), .d (.int .i64 1), .d (.sl true [])]])) j = some (.it j, [(j, .iter m 0 [] 0)]) := by
    simp only [rgA, set_ne mu3, m3]
  simp only [mr, go_sem]
  have sj : s ≠ j := le_ne s3 hjG
  have mj : m ≠ j := le_ne m3 hjG
  have uj : u ≠ j := le_ne u_3 hjG
  have u2j : u2 ≠ j := le_ne u2_3 hjG
  have hle3' : AHeap.le H G3 := fun i x hi => hle3 _ _ (hle2 _ _ (hle _ _ hi))
  obtain ⟨G5, hG5⟩ : ∃ G5, G5 = (G3.set u3 (.mem 0 0 5 [[.d (.int .i64 2), .d (.int .i64 0), .d (.int .i64 0), .d (.int .i64 1), .d (.sl true [])]])).set j (.iter m 0 [] 0) := ⟨_, rfl⟩
  rw [← hG5]
  have s5 : G5 s = some (sObj m g 0) := by rw [hG5, set_ne sj, set_ne su3]; exact s3
  have m5 : G5 m = some (.map [] 0) := by rw [hG5, set_ne mj, set_ne mu3]; exact m3
  have u5 := (show G5 u = G3 u by rw [hG5, set_ne uj, set_ne uu3]).trans u_3
  have u25 := (show G5 u2 = G3 u2 by rw [hG5, set_ne u2j, set_ne u2u3]).trans u2_3
  have u35 : G5 u3 = some (.mem 0 0 5 [[.d (.int .i64 2), .d (.int .i64 0), .d (.int .i64 0), .d (.int .i64 1), .d (.sl true [])]]) := by rw [hG5, set_ne (Ne.symm hj3), set_self]
  have j5 : G5 j = some (.iter m 0 [] 0) := by rw [hG5, set_self]
  clear mr hj
  refine loop_ind (fun n vs G' => vs = [.ptr s 0 0 0, .ptr u 0 0 0, .ptr u2 0 0 0, .ptr u3 0 0 0, .it j] ∧ G' = G5) (n := 0) ⟨rfl, rfl⟩ ?_
  rintro X n vs G' ⟨rfl, hg⟩ _
  rw [hg]
  clear hg
  simp only [List.getD_cons_succ, List.getD_cons_zero]
  refine nx_empty j5 m5 ?_
  have lm : lenMp (.map m) G5 = some (.d (.int .i64 0)) := by simp only [lenMp, m5]; rfl
  simp only [nilCk_ptr, ti53_f1, ti53_f3, ti53_f5, getM_of s5, lm, go_sem]
  rw [if_neg (by decide), if_neg (by decide)]
  have su : s ≠ u3 := su3
  have us : u3 ≠ s := Ne.symm su3
  simp only [nilCk_ptr, ti53_f1, ti53_f3, ti53_f5, ti24_f1, ti24_f3, getM_of s5, getM_set, getM_ne us, getM_ne su3, getM_of u35, getM_of u5, stoA_agg, stoA_get, stoM, setCells, and_self, true_and, Nat.le_refl, Nat.reduceLeDiff, List.cons_append, List.set_cons_zero, List.getElem?_cons_zero, go_sem]
  have us2 : u ≠ s := Ne.symm (le_ne hs hu)
  have e1 : IntKind.i64.wrap (0 + 1) = 1 := rfl
  simp only [getM_ne uu3, getM_ne us2, getM_of u5, e1, bd68_new, go_sem]
  refine box_open rfl fun x G6 hG6 hle6 hx => ?_
  have hG6 : G6 x = some (oObj 0) := hG6
  obtain ⟨hx3, hx'⟩ := set_none.1 hx
  obtain ⟨hxs, hx5⟩ := set_none.1 hx'
  have sm : s ≠ m := fun he => by subst he; rw [hs] at hm; cases hm
  have s6 : G6 s = some (sObj m g 1) := hle6 _ _ (by rw [set_ne su3, set_self])
  have m6 : G6 m = some (.map [] 0) := hle6 _ _ (by rw [set_ne mu3, set_ne (Ne.symm sm)]; exact m5)
  have u36 := hle6 u3 _ set_self
  have u2s : u2 ≠ s := Ne.symm (le_ne (hle _ _ hs) hu2)
  have u26 := hle6 u2 _ (by rw [set_ne u2u3, set_ne u2s]; exact u25)
  have u2m : u2 ≠ m := Ne.symm (le_ne (hle _ _ hm) hu2)
  have xm : x ≠ m := fun he => by subst he; rw [m6] at hG6; cases hG6
  have xu2 : x ≠ u2 := fun he => by subst he; rw [u25] at hx5; cases hx5
  have mu : muA Try.prog 3 (.map m) (.d (.int .i64 1)) (.ptr x 0 0 0) G6 = some (.junk, [(m, .map [⟨.int .i64 1, .ptr x 0 0 0, 0⟩] 1)]) := by
    simp only [muA, Try.underlying3, keyOk, decide_true, AV.storable, and_self, if_true, mapSetA, m6, findE, List.nil_append]
  simp only [mu, getM_ne (Ne.symm mu3), getM_of u36, getM_ne u2m, getM_of u26, getM_set, stoA_agg, stoA_get, stoM, setCells, and_self, true_and, Nat.le_refl, Nat.reduceLeDiff, List.cons_append, List.set_cons_zero, List.getElem?_cons_zero, go_sem]
  refine ⟨_, le_refl', hk x _ ?_ ?_ ?_ ?_ fun i o his him hi => ?_⟩
  · rw [set_ne (Ne.symm u2s), set_ne sm]; exact s6
  · rw [set_ne (Ne.symm u2m), set_self]
  · rw [set_ne xu2, set_ne xm]; exact hG6
  · exact le_none (fun i x hi => by
      have h3 := hle3' _ _ hi
      rw [hG5, set_ne (le_ne h3 hjG), set_ne (le_ne (hle2 _ _ (hle _ _ hi)) hu3)]; exact h3) hx5
  · have h3 := hle3' _ _ hi
    have hi2 := hle _ _ hi
    have iu3 := le_ne (hle2 _ _ hi2) hu3
    rw [set_ne (le_ne hi2 hu2), set_ne him]
    refine hle6 _ _ ?_
    rw [set_ne iu3, set_ne his, hG5, set_ne (le_ne h3 hjG), set_ne iu3]
    exact h3
end Go.Proofs.Ytegiocchfjgdbaa

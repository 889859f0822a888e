/- The example of sessions: what is made anew. -/
import Derived.Test.YtegiocchfjgdbaaM11a
set_option autoImplicit false
set_option maxRecDepth 100000
set_option linter.unusedVariables false
set_option linter.unusedSimpArgs false
namespace Go.Proofs.Ytegiocchfjgdbaa
open Go Go.AM Go.Proofs
theorem nilA_eql {nl nl2 : Bool} {l l2 : List (List Dat)} : nilA 0 .eql (.d (.sl nl l)) (.d (.sl true l2)) = some (.d (.bool nl)) := by cases nl <;> rfl
theorem bs5_0 {H : AHeap} {n : Nat} : bsA ti5 0 [] [] H n = some (.lit [], []) := rfl
theorem bs3_0 {H : AHeap} {n : Nat} : bsA ti3 0 [] [] H n = some (.lit [], []) := rfl
theorem cloneB_c {nl : Bool} {l : List UInt8} (hl : l.length < 2 ^ 40) (hnl : nl = true → l = []) {H : AHeap} {K : AV → AHeap → Prop} (h : K (.d (.sl nl (bs l))) H) : CallsA Try.prog 36 [.d (.sl nl (bs l))] H K := by
  apply C36
  unfold S36
  simp only [nilA_eql (nl2 := true), go_sem]
  cases nl with
  | true =>
    rw [hnl rfl] at h
    simp only [go_sem]
    exact ⟨H, le_refl', h⟩
  | false =>
    simp only [go_sem]
    intro n hn
    simp only [bs5_0, go_sem]
    refine (Gr.lit le_refl').app (ys := bs l) rfl (by decide) (by decide) bs_sz (by rw [bs_length]; simp [mostBytes]; omega) fun v' H3 hv' _ _ hn3 => ?_
    rw [List.nil_append] at hv'
    refine hv'.own.ret le_refl' ?_
    rw [hn3]
    exact h
theorem cloneI_c {H : AHeap} {K : AV → AHeap → Prop} (h : K (.d (.sl false [[.int .i64 1]])) H) : CallsA Try.prog 39 [.d (.sl false [[.int .i64 1]])] H K := by
  apply C39
  unfold S39
  simp only [nilA_eql (nl2 := true), go_sem]
  intro n hn
  simp only [bs3_0, go_sem]
  refine (Gr.lit le_refl').app (ys := [[.int .i64 1]]) rfl (by decide) (by decide) (by decide) (by simp [mostBytes]) fun v' H3 hv' _ _ hn3 => ?_
  rw [List.nil_append] at hv'
  refine hv'.own.ret le_refl' ?_
  rw [hn3]
  exact h
theorem bad_c {H : AHeap} {K : AV → AHeap → Prop} (h : K (.d (.bool false)) H) : CallsA Try.prog 47 [.d (.int .i64 1)] H K := by
  apply C47
  unfold S47
  simp only [go_sem]
  rw [if_neg (by decide)]
  exact ⟨H, le_refl', h⟩
abbrev cObj (state id seq : Int) : AObj := .mem 0 0 15 [[.d (.int .i64 1), .d (.int .i64 1), .d (.int .i64 state), .d (.int .i64 id), .d (.int .i64 seq), .nilptr, .d (.sl true []), .d (.int .i64 0), .d (.int .i64 0), .d (.sl true []), .d (.bool false), .d (.sl true []), .d (.int .i64 0), .d (.int .i64 0), .d (.int .i64 0)]]
theorem bd56_new {a b : Dat} {H : AHeap} : bdA Try.prog ti56 [0, 1] [.d a, .d b] H = some (.agg [.d a, .d b, .d (.int .i64 0), .d (.int .i64 0), .d (.int .i64 0), .nilptr, .d (.sl true []), .d (.int .i64 0), .d (.int .i64 0), .d (.sl true []), .d (.bool false), .d (.sl true []), .d (.int .i64 0), .d (.int .i64 0), .d (.int .i64 0)], []) := by
  simp only [bdA, bd56, cell3, fillA, setCells, List.zip_cons_cons, List.zip_nil_right, Option.map_some, Nat.reduceLeDiff, List.cons_append, go_sem]
theorem newClient_c {H : AHeap} {K : AV → AHeap → Prop} (hk : ∀ c H', H' c = some (cObj 0 0 0) → AHeap.le H H' → H c = none → K (.tup [.ptr c 0 0 0, .d (.int .i64 0)]) H') : CallsA Try.prog 30 [.d (.int .i64 1), .d (.int .i64 1)] H K := by
  apply C30
  unfold S30
  simp only [go_sem]
  rw [if_neg (by decide), if_neg (by decide), if_neg (by decide), if_neg (by decide)]
  simp only [bd56_new, go_sem]
  refine box_open rfl fun c G hG hle hc => ?_
  simp only [go_sem]
  exact ⟨G, le_refl', hk c G hG hle hc⟩
def vs1 : List (List Dat) := [[.int .i64 1]]
theorem ixv {G : AHeap} : optA (indexAddrA ti40 1 (.d (.sl false [[.int .i64 1]])) (.d (.int .i64 0))) (fun v => ldV false 1 v G = some (.d (.int .i64 1))) := rfl
theorem ixA : indexAddrA ti40 1 (.d (.sl false [[.int .i64 1]])) (.d (.int .i64 0)) = some (.vptr [.int .i64 1] 0) := rfl
theorem noneBad_c {H : AHeap} {K : AV → AHeap → Prop} (h : K (.d (.bool false)) H) : CallsA Try.prog 46 [.d (.sl false [[.int .i64 1]]), .func 47 [] []] H K := by
  apply C46
  unfold S46
  simp only [go_sem]
  apply C52
  unfold S52
  simp only [lenSl_d, List.length_cons, List.length_nil, optA_some]
  refine loop_ind (fun n vs G => ∃ j : Int, (j = 0 ∨ j = 1) ∧ n = (1 - j).toNat ∧ vs = [.d (.sl false [[.int .i64 1]]), .func 47 [] [], .d (.int .i64 1), .d (.int .i64 j)] ∧ G = H) (n := 1) ⟨0, .inl rfl, rfl, rfl, rfl⟩ ?_
  rintro X n vs _ ⟨j, hj, rfl, rfl, rfl⟩ hX
  rcases hj with rfl | rfl
  · simp only [List.getD_cons_succ, List.getD_cons_zero, ixA, callA, argsA, go_sem]
    rw [if_pos (by decide)]
    rw [if_pos (by rfl)]
    refine bad_c ?_
    simp only [go_sem]
    exact hX 0 _ _ (by decide) ⟨1, .inr rfl, rfl, rfl, rfl⟩
  · simp only [List.getD_cons_succ, List.getD_cons_zero, go_sem]
    rw [if_neg (by decide)]
    refine ⟨_, le_refl', ?_⟩
    simp only [go_sem]
    rw [show decide ((0 : Int) ≤ -1) = false by decide]
    exact ⟨_, le_refl', h⟩
abbrev sObj (m g : Nat) (given : Int) : AObj := .mem 0 0 6 [[.d (.sl false [[.int .i64 1]]), .d (.int .i64 2), .d (.int .i64 4), .map m, .map g, .d (.int .i64 given)]]
theorem bd53_new {m g : Nat} {a b c d : Dat} {H : AHeap} : bdA Try.prog ti53 [0, 1, 2, 3, 4, 5] [.d a, .d b, .d c, .map m, .map g, .d d] H = some (.agg [.d a, .d b, .d c, .map m, .map g, .d d], []) := by
  simp only [bdA, bd53, cell3, cell40, cell50, cell51, fillA, setCells, List.zip_cons_cons, List.zip_nil_right, Option.map_some, Nat.reduceLeDiff, List.cons_append, go_sem]
theorem newServer_c {H : AHeap} {K : AV → AHeap → Prop} (hk : ∀ s m g H', H' s = some (sObj m g 0) → H' m = some (.map [] 0) → H' g = some (.map [] 0) → m ≠ g → AHeap.le H H' → H s = none → H m = none → H g = none → K (.tup [.ptr s 0 0 0, .d (.int .i64 0)]) H') : CallsA Try.prog 29 [.d (.sl false [[.int .i64 1]]), .d (.int .i64 2), .d (.int .i64 4)] H K := by
  apply C29
  unfold S29
  simp only [lenSl_d, List.length_cons, List.length_nil, go_sem]
  rw [if_neg (by decide)]
  refine noneBad_c ?_
  simp only [go_sem]
  rw [if_neg (by decide), if_neg (by decide), if_neg (by decide), if_neg (by decide)]
  refine cloneI_c ?_
  try simp only [go_sem]
  intro m hm g hg
  simp only [bd53_new, go_sem]
  refine box_open rfl fun s G hG hle hs => ?_
  simp only [go_sem]
  have hgm := set_none.1 hg
  have hsg := set_none.1 hs
  have hsm := set_none.1 hsg.2
  exact ⟨G, le_refl', hk s m g G hG (hle _ _ (by rw [set_ne (Ne.symm hgm.1), set_self])) (hle _ _ set_self) (Ne.symm hgm.1) (fun i x hi => hle _ _ (by rw [set_ne (le_ne hi hgm.2), set_ne (le_ne hi hm)]; exact hi)) hsm.2 hm hgm.2⟩
end Go.Proofs.Ytegiocchfjgdbaa

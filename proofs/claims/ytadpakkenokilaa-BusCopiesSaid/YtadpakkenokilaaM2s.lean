/- slices.Sorted of slices.Values of nil. -/
import Derived.RangeFuncBox
import Derived.RangeFuncLeaves
import Derived.Shelf.Abstract
import Derived.WalkKit
import Derived.OwnWalkIn
import Derived.TacticsInMore
import Derived.LoopNIn
import Derived.LoopIn
import Derived.Test.YtadpakkenokilaaB2shelf
import Derived.Test.YtadpakkenokilaaA27
set_option autoImplicit false
set_option linter.unusedVariables false
namespace Go.Proofs.Ytadpakkenokilaa
open Go Go.Proofs Go.RowKit Go.Maps Go.Sort Go.Shelf
attribute [local go_sem] Oper.semAt_some
theorem sorts29 (m : Nat) : AnyZI.SortsIn Try.prog Try.sorted29_ren Fence.wide m :=
  ⟨fun blk off cap ss W hH hblk hsz => callsIn_wide.2 (AnyM.slices_Sort_int Try.sort60 blk off cap ss W hH hblk hsz),
   fun p cap W => callsIn_wide.2 (AnyM.slices_Sort_int_none Try.sort60 p cap W)⟩
set_option maxRecDepth 100000 in
set_option maxHeartbeats 1000000 in
/-- slices.Values' iterator at the nil slice: no round. -/
theorem values1_nil (F : Fence) (n : Nat) (h7 : F.fn 61) (hro : F.round = none) (l Bs : Nat) (J : List Int → World → Prop) (W : World) (hBs : W.cell? ⟨Bs, 0, none⟩ = some (.slice none 0 0)) (h0 : J [] W) :
    CallsIn F n Try.prog 61 #[.func (.yield l) #[] #[], .pointer (some ⟨Bs, 0, none⟩)] W fun e W' => (∃ v, e = .returned v) ∧ J [] W' := by
  refine callsIn_of_wp Try.func61 rfl h7 ?_ hro
  simp only [Try.ntmps61, List.size_toArray, List.length_cons, List.length_nil, Nat.reduceAdd, Nat.reduceSub, Array.replicate_succ, Array.replicate_zero, List.push_toArray, List.append_toArray, List.nil_append, List.cons_append]
  gi_wp2
  gi_loopw [7] (fun i wr => i = .int .i64 0 ∧ J [] wr) (fun _ _ => 0)
  case atStart => exact ⟨rfl, h0⟩
  case round =>
    obtain ⟨rfl, hJs⟩ := hrel
    gi_wp2
    go_end0
    exact ⟨⟨_, rfl⟩, hJs⟩
theorem sorted_none (Bs : Nat) (w : World) (hB : Bs < w.heap.size) (hc : w.cell? ⟨Bs, 0, none⟩ = some (.slice none 0 0)) :
    Calls Try.prog 29 #[.func (.func 61) #[] #[.pointer (some ⟨Bs, 0, none⟩)]] w fun e w' => ∃ (v : Value) (ss : List Int), e = .returned v ∧ ss = [] ∧ w'.ownsRow w.heap.size 3 1 v ss.length ((ss.mergeSort (fun x y => decide (x ≤ y))).map encZ) ∧ (v = .slice none 0 0 ↔ ss = []) ∧ Below w.heap.size w w' := by
  have hseq : SeqGives Fence.wide 2 Try.prog 61 #[.pointer (some ⟨Bs, 0, none⟩)] encZ (fun ss : List Int => ss = []) 0 w := fun l J W hW hJ hY h0 =>
    (values1_nil Fence.wide 2 trivial rfl l Bs J W ((hW.cell (p := ⟨Bs, 0, none⟩) hB).trans hc) h0).mono fun e W' ⟨h1, h2⟩ => ⟨h1, [], rfl, h2⟩
  exact callsIn_wide.1 (AnyZI.sorted_in Try.sorted29 Fence.wide 5 trivial trivial trivial trivial rfl (by omega) (sorts29 _) (enters_of Try.func60 (by kernel_rfl) rfl) 61 #[.pointer (some ⟨Bs, 0, none⟩)] trivial (enters_of Try.func61 (by kernel_rfl) rfl) _ 0 (Nat.zero_le _) (by omega) _ hseq)
open Go.AM in
theorem sortedNil_c {H : AHeap} {k fro : Nat} (hk : H k = some (.mem 0 fro 1 [[.d (.sl true [])]])) {K : AV → AHeap → Prop} (h : K (.d (.sl true [])) H) : CallsA Try.prog 29 [.func 61 [] [.ptr k 0 0 0]] H K := by
  refine ⟨⟨_, Try.func29, ne_of_beq_false (by kernel_rfl), rfl⟩, fun base L w args R hv => ?_⟩
  obtain ⟨u, rfl, hu1⟩ := func_args hv
  obtain ⟨B, mv, rfl, hB, hcell, hmv⟩ := box_cell R hk hu1
  simp only [VR, DR] at hmv
  obtain ⟨A, cap, rfl, _, h2, _⟩ := hmv
  obtain ⟨rfl, rfl⟩ := h2 trivial
  refine (sorted_none B w hB hcell).mono ?_
  rintro e w' ⟨v, ss, rfl, rfl, hrow, hnil, hb⟩
  simp only [List.mergeSort_nil] at hrow
  exact ints_back (l := []) R hb hrow hnil h
end Go.Proofs.Ytadpakkenokilaa

/- Program of a nil base, and of a zero one, at the machine. -/
import Derived.Test.YtmciomkibklokaaM23x
set_option autoImplicit false
set_option linter.unusedVariables false
set_option linter.unnecessarySimpa false
namespace Go.Proofs.Ytmciomkibklokaa
open Go Go.Proofs Go.RowKit Go.Shelf
attribute [local go_sem] Oper.semAt_some
set_option maxRecDepth 100000 in
set_option maxHeartbeats 2000000 in
theorem none0_in (F : Fence) (n : Nat) (h5 : F.fn 25) (hro : F.round = none) (w : World) :
    CallsIn F n Try.prog 25 #[.pointer none] w fun e w' => e = .returned (.bool true) ∧ w' = w := by
  refine callsIn_of_wp Try.func25 rfl h5 ?_ hro
  simp only [Try.ntmps25, List.size_toArray, List.length_cons, List.length_nil, Nat.reduceAdd, Nat.reduceSub, Array.replicate_succ, Array.replicate_zero, List.push_toArray, List.append_toArray, List.nil_append, List.cons_append]
  gi_wp2
  go_ret
  exact ⟨rfl, rfl⟩
set_option maxRecDepth 100000 in
set_option maxHeartbeats 2000000 in
theorem none1_in (F : Fence) (n : Nat) (h5 : F.fn 25) (hro : F.round = none) (b o : Nat) (w : World) (hm : w.cell? ⟨b, o + 2, none⟩ = some (.map none)) :
    CallsIn F n Try.prog 25 #[.pointer (some ⟨b, o, none⟩)] w fun e w' => e = .returned (.bool true) ∧ w' = w := by
  have hb : Sem.run Try.prog (binOp .eql 53 (.map none) (.map none)) w = .ok (.bool true) w := by
    have hu : Try.prog.underlying 53 = some (.map 3 9) := by kernel_rfl
    simp [binOp, go_sem, run_equal_map_nil _ 53 3 9 _ hu]
  refine callsIn_of_wp Try.func25 rfl h5 ?_ hro
  simp only [Try.ntmps25, List.size_toArray, List.length_cons, List.length_nil, Nat.reduceAdd, Nat.reduceSub, Array.replicate_succ, Array.replicate_zero, List.push_toArray, List.append_toArray, List.nil_append, List.cons_append]
  gi_wp2
  go_ret
  exact ⟨rfl, rfl⟩
set_option maxRecDepth 100000 in
set_option maxHeartbeats 4000000 in
theorem prog0_in (F : Fence) (n : Nat) (h9 : F.fn 9) (hf25 : F.fn 25) (hro : F.round = none) (hn : 3 ≤ n) (p : Option Addr) (c : ByteArray) (i : Int) (w : World)
    (h25 : ∀ W, Below w.heap.size w W → CallsIn F (n - 1) Try.prog 25 #[.pointer p] W fun e w' => e = .returned (.bool true) ∧ w' = W) :
    CallsIn F n Try.prog 9 #[.pointer p, .string c, .int .i64 i] w fun e W' => e = .returned (.tuple #[.int .i64 0, .int .i64 0, .int .i64 7]) ∧ Below w.heap.size w W' := by
  have h1 : 1 ≤ n := by omega
  obtain ⟨W5, hW5⟩ : ∃ W5, ((((w.alloc (.cells #[.string c] 9)).alloc (.cells #[.int .i64 i] 3)).alloc (.cells #[.int .i64 0] 3)).alloc (.cells #[.int .i64 0] 3)).alloc (.cells #[.int .i64 0] 27) = W5 := ⟨_, rfl⟩
  have hB5 : Below w.heap.size w W5 := by
    rw [← hW5]
    exact (((((Below.refl _ w).alloc (Nat.le_refl _) _).alloc (by simp) _).alloc (by simp; omega) _).alloc (by simp; omega) _).alloc (by simp; omega) _
  have bN : Boxed W5 (w.heap.size + 1 + 1) 3 (.int .i64 0) := by
    rw [← hW5]; have := Boxed.new ((w.alloc (.cells #[.string c] 9)).alloc (.cells #[.int .i64 i] 3)) 3 (.int .i64 0); rw [World.size_alloc, World.size_alloc] at this; exact (this.alloc _).alloc _
  have bF : Boxed W5 (w.heap.size + 1 + 1 + 1) 3 (.int .i64 0) := by
    rw [← hW5]; have := Boxed.new (((w.alloc (.cells #[.string c] 9)).alloc (.cells #[.int .i64 i] 3)).alloc (.cells #[.int .i64 0] 3)) 3 (.int .i64 0); simp only [World.size_alloc] at this; exact this.alloc _
  have bE : Boxed W5 (w.heap.size + 1 + 1 + 1 + 1) 27 (.int .i64 0) := by
    rw [← hW5]; have := Boxed.new ((((w.alloc (.cells #[.string c] 9)).alloc (.cells #[.int .i64 i] 3)).alloc (.cells #[.int .i64 0] 3)).alloc (.cells #[.int .i64 0] 3)) 27 (.int .i64 0); simp only [World.size_alloc] at this; exact this
  have h25' := h25 W5 hB5
  have cN := bN.cell
  have fN := bN.frozen
  have cF := bF.cell
  have fF := bF.frozen
  have cE := bE.cell
  have fE := bE.frozen
  refine callsIn_of_wp_marks Try.func9 rfl h9 ?_ hro
  simp only [Try.ntmps9, List.size_toArray, List.length_cons, List.length_nil, Nat.reduceAdd, Nat.reduceSub, Array.replicate_succ, Array.replicate_zero, List.push_toArray, List.append_toArray, List.nil_append, List.cons_append]
  gi_wp2_with (gi_at_call 25; refine h25'.mono ?_; rintro e w2 ⟨rfl, hw2⟩; replace hw2 := hw2.symm; subst hw2)
  have b1 := ((bN.set (.int .i64 0)).other (B' := w.heap.size + 1 + 1 + 1) (by omega) (.int .i64 0)).other (B' := w.heap.size + 1 + 1 + 1 + 1) (by omega) (.int .i64 7)
  have b2 := ((bF.other (B' := w.heap.size + 1 + 1) (by omega) (.int .i64 0)).set (.int .i64 0)).other (B' := w.heap.size + 1 + 1 + 1 + 1) (by omega) (.int .i64 7)
  have b3 := ((bE.other (B' := w.heap.size + 1 + 1) (by omega) (.int .i64 0)).other (B' := w.heap.size + 1 + 1 + 1) (by omega) (.int .i64 0)).set (.int .i64 7)
  have hB3 := ((hB5.setCell (p := ⟨w.heap.size + 1 + 1, 0, none⟩) (by simp; omega) (.int .i64 0)).setCell (p := ⟨w.heap.size + 1 + 1 + 1, 0, none⟩) (by simp; omega) (.int .i64 0)).setCell (p := ⟨w.heap.size + 1 + 1 + 1 + 1, 0, none⟩) (by simp; omega) (.int .i64 7)
  obtain ⟨W9, hW9⟩ : ∃ W9, (((W5.setCell ⟨w.heap.size + 1 + 1, 0, none⟩ (.int .i64 0)).setCell ⟨w.heap.size + 1 + 1 + 1, 0, none⟩ (.int .i64 0)).setCell ⟨w.heap.size + 1 + 1 + 1 + 1, 0, none⟩ (.int .i64 7)) = W9 := ⟨_, rfl⟩
  rw [hW9] at b1 b2 b3 hB3 ⊢
  have d1 := b1.cell
  have d2 := b2.cell
  have d3 := b3.cell
  refine ⟨.tuple #[.int .i64 0, .int .i64 0, .int .i64 7], ?_, rfl, hB3⟩
  simp [results, Try.f9, go_sem, d1, d2, d3]
open Go.AM in
theorem Program0_c {H : AHeap} {c : ByteArray} {i : Int} {K : AV → AHeap → Prop} (p : AV) (hp : p = .nilptr ∨ ∃ k x y, p = .ptr k 0 0 0 ∧ H k = some (.mem 0 0 3 [[x, y, .nilmap]])) (hk : K (.tup [.d (.int .i64 0), .d (.int .i64 0), .d (.int .i64 7)]) H) :
    CallsA Try.prog 9 [p, .d (.str c), .d (.int .i64 i)] H K := by
  refine ⟨⟨_, Try.func9, ne_of_beq_false (by kernel_rfl), rfl⟩, fun base L w args R hv => ?_⟩
  obtain ⟨l⟩ := args
  obtain ⟨u1, u2, u3, rfl⟩ : ∃ u1 u2 u3, l = [u1, u2, u3] := by
    have := hv.length
    simp only [List.length_cons, List.length_nil] at this
    match l, this with
    | [u1, u2, u3], _ => exact ⟨u1, u2, u3, rfl⟩
  simp only [VRL, VR, DR, and_true] at hv
  obtain ⟨hv, rfl, rfl⟩ := hv
  obtain ⟨q, rfl, hq⟩ : ∃ q, u1 = .pointer q ∧ ∀ W, Below w.heap.size w W → CallsIn Fence.wide 2 Try.prog 25 #[.pointer q] W fun e w' => e = .returned (.bool true) ∧ w' = W := by
    rcases hp with rfl | ⟨k, x, y, rfl, hH⟩
    · simp only [VR] at hv
      subst hv
      exact ⟨none, rfl, fun W _ => none0_in Fence.wide 2 trivial rfl W⟩
    · simp only [VR] at hv
      obtain ⟨b', sz, n, c', h1, rfl⟩ := hv
      obtain ⟨b, cc, mm⟩ := R.mem _ _ _ _ _ hH
      have hl := mm.loc
      rw [h1] at hl
      simp only [Option.some.injEq, Prod.mk.injEq] at hl
      obtain ⟨rfl, rfl, _⟩ := hl
      obtain ⟨cells, t, g1, _⟩ := mm.cells
      have hlt := (Array.getElem?_eq_some_iff.1 g1).1
      obtain ⟨cl, _⟩ := mm.Cl (e := 0) rfl
      obtain ⟨mv, m1, m2, _⟩ := cl 2 .nilmap rfl
      simp only [VR] at m2
      subst m2
      refine ⟨_, rfl, fun W hW => none1_in Fence.wide 2 trivial rfl _ _ W ?_⟩
      rw [← m1]
      exact hW.cell (p := ⟨b'.block, _, none⟩) hlt
  have h := prog0_in Fence.wide 3 trivial trivial rfl (by omega) q c i w hq
  refine (callsIn_wide.1 h).mono ?_
  rintro e w' ⟨rfl, hb⟩
  exact ⟨.tup [.d (.int .i64 0), .d (.int .i64 0), .d (.int .i64 7)], _, H, by simp only [VR]; exact ⟨_, rfl, by simp [VRL, VR, DR]⟩, (Nx.below (p := fun _ _ => none) R hb (fun b k v h => by cases h)).imp (fun _ h => h.elim), hk⟩
end Go.Proofs.Ytmciomkibklokaa

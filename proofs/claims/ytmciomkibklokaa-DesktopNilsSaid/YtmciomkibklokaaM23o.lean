/- A nil base, and a zero one. -/
import Derived.Test.YtmciomkibklokaaM23n
import Derived.Test.YtmciomkibklokaaM23e
import Derived.Test.YtmciomkibklokaaT23n
set_option autoImplicit false
set_option maxRecDepth 100000
set_option linter.unusedVariables false
set_option linter.unusedSimpArgs false
set_option linter.unnecessarySimpa false
namespace Go.Proofs.Ytmciomkibklokaa
open Go Go.AM Go.Proofs Go.RowKit
/-- A nil base, or a zero one. -/
def Zb (H : AHeap) (p : AV) : Prop := p = .nilptr ∨ ∃ k x y, p = .ptr k 0 0 0 ∧ H k = some (.mem 0 0 3 [[x, y, .nilmap]])
section
variable {H G : AHeap} {p : AV} {K : AV → AHeap → Prop}
theorem Zb.le (h : Zb H p) (hle : AHeap.le H G) : Zb G p := h.imp id fun ⟨k, x, y, e, hk⟩ => ⟨k, x, y, e, hle _ _ hk⟩
theorem Zb.frz (h : Zb H p) {l : List AV} {X : List AV → AHeap → Prop} : frzLK (p :: l) G X = frzLK l G fun l' H' => X (p :: l') H' := by
  rcases h with rfl | ⟨k, x, y, rfl, _⟩
  · rw [frzLK_nilptr]
  · rw [frzLK_ptr]
theorem none0_c (h : Zb H p) (hk : K (.d (.bool true)) H) : CallsA Try.prog 25 [p] H K := by
  apply C25
  unfold S25
  rcases h with rfl | ⟨k, x, y, rfl, hH⟩
  · simp only [nilA, isNil, go_sem]
    exact ⟨_, le_refl', hk⟩
  · have l2 : ldV false 1 (.ptr k 0 0 2) H = some .nilmap := ldV_at hH rfl rfl
    simp only [nilA, isNil, nilCkA, ti55_f2, go_sem, l2]
    exact ⟨_, le_refl', hk⟩
theorem Bytes0_c (h : Zb H p) (hk : K (.d (.sl true [])) H) : CallsA Try.prog 12 [p] H K := by
  apply C12; unfold S12
  simp only [h.frz, frzLK_nil]
  refine none0_c h ?_
  simp only [go_sem]
  exact ⟨_, le_refl', hk⟩
theorem Icon0_c {a b c : Dat} (h : Zb H p) (hk : K (.tup [.d (.int .i64 0), .d (.sl true []), .d (.int .i64 7)]) H) : CallsA Try.prog 14 [p, .d a, .d b, .d c] H K := by
  apply C14; unfold S14
  simp only [h.frz, frzLK_nil]
  refine none0_c h ?_
  simp only [go_sem]
  exact ⟨_, le_refl', hk⟩
theorem IconAt0_c {a b : Dat} (h : Zb H p) (hk : K (.tup [.d (.str ⟨#[]⟩), .d (.int .i64 0), .d (.int .i64 0), .d (.int .i64 7)]) H) : CallsA Try.prog 15 [p, .d a, .d b] H K := by
  apply C15; unfold S15
  simp only [h.frz, frzLK_nil]
  refine none0_c h ?_
  simp only [go_sem]
  exact ⟨_, le_refl', hk⟩
theorem Comment0_c {a : Dat} (h : Zb H p) (hk : K (.tup [.d (.str ⟨#[]⟩), .d (.int .i64 7)]) H) : CallsA Try.prog 16 [p, .d a] H K := by
  apply C16; unfold S16
  simp only [h.frz, frzLK_nil]
  refine none0_c h ?_
  simp only [go_sem]
  exact ⟨_, le_refl', hk⟩
theorem Count0_c (h : Zb H p) (hk : K (.tup [.d (.int .i64 0), .d (.int .i64 0), .d (.int .i64 0)]) H) : CallsA Try.prog 17 [p] H K := by
  apply C17; unfold S17
  simp only [h.frz, frzLK_nil]
  refine none0_c h ?_
  simp only [go_sem]
  exact ⟨_, le_refl', hk⟩
theorem PutIcon0_c {a b c d e : Dat} (h : Zb H p) (hk : K (.d (.int .i64 7)) H) : CallsA Try.prog 18 [p, .d a, .d b, .d c, .d d, .d e] H K := by
  apply C18; unfold S18
  simp only [h.frz, frzLK_nil]
  refine none0_c h ?_
  simp only [go_sem]
  exact ⟨_, le_refl', hk⟩
theorem PutProgram0_c {a b c : Dat} (h : Zb H p) (hk : K (.d (.int .i64 7)) H) : CallsA Try.prog 8 [p, .d a, .d b, .d c] H K := by
  apply C8; unfold S8
  simp only [h.frz, frzLK_nil]
  refine none0_c h ?_
  simp only [go_sem]
  exact ⟨_, le_refl', hk⟩
theorem RemoveProgram0_c {a b : Dat} (h : Zb H p) (hk : K (.d (.int .i64 7)) H) : CallsA Try.prog 19 [p, .d a, .d b] H K := by
  apply C19; unfold S19
  simp only [h.frz, frzLK_nil]
  refine none0_c h ?_
  simp only [go_sem]
  exact ⟨_, le_refl', hk⟩
theorem PutComment0_c {a b : Dat} (h : Zb H p) (hk : K (.d (.int .i64 7)) H) : CallsA Try.prog 20 [p, .d a, .d b] H K := by
  apply C20; unfold S20
  simp only [h.frz, frzLK_nil]
  refine none0_c h ?_
  simp only [go_sem]
  exact ⟨_, le_refl', hk⟩
theorem RemoveComment0_c {a : Dat} (h : Zb H p) (hk : K (.d (.int .i64 7)) H) : CallsA Try.prog 21 [p, .d a] H K := by
  apply C21; unfold S21
  simp only [h.frz, frzLK_d, frzLK_nil]
  refine Comment0_c h ?_
  simp only [go_sem, Int.reduceEq, Int.reduceNe, Int.reduceLT, Int.reduceLE, not_true_eq_false, not_false_eq_true, decide_true, decide_false, Int.reduceAdd, Int.reduceSub, Int.reduceMul]
  exact ⟨_, le_refl', hk⟩
theorem Forget0_c {a : Dat} (h : Zb H p) (hk : ∀ H', AHeap.le H H' → K (.d (.int .i64 7)) H') : CallsA Try.prog 22 [p, .d a] H K := by
  apply C22; unfold S22
  refine box_open rfl fun n G hG hle hn => ?_
  simp only [h.frz, frzLK_nil]
  refine none0_c (h.le hle) ?_
  simp only [go_sem]
  exact ⟨_, le_refl', hk G hle⟩
theorem Copy0_c (h : Zb H p) (hk : K .nilptr H) : CallsA Try.prog 23 [p] H K := by
  apply C23; unfold S23
  simp only [h.frz, frzLK_nil]
  refine none0_c h ?_
  simp only [go_sem]
  exact ⟨_, le_refl', hk⟩
theorem Same0_c (hk : K (.d (.bool true)) H) : CallsA Try.prog 24 [.nilptr, .nilptr] H K := by
  have h : Zb H .nilptr := .inl rfl
  apply C24; unfold S24
  simp only [h.frz, frzLK_nil]
  refine none0_c h ?_
  simp only [h.frz, frzLK_nil, ifA_t]
  refine none0_c h ?_
  simp only [h.frz, frzLK_nil, ifA_t]
  refine none0_c h ?_
  simp only [go_sem]
  exact ⟨_, le_refl', hk⟩
end
end Go.Proofs.Ytmciomkibklokaa

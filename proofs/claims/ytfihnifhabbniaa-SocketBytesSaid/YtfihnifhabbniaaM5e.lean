/- A node with one socket, and what waits there. -/
import Derived.Test.YtfihnifhabbniaaM5d
import Derived.Test.YtfihnifhabbniaaM5p
set_option autoImplicit false
set_option maxRecDepth 100000
set_option linter.unusedVariables false
set_option linter.unusedSimpArgs false
namespace Go.Proofs.Ytfihnifhabbniaa
open Go Go.AM Go.Proofs
/-- A queue's value. -/
def Qv (H : AHeap) (v : AV) (q : List (List Dat)) : Prop :=
  (∀ c ∈ q, c.length = 10) ∧ ((v = .d (.sl true []) ∧ q = []) ∨ ∃ i ver off L, v = .rs i ver 10 off q.length ∧ H i = some (.mem ver 0 10 L) ∧ (L.drop off).take q.length = avs q ∧ off + q.length ≤ L.length)
theorem Qv.len {H : AHeap} {v : AV} {q : List (List Dat)} (h : Qv H v q) : lenSl v = some (.d (.int .i64 q.length)) := by
  rcases h.2 with ⟨rfl, rfl⟩ | ⟨i, ver, off, L, rfl, _⟩ <;> rfl
theorem Qv.keep {H H' : AHeap} {v : AV} {q : List (List Dat)} (h : Qv H v q) (hk : ∀ i, idOf v = some i → H' i = H i) : Qv H' v q := by
  refine ⟨h.1, ?_⟩
  rcases h.2 with h | ⟨i, ver, off, L, rfl, h2, h3⟩
  · exact .inl h
  · exact .inr ⟨i, ver, off, L, rfl, by rw [hk i rfl]; exact h2, h3⟩
/-- A node: where it lies, its address, its one socket, what waits there. -/
structure Nq (H : AHeap) (k m : Nat) (a b s : Int) (v : AV) (q : List (List Dat)) : Prop where
  node : H k = some (.mem 0 0 3 [[.d (.int .i64 a), .d (.int .i64 b), .map m]])
  map : ∃ bn cl, H m = some (.map [⟨.int .i64 s, v, bn⟩] cl)
  qv : Qv H v q
theorem Nq.nd {H : AHeap} {k m : Nat} {a b s : Int} {v : AV} {q : List (List Dat)} (h : Nq H k m a b s v q) : Nd H k m a b [s] := by
  obtain ⟨bn, cl, h1⟩ := h.map
  exact ⟨h.node, ⟨_, cl, h1, rfl⟩, by simp⟩
theorem Nq.keep {H H' : AHeap} {k m : Nat} {a b s : Int} {v : AV} {q : List (List Dat)} (h : Nq H k m a b s v q) (hk : ∀ i, (H i).isSome → H' i = H i) : Nq H' k m a b s v q := by
  obtain ⟨bn, cl, h1⟩ := h.map
  refine ⟨by rw [hk k (by rw [h.node]; rfl)]; exact h.node, ⟨bn, cl, by rw [hk m (by rw [h1]; rfl)]; exact h1⟩, h.qv.keep fun i hi => hk i ?_⟩
  rcases h.qv.2 with ⟨rfl, _⟩ | ⟨j, ver, off, L, rfl, h2, _⟩
  · cases hi
  · cases hi; rw [h2]; rfl
theorem Nq.le {H H' : AHeap} {k m : Nat} {a b s : Int} {v : AV} {q : List (List Dat)} (h : Nq H k m a b s v q) (hle : AHeap.le H H') : Nq H' k m a b s v q :=
  h.keep fun i hi => by cases ho : H i with | none => rw [ho] at hi; cases hi | some o => exact hle i o ho
theorem look_q {s : Int} {v : AV} {m bn cl : Nat} {H : AHeap} (h : H m = some (.map [⟨.int .i64 s, v, bn⟩] cl)) : lookA (.d (.sl true [])) (.map m) (.d (.int .i64 s)) false H = some v := by
  simp only [lookA, h, findE, keyEq_int, beq_self_eq_true, Bool.false_eq_true, if_false]
theorem mu_q {s : Int} {v w : AV} {m bn cl : Nat} {H : AHeap} (h : H m = some (.map [⟨.int .i64 s, v, bn⟩] cl)) (hw : w.storable = true) (hc : w.cells = [w]) (hag : ∀ l, w ≠ .agg l) : muA Try.prog 3 (.map m) (.d (.int .i64 s)) w H = some (.junk, [(m, .map [⟨.int .i64 s, w, bn⟩] cl)]) := by
  have e : mapSetA (.map m) (.d (.int .i64 s)) w H = some [(m, .map [⟨.int .i64 s, w, bn⟩] cl)] := by
    simp only [mapSetA, h, findE, keyEq_int, beq_self_eq_true]
    rfl
  simp only [muA, Try.underlying3, keyOk, decide_true, hw, and_self, if_true]
  cases w <;> first | (exact absurd rfl (hag _)) | (simp only [e])
theorem waiting_c {H : AHeap} {k m : Nat} {a b s : Int} {v : AV} {q : List (List Dat)} (h : Nq H k m a b s v q) {K : AV → AHeap → Prop} (hk : K (.d (.int .i64 q.length)) H) : CallsA Try.prog 15 [.ptr k 0 0 0, .d (.int .i64 s)] H K := by
  apply C15
  unfold S15
  obtain ⟨bn, cl, h1⟩ := h.map
  simp only [go_sem]
  refine none_c h.nd ?_
  simp only [nilCk_ptr, ti72_f1, getM_of h.node, keyInt, look_q h1, h.qv.len, go_sem]
  exact ⟨H, le_refl', hk⟩
theorem next0_c {H : AHeap} {k m : Nat} {a b s : Int} {v : AV} (h : Nq H k m a b s v []) {K : AV → AHeap → Prop} (hk : K (.tup [.agg zp, .d (.int .i64 5)]) H) : CallsA Try.prog 16 [.ptr k 0 0 0, .d (.int .i64 s)] H K := by
  apply C16
  unfold S16
  refine alloc_open fun k2 G hG hle hk2 => ?_
  have h' := h.le hle
  obtain ⟨bn, cl, h1⟩ := h'.map
  simp only [go_sem]
  refine none_c h'.nd ?_
  simp only [nilCk_ptr, ti72_f1, getM_of h'.node, keyInt, look_q h1, h'.qv.len, List.length_nil, if_true, go_sem]
  rw [if_pos (show ((0 : Nat) : Int) = 0 from rfl)]
  simp only [getM_of hG, bd36, cell3, cell4, cell28, cell22, stoA_agg, stoA_get, stoM, setCells, and_self, true_and, Nat.le_refl, Nat.reduceLeDiff, List.cons_append, List.set_cons_zero, List.getElem?_cons_zero, bdA, fillA, setCells, List.zip_cons_cons, List.zip_nil_right, List.zip_nil_left, Option.map_some, and_self, Nat.le_refl, Nat.reduceLeDiff, List.cons_append, go_sem]
  exact ⟨H, set_le hle hk2, hk⟩
end Go.Proofs.Ytfihnifhabbniaa

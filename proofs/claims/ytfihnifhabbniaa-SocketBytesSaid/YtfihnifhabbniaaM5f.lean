/- Datagrams are taken, and come out. -/
import Derived.Test.YtfihnifhabbniaaM5e
set_option autoImplicit false
set_option maxRecDepth 100000
set_option linter.unusedVariables false
set_option linter.unusedSimpArgs false
namespace Go.Proofs.Ytfihnifhabbniaa
open Go Go.AM Go.Proofs
open P4 (Pk)
def Pk.cells (p : Pk) : List Dat := [.int .i64 p.hops, .int .i64 p.dn, .int .i64 p.dd, .int .i64 p.sn, .int .i64 p.sd, .int .i64 p.ds, .int .i64 p.ss, .int .i64 p.ty, .sl p.nl (bs p.data), .bool p.sum]
theorem av_cells (p : Pk) : p.av = .agg ((Pk.cells p).map AV.d) := rfl
theorem Qv.at0 {H : AHeap} {v : AV} {c : List Dat} {q : List (List Dat)} (h : Qv H v (c :: q)) : ∃ i ver off L, v = .rs i ver 10 off (c :: q).length ∧ H i = some (.mem ver 0 10 L) ∧ L[off]? = some (c.map AV.d) ∧ Qv H (.rs i ver 10 (off + 1) q.length) q ∧ off + 1 ≤ off + q.length + 1 ∧ off + q.length + 1 ≤ L.length := by
  rcases h.2 with ⟨_, h0⟩ | ⟨i, ver, off, L, rfl, h2, h3, h4⟩
  · cases h0
  · simp only [List.length_cons] at h4 h3
    have hd : (L.drop off) = c.map AV.d :: L.drop (off + 1) := by
      have hlt : off < L.length := by omega
      rw [List.drop_eq_getElem_cons hlt] at h3 ⊢
      simp only [List.take_succ_cons, avs, List.map_cons, List.cons.injEq] at h3
      rw [h3.1]
    refine ⟨i, ver, off, L, rfl, h2, ?_, ⟨fun x hx => h.1 x (List.mem_cons_of_mem _ hx), .inr ⟨i, ver, off + 1, L, rfl, h2, ?_, by omega⟩⟩, by omega, by omega⟩
    · have : (L.drop off)[0]? = some (c.map AV.d) := by rw [hd]; rfl
      simpa using this
    · rw [hd] at h3
      simpa [avs] using h3
theorem le_eq {H X : AHeap} {i : Nat} (h : AHeap.le H X) (hi : (H i).isSome) : X i = H i := by
  cases ho : H i with
  | none => rw [ho] at hi; cases hi
  | some o => exact h i o ho
theorem some_ne {H : AHeap} {i k : Nat} (hi : (H i).isSome) (hk : H k = none) : i ≠ k := by
  intro he; rw [he, hk] at hi; cases hi
theorem idx_q {ti : TI} {e sz i ver n off : Nat} (hk : ti.k = .slice e) (h : 0 < n) : indexAddrA ti sz (.rs i ver sz off n) (.d (.int .i64 0)) = some (.ptr i ver off 0) := by
  have h' : (0 : Int) < (n : Int) := by omega
  simp only [indexAddrA, hk, h', and_self, if_true, Int.le_refl]
  rfl
theorem next_c {p : Pk} {H : AHeap} {k m : Nat} {a b s : Int} {v : AV} {q : List (List Dat)} (h : Nq H k m a b s v (Pk.cells p :: q)) {K : AV → AHeap → Prop} (hk : ∀ H' v', Nq H' k m a b s v' q → (∀ i, (H i).isSome → i ≠ m → H' i = H i) → K (.tup [p.av, .d (.int .i64 0)]) H') : CallsA Try.prog 16 [.ptr k 0 0 0, .d (.int .i64 s)] H K := by
  apply C16
  unfold S16
  refine alloc_open fun k2 G hG hle hk2 => ?_
  have h' := h.le hle
  obtain ⟨bn, cl, h1⟩ := h'.map
  obtain ⟨i, ver, off, L, rfl, g2, g3, g4, g5, g6⟩ := h'.qv.at0
  have ln : lenSl (.rs i ver 10 off (Pk.cells p :: q).length) = some (.d (.int .i64 (Pk.cells p :: q).length)) := rfl
  simp only [go_sem]
  refine none_c h'.nd ?_
  simp only [nilCk_ptr, ti72_f1, getM_of h'.node, keyInt, look_q h1, ln, go_sem]
  rw [if_neg (show ¬ (((q.length + 1 : Nat)) : Int) = 0 by omega)]
  simp only [idx_q (ti := ti76) rfl (show 0 < q.length + 1 by omega), getM_of g2, g3, Pk.cells, go_sem]
  refine alloc_open fun k3 G3 hG3 hle3 hk3 => ?_
  have h3 := h'.le hle3
  have g2' := hle3 _ _ g2
  obtain ⟨bn, cl, h31⟩ := h3.map
  have e1 := le_ne h'.node hk3
  have e2 : i ≠ k3 := le_ne g2 hk3
  have e3 : m ≠ k3 := le_ne h1 hk3
  have e4 : k2 ≠ k3 := le_ne hG hk3
  have sl : ∀ G' : AHeap, G' i = some (.mem ver 0 10 L) → sliceA 10 (.rs i ver 10 off (q.length + 1)) (some (.d (.int .i64 1))) none none G' = some (.rs i ver 10 (off + 1) q.length) := fun G' hG' => by
    have e : off + (q.length + 1) ≤ L.length := by omega
    simp only [sliceA, hG', bnd, if_true, e, Int.reduceLE, Int.reduceToNat, show (1 : Nat) ≤ q.length + 1 by omega, and_self]
    rfl
  simp only [zp, getM_of hG3, getM_of h3.node, nilCk_ptr, ti72_f1, keyInt, look_q h31, e1, e2, e3, e4, sl _ g2', stoA_agg, stoA_get, stoM, setCells, and_self, true_and, Nat.le_refl, Nat.reduceLeDiff, List.cons_append, List.set_cons_zero, List.getElem?_cons_zero, go_sem]
  generalize hX : G3.set k3 _ = X3
  have hX3 : AHeap.le G X3 := by rw [← hX]; exact set_le hle3 hk3
  have hXk : X3 k3 = some (.mem 0 0 10 [(Pk.cells p).map AV.d]) := by rw [← hX]; exact set_self
  clear hX hG3 h3 g2' h31 hle3
  have h3 := h'.le hX3
  have g2' := hX3 _ _ g2
  obtain ⟨bn, cl, h31⟩ := h3.map
  have e5 : k3 ≠ m := fun he => e3 he.symm
  have e6 : k2 ≠ m := fun he => by rw [he, h1] at hG; cases hG
  have hk2' := hX3 _ _ hG
  simp only [look_q h31, List.length_cons, sl _ g2', mu_q h31 (w := .rs i ver 10 (off + 1) q.length) rfl rfl (fun l hl => by cases hl), getM_of hXk, getM_of hk2', e5, e6, e4, Pk.cells, zp, stoA_agg, stoA_get, stoM, setCells, and_self, true_and, Nat.le_refl, Nat.reduceLeDiff, List.cons_append, List.set_cons_zero, List.getElem?_cons_zero, go_sem]
  have e7 : k ≠ k2 := le_ne h.node hk2
  have e8 : i ≠ m := fun he => by rw [he, h1] at g2; cases g2
  have e9 : i ≠ k2 := by
    obtain ⟨_, _, _, _, j1, j2, _⟩ := h.qv.at0
    cases j1
    exact le_ne j2 hk2
  refine ⟨_, le_refl', hk _ _ ⟨?_, ⟨bn, cl, ?_⟩, (g4.keep fun j hj => ?_)⟩ fun j hj hjm => ?_⟩
  · rw [set_ne e7, set_ne h3.nd.ne]; exact h3.node
  · rw [set_ne (Ne.symm e6)]; exact set_self
  · cases hj; rw [set_ne e9, set_ne e8, g2', g2]
  · rw [set_ne (some_ne hj hk2), set_ne hjm]; exact le_eq (le_trans' hle hX3) hj
end Go.Proofs.Ytfihnifhabbniaa

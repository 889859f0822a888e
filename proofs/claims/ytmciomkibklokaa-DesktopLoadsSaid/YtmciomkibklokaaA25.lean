/- Slices of one's own that are read and written by index. -/
import Derived.Test.YtmciomkibklokaaA24
set_option autoImplicit false
set_option linter.unusedVariables false
set_option linter.unusedSimpArgs false
namespace Go.AM
def isRs : AV → Bool
  | .rs .. => true
  | _ => false
theorem newK_and {H : AHeap} {f : Nat → Option (AV × Ups)} {q : AV → Prop} {K : AV → AHeap → Prop} (h : newK H f fun v H' => q v → K v H') (hq : ∀ n v us, f n = some (v, us) → q v) : newK H f K := by
  intro n hn
  have := h n hn
  simp only [stepK] at this ⊢
  cases hf : f n with
  | none => simp only [hf, optA] at this
  | some r =>
    obtain ⟨v, us⟩ := r
    simp only [hf, optA] at this ⊢
    exact this (hq n v us hf)
theorem app_rs {sz bytes : Nat} {v x v' : AV} {H : AHeap} {n : Nat} {us : Ups} (hv : isRs v = true) (h : apA sz bytes v x H n = some (v', us)) : isRs v' = true := by
  cases v <;> simp only [isRs, Bool.false_eq_true] at hv
  unfold apA at h
  split at h
  · split at h
    · simp only [appA] at h
      split at h
      · split at h
        · simp only [Option.some.injEq, Prod.mk.injEq] at h; rw [← h.1]; rfl
        · split at h
          · simp only [Option.some.injEq, Prod.mk.injEq] at h; rw [← h.1]; rfl
          · cases h
      · cases h
    · cases h
  · cases h
/-- A mutable slice of one's own. -/
structure OwnM (H0 : AHeap) (sz : Nat) (H : AHeap) (i ver : Nat) (l : List (List Dat)) : Prop where
  own : Own H0 sz H (.rs i ver sz 0 l.length) l
  fresh : H0 i = none
theorem Own.toM {H0 H : AHeap} {sz : Nat} {v : AV} {l : List (List Dat)} (h : Own H0 sz H v l) (hv : isRs v = true) : ∃ i ver, v = .rs i ver sz 0 l.length ∧ OwnM H0 sz H i ver l := by
  rcases h.2.2 with ⟨rfl, rfl⟩ | rfl | ⟨i, ver, L, rfl, h1, h2, h3, h4⟩
  · cases hv
  · cases hv
  · exact ⟨i, ver, rfl, h, h4⟩
theorem OwnM.mem {H0 H : AHeap} {sz i ver : Nat} {l : List (List Dat)} (h : OwnM H0 sz H i ver l) : ∃ L, H i = some (.mem ver 0 sz L) ∧ L.take l.length = avs l ∧ l.length ≤ L.length := by
  rcases h.own.2.2 with ⟨h1, _⟩ | h1 | ⟨j, v, L, h1, h2, h3, h4, h5⟩
  · cases h1
  · cases h1
  · cases h1; exact ⟨L, h2, h3, h4⟩
theorem idx_rs {ti : TI} {e sz i ver n : Nat} {j : Int} (hk : ti.k = .slice e) (h0 : 0 ≤ j) (h : j < n) : indexAddrA ti sz (.rs i ver sz 0 n) (.d (.int .i64 j)) = some (.ptr i ver j.toNat 0) := by
  simp only [indexAddrA, hk, h0, h, and_self, if_true, Nat.zero_add]
theorem OwnM.at {H0 H : AHeap} {sz i ver j : Nat} {l : List (List Dat)} {c : List Dat} (h : OwnM H0 sz H i ver l) (hc : l[j]? = some c) : ∃ L, getM H i ver = some (0, sz, L) ∧ L[j]? = some (c.map AV.d) := by
  obtain ⟨L, h1, h2, h3⟩ := h.mem
  refine ⟨L, getM_of h1, ?_⟩
  have hj : j < l.length := (List.getElem?_eq_some_iff.1 hc).1
  have : (L.take l.length)[j]? = L[j]? := List.getElem?_take_of_lt hj
  rw [← this, h2]
  simp only [avs, List.getElem?_map, hc, Option.map_some]
theorem OwnM.get {H0 H : AHeap} {i ver j : Nat} {l : List (List Dat)} {x : Dat} (h : OwnM H0 1 H i ver l) (hc : l[j]? = some [x]) : ldV false 1 (.ptr i ver j 0) H = some (.d x) := by
  obtain ⟨L, h1, h2⟩ := h.at hc
  simp only [ldV_get, h1, ldM, h2, partV, List.map_cons, List.map_nil, List.drop_zero, List.take_succ_cons, List.take_zero, List.length_cons, List.length_nil, if_true, Bool.false_eq_true, if_false]
theorem OwnM.put {H0 H : AHeap} {i ver j : Nat} {l : List (List Dat)} {x y : Dat} (h : OwnM H0 1 H i ver l) (hc : l[j]? = some [x]) : ∃ o, stoA false 1 (.ptr i ver j 0) (.d y) H = some (.junk, [(i, o)]) ∧ OwnM H0 1 (H.set i o) i ver (l.set j [y]) := by
  obtain ⟨L, h1, h2⟩ := h.at hc
  obtain ⟨L', g1, g2, g3⟩ := h.mem
  have : L' = L := by have := getM_of g1; rw [h1] at this; simpa using this.symm
  subst this
  refine ⟨.mem ver 0 1 (L'.set j [.d y]), ?_, ?_, h.fresh⟩
  · simp only [stoA_get, h1, stoM, h2, AV.storable, AV.cells, setCells, List.map_cons, List.map_nil, List.length_cons, List.length_nil, Nat.zero_le, and_self, if_true, Nat.zero_add, Nat.le_refl, List.take_zero, List.nil_append, List.drop_succ_cons, List.drop_zero, List.append_nil]
  · have hl : (l.set j [y]).length = l.length := List.length_set
    refine Own.rs (le_set_own h.own.1 h.fresh) (fun c hc' => ?_) set_self ?_ (by rw [hl, List.length_set]; exact g3) h.fresh
    · rcases List.mem_or_eq_of_mem_set hc' with h3 | h3
      · exact h.own.2.1 c h3
      · rw [h3]; rfl
    · rw [hl, List.take_set, g2]
      simp only [avs, List.map_set, List.map_cons, List.map_nil]
theorem OwnM.frz {H0 H : AHeap} {sz i ver : Nat} {l : List (List Dat)} (h : OwnM H0 sz H i ver l) : ∃ us, AM.frz (.rs i ver sz 0 l.length) H = some (.d (.sl false l), us) ∧ AM.frzA (.rs i ver sz 0 l.length) H = some (.d (.sl false l), us) ∧ AHeap.le H0 (H.sets us) := by
  obtain ⟨us, h1, h2, h3, _⟩ := h.own.frz
  exact ⟨us, h1, h2, h3⟩
end Go.AM

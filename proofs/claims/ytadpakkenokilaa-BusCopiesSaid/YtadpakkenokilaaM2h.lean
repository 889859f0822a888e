/- No two stations are settled at one number: the plain part. -/
import Derived.Test.YtadpakkenokilaaM2f
set_option autoImplicit false
set_option linter.unusedVariables false
set_option linter.unusedSimpArgs false
namespace Go.Proofs.Ytadpakkenokilaa
open Go Go.AM Go.Proofs
/-- No two are settled at one number; who is settled is on. -/
structure Alone (sts : List St) : Prop where
  on : ∀ j, j < sts.length → (sts.getD j default).state = 2 → (sts.getD j default).on = true
  ne : ∀ i j, i < sts.length → j < sts.length → i ≠ j → (sts.getD i default).state = 2 → (sts.getD j default).state = 2 → (sts.getD i default).node ≠ (sts.getD j default).node
theorem Alone.nil : Alone [] := ⟨fun j hj => by simp at hj, fun i j hi => by simp at hi⟩
theorem Alone.set {sts : List St} (h : Alone sts) {j : Nat} {s : St} (hj : j < sts.length) (hs : s = sts.getD j default ∨ s.state ≠ 2) : Alone (sts.set j s) := by
  rcases hs with rfl | hs
  · have e : sts.set j (sts.getD j default) = sts := by
      rw [List.getD_eq_getElem?_getD, List.getElem?_eq_getElem hj]
      exact List.set_getElem_self hj
    rw [e]; exact h
  · refine ⟨fun i hi h2 => ?_, fun a b ha hb hab h2 h3 => ?_⟩
    · rw [List.length_set] at hi
      by_cases hij : j = i
      · subst hij; rw [gD_set_self hj] at h2; exact absurd h2 hs
      · rw [gD_set_ne hij] at h2 ⊢; exact h.on i hi h2
    · rw [List.length_set] at ha hb
      by_cases h1 : j = a
      · subst h1; rw [gD_set_self hj] at h2; exact absurd h2 hs
      by_cases h4 : j = b
      · subst h4; rw [gD_set_self hj] at h3; exact absurd h3 hs
      rw [gD_set_ne h1] at h2 ⊢
      rw [gD_set_ne h4] at h3 ⊢
      exact h.ne a b ha hb hab h2 h3
theorem Alone.more {sts : List St} (h : Alone sts) {s : St} (hs : s.state ≠ 2) : Alone (sts ++ [s]) := by
  have g1 : ∀ j, j < sts.length → (sts ++ [s]).getD j default = sts.getD j default := fun j hj => by
    rw [List.getD_eq_getElem?_getD, List.getD_eq_getElem?_getD, List.getElem?_append_left hj]
  have g2 : ∀ j, j < (sts ++ [s]).length → ((sts ++ [s]).getD j default).state = 2 → j < sts.length := fun j hj h2 => by
    rw [List.length_append, List.length_singleton] at hj
    apply Classical.byContradiction
    intro hn
    have he : j = sts.length := by omega
    subst he
    rw [List.getD_eq_getElem?_getD, List.getElem?_append_right (Nat.le_refl _), Nat.sub_self] at h2
    exact hs h2
  refine ⟨fun j hj h2 => ?_, fun i j hi hj hij h2 h3 => ?_⟩
  · have := g2 j hj h2
    rw [g1 j this] at h2 ⊢
    exact h.on j this h2
  · have a := g2 i hi h2
    have b := g2 j hj h3
    rw [g1 i a] at h2 ⊢
    rw [g1 j b] at h3 ⊢
    exact h.ne i j a b hij h2 h3
theorem fin_on {s : St} {a : Bool} : (s.fin a).on = s.on := by
  unfold St.fin
  split
  · rfl
  · split <;> rfl
theorem fin_2 {s : St} {a : Bool} (h1 : s.state = 1) (h : (s.fin a).state = 2) : a = false ∧ (s.fin a).node = s.gs := by
  unfold St.fin at h ⊢
  cases a
  · refine ⟨rfl, ?_⟩
    simp only [Bool.false_eq_true, if_false] at h ⊢
    split at h
    · rename_i h8; rw [if_pos h8]
    · simp only at h; omega
  · simp only [if_true] at h
    split at h
    · cases h
    · omega
theorem Alone.stp {sts : List St} (h : Alone sts) (ok : ∀ s ∈ sts, s.Ok) {f : Int} : Alone (step never sts f).1 := by
  have okj : ∀ j, j < sts.length → (sts.getD j default).Ok := fun j hj => by
    rw [List.getD_eq_getElem?_getD, List.getElem?_eq_getElem hj]
    exact ok _ (List.getElem_mem hj)
  have hl := step_len (lost := never) (sts := sts) (f := f)
  have new : ∀ j, j < sts.length → ((step never sts f).1.getD j default).state = 2 → (sts.getD j default).on = true ∧ ((step never sts f).1.getD j default).on = true ∧ ((sts.getD j default).state = 2 ∧ (step never sts f).1.getD j default = sts.getD j default ∨ (sts.getD j default).state = 1 ∧ ((step never sts f).1.getD j default).node = (sts.getD j default).gs ∧ ∀ k, k < sts.length → ans sts k j = false) := fun j hj h2 => by
    rw [step_never hj] at h2 ⊢
    split at h2
    · rename_i h1
      rw [if_pos h1]
      obtain ⟨a, b⟩ := fin_2 h1 h2
      have hon := ((okj j hj).go h1).2.2
      refine ⟨hon, fin_on.trans hon, .inr ⟨h1, b, fun k hk => ?_⟩⟩
      have := of_decide_eq_false a
      cases hx : ans sts k j with
      | false => rfl
      | true => exact absurd ⟨k, hk, hx⟩ this
    · rename_i h1
      rw [if_neg h1]
      exact ⟨h.on j hj h2, h.on j hj h2, .inl ⟨h2, rfl⟩⟩
  refine ⟨fun j hj h2 => (new j (hl ▸ hj) h2).2.1, fun i j hi hj hij h2 h3 => ?_⟩
  rw [hl] at hi hj
  obtain ⟨a1, _, a2⟩ := new i hi h2
  obtain ⟨b1, _, b2⟩ := new j hj h3
  rcases a2 with ⟨a2, a3⟩ | ⟨a2, a3, a4⟩
  · rcases b2 with ⟨b2, b3⟩ | ⟨b2, b3, b4⟩
    · rw [a3, b3]; exact h.ne i j hi hj hij a2 b2
    · have := b4 i hi
      simp only [ans, hij, a1, a2, false_or, Bool.true_eq_false, if_false, if_true, decide_eq_false_iff_not] at this
      rw [a3, b3]; exact this
  · rcases b2 with ⟨b2, b3⟩ | ⟨b2, b3, b4⟩
    · have := a4 j hj
      simp only [ans, Ne.symm hij, b1, b2, false_or, Bool.true_eq_false, if_false, if_true, decide_eq_false_iff_not] at this
      rw [a3, b3]; exact fun he => this he.symm
    · have t1 := b4 i hi
      have t2 := a4 j hj
      have n1 : ¬ ((1 : Int) = 2) := by decide
      simp only [ans, hij, a1, a2, b1, b2, false_or, Bool.true_eq_false, if_false, if_true, n1, decide_eq_false_iff_not] at t1
      simp only [ans, Ne.symm hij, a1, a2, b1, b2, false_or, Bool.true_eq_false, if_false, if_true, n1, decide_eq_false_iff_not] at t2
      rw [a3, b3]
      intro he
      have u1 : ¬ ((sts.getD j default).sent < (sts.getD i default).sent ∨ (sts.getD i default).sent = (sts.getD j default).sent ∧ i < j) := fun hh => t1 ⟨he, hh⟩
      have u2 : ¬ ((sts.getD i default).sent < (sts.getD j default).sent ∨ (sts.getD j default).sent = (sts.getD i default).sent ∧ j < i) := fun hh => t2 ⟨he.symm, hh⟩
      omega
/-- A station that is turned on or off. -/
def St.turn (s : St) (o : Bool) : St := if s.on = o then s else { s with on := o, state := 0 }
theorem St.Ok.turn {s : St} (h : s.Ok) (o : Bool) : (s.turn o).Ok := by
  unfold St.turn
  split
  · exact h
  · exact ⟨h.k, h.sent, .inl rfl, h.node, (fun h1 => by cases h1), h.wf, h.len⟩
theorem turn_2 {s : St} {o : Bool} : s.turn o = s ∨ (s.turn o).state ≠ 2 := by
  unfold St.turn
  split
  · exact .inl rfl
  · exact .inr (by simp)
end Go.Proofs.Ytadpakkenokilaa

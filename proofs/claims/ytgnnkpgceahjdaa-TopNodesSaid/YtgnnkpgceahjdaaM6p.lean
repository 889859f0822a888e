/- Stations of a fast link: the plain part. -/
import Derived.Test.YtgnnkpgceahjdaaM6a
set_option autoImplicit false
set_option linter.unusedVariables false
set_option linter.unusedSimpArgs false
set_option linter.unnecessarySimpa false
namespace Go.Proofs.Ytgnnkpgceahjdaa
open Go Go.AM Go.Proofs
structure Pt where
  rn : Bool
  row : List Int
  state : Int
  k : Int
  sent : Int
  net : Int
  node : Int
instance : Inhabited Pt := ⟨⟨true, [], 0, 0, 0, 0, 0⟩⟩
/-- Of what the k-th address is made. -/
def paX (row : List Int) (k : Int) : Int := max (if row = [] then k else max (row.getD (k.toNat % row.length) 0) (IntKind.i64.wrap (0 - row.getD (k.toNat % row.length) 0))) 0
def paNet (x : Int) : Int := 3 + x / 253 % 2
def paNode (x : Int) : Int := 1 + x % 253
def Pt.x (s : Pt) : Int := paX s.row s.k
structure Pt.Ok (s : Pt) : Prop where
  k : 0 ≤ s.k ∧ s.k ≤ 600
  sent : 0 ≤ s.sent ∧ s.sent ≤ 10
  go : s.state = 1 → s.k < 600 ∧ s.sent < 10
  wf : ∀ x ∈ s.row, -9223372036854775808 ≤ x ∧ x ≤ 9223372036854775807
  len : s.row.length < 2 ^ 40
/-- Are two at one address? -/
def Pt.at (s t : Pt) : Prop := s.net = paNet t.x ∧ s.node = paNode t.x
/-- Does station i answer a probe of station o? -/
def pans (sts : List Pt) (i o : Nat) : Bool :=
  let s := sts.getD i default
  let t := sts.getD o default
  if i = o then false
  else if s.state = 2 then decide (s.net = paNet t.x ∧ s.node = paNode t.x)
  else if s.state = 1 then decide ((paNet s.x = paNet t.x ∧ paNode s.x = paNode t.x) ∧ (t.sent < s.sent ∨ s.sent = t.sent ∧ i < o))
  else false
def Pt.fin (s : Pt) (a : Bool) : Pt :=
  if a then { s with k := s.k + 1, sent := 0, state := if s.k + 1 = 600 then 3 else s.state }
  else if s.sent + 1 = 10 then { s with sent := 10, state := 2, net := paNet s.x, node := paNode s.x } else { s with sent := s.sent + 1 }
theorem Pt.Ok.fin {s : Pt} (h : s.Ok) (h1 : s.state = 1) (a : Bool) : (s.fin a).Ok := by
  have h2 := h.go h1
  have hk := h.k
  have hsn := h.sent
  unfold Pt.fin
  cases a
  · simp only [Bool.false_eq_true, if_false]
    split
    · exact ⟨h.k, ⟨by simp, by simp⟩, (fun h => by cases h), h.wf, h.len⟩
    · exact ⟨h.k, ⟨by simp only; omega, by simp only; omega⟩, (fun h => ⟨by simp only; omega, by simp only; omega⟩), h.wf, h.len⟩
  · simp only [if_true]
    refine ⟨⟨by simp only; omega, by simp only; omega⟩, ⟨by simp, by simp⟩, (fun h => ?_), h.wf, h.len⟩
    simp only at h ⊢
    split at h
    · cases h
    · exact ⟨by omega, by decide⟩
/-- A step: each that probes. -/
structure PStep (sts sts' : List Pt) : Prop where
  len : sts'.length = sts.length
  at' : ∀ j, j < sts.length → sts'.getD j default = if (sts.getD j default).state = 1 then (sts.getD j default).fin (decide (∃ k, k < sts.length ∧ pans sts k j = true)) else sts.getD j default
structure PAlone (sts : List Pt) : Prop where
  ne : ∀ i j, i < sts.length → j < sts.length → i ≠ j → (sts.getD i default).state = 2 → (sts.getD j default).state = 2 → ¬ ((sts.getD i default).net = (sts.getD j default).net ∧ (sts.getD i default).node = (sts.getD j default).node)
theorem PAlone.nil : PAlone [] := ⟨fun i j hi => by simp at hi⟩
theorem pfin_2 {s : Pt} {a : Bool} (h1 : s.state = 1) (h : (s.fin a).state = 2) : a = false ∧ (s.fin a).net = paNet s.x ∧ (s.fin a).node = paNode s.x := by
  unfold Pt.fin at h ⊢
  cases a
  · refine ⟨rfl, ?_⟩
    simp only [Bool.false_eq_true, if_false] at h ⊢
    split at h
    · rename_i h8; rw [if_pos h8]; exact ⟨rfl, rfl⟩
    · simp only at h; omega
  · simp only [if_true] at h
    split at h
    · cases h
    · omega
theorem PAlone.set {sts : List Pt} (h : PAlone sts) {j : Nat} {s : Pt} (hj : j < sts.length) (hs : s.state ≠ 2) : PAlone (sts.set j s) := by
  refine ⟨fun a b ha hb hab h2 h3 => ?_⟩
  rw [List.length_set] at ha hb
  by_cases h1 : j = a
  · subst h1; rw [gD_set_self hj] at h2; exact absurd h2 hs
  by_cases h4 : j = b
  · subst h4; rw [gD_set_self hj] at h3; exact absurd h3 hs
  rw [gD_set_ne h1] at h2 ⊢
  rw [gD_set_ne h4] at h3 ⊢
  exact h.ne a b ha hb hab h2 h3
theorem PAlone.more {sts : List Pt} (h : PAlone sts) {s : Pt} (hs : s.state ≠ 2) : PAlone (sts ++ [s]) := by
  have g1 : ∀ j, j < sts.length → (sts ++ [s]).getD j default = sts.getD j default := fun j hj => by
    rw [List.getD_eq_getElem?_getD, List.getD_eq_getElem?_getD, List.getElem?_append_left hj]
  have g2 : ∀ j, j < (sts ++ [s]).length → ((sts ++ [s]).getD j default).state = 2 → j < sts.length := fun j hj h2 => by
    rw [List.length_append, List.length_singleton] at hj
    apply Classical.byContradiction
    intro hn
    have he : j = sts.length := by omega
    subst he
    rw [List.getD_eq_getElem?_getD, List.getElem?_append_right (Nat.le_refl _), Nat.sub_self] at h2
    exact hs h2
  refine ⟨fun i j hi hj hij h2 h3 => ?_⟩
  have a := g2 i hi h2
  have b := g2 j hj h3
  rw [g1 i a] at h2 ⊢
  rw [g1 j b] at h3 ⊢
  exact h.ne i j a b hij h2 h3
theorem PAlone.stp {sts sts' : List Pt} (h : PAlone sts) (hs : PStep sts sts') : PAlone sts' := by
  have new : ∀ j, j < sts.length → (sts'.getD j default).state = 2 → ((sts.getD j default).state = 2 ∧ sts'.getD j default = sts.getD j default ∨ (sts.getD j default).state = 1 ∧ (sts'.getD j default).net = paNet (sts.getD j default).x ∧ (sts'.getD j default).node = paNode (sts.getD j default).x ∧ ∀ k, k < sts.length → pans sts k j = false) := fun j hj h2 => by
    rw [hs.at' j hj] at h2 ⊢
    split at h2
    · rename_i h1
      rw [if_pos h1]
      obtain ⟨a, b, c⟩ := pfin_2 h1 h2
      refine .inr ⟨h1, b, c, fun k hk => ?_⟩
      have := of_decide_eq_false a
      cases hx : pans sts k j with
      | false => rfl
      | true => exact absurd ⟨k, hk, hx⟩ this
    · rename_i h1
      rw [if_neg h1]
      exact .inl ⟨h2, rfl⟩
  refine ⟨fun i j hi hj hij h2 h3 => ?_⟩
  rw [hs.len] at hi hj
  rcases new i hi h2 with ⟨a2, a3⟩ | ⟨a2, a3, a3', a4⟩
  · rcases new j hj h3 with ⟨b2, b3⟩ | ⟨b2, b3, b3', b4⟩
    · rw [a3, b3]; exact h.ne i j hi hj hij a2 b2
    · have := b4 i hi
      simp only [pans, hij, a2, if_false, if_true, decide_eq_false_iff_not] at this
      rw [a3, b3, b3']; exact this
  · rcases new j hj h3 with ⟨b2, b3⟩ | ⟨b2, b3, b3', b4⟩
    · have := a4 j hj
      simp only [pans, Ne.symm hij, b2, if_false, if_true, decide_eq_false_iff_not] at this
      rw [a3, a3', b3]; exact fun he => this ⟨he.1.symm, he.2.symm⟩
    · have t1 := b4 i hi
      have t2 := a4 j hj
      have n1 : ¬ ((1 : Int) = 2) := by decide
      simp only [pans, hij, a2, b2, if_false, if_true, n1, decide_eq_false_iff_not] at t1
      simp only [pans, Ne.symm hij, a2, b2, if_false, if_true, n1, decide_eq_false_iff_not] at t2
      rw [a3, a3', b3, b3']
      intro he
      have u1 : ¬ ((sts.getD j default).sent < (sts.getD i default).sent ∨ (sts.getD i default).sent = (sts.getD j default).sent ∧ i < j) := fun hh => t1 ⟨he, hh⟩
      have u2 : ¬ ((sts.getD i default).sent < (sts.getD j default).sent ∨ (sts.getD j default).sent = (sts.getD i default).sent ∧ j < i) := fun hh => t2 ⟨⟨he.1.symm, he.2.symm⟩, hh⟩
      omega
end Go.Proofs.Ytgnnkpgceahjdaa

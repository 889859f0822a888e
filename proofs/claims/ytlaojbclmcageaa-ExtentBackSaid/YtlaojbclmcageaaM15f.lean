/- Runs of free blocks, in plain lists. -/
import Derived.Test.YtlaojbclmcageaaM15e
set_option autoImplicit false
set_option maxRecDepth 100000
set_option linter.unusedVariables false
set_option linter.unusedSimpArgs false
namespace Go.Proofs.Ytlaojbclmcageaa
open Go Go.AM Go.Proofs
theorem app1_snoc {out : List Ext} {x : Ext} {b : Int} : app1 (out ++ [x]) b = if x.1 + x.2 = b then out ++ [(x.1, x.2 + 1)] else out ++ [x] ++ [(b, 1)] := by
  have h1 : (out ++ [x])[(out ++ [x]).length - 1]? = some x := by simp
  unfold app1
  rw [h1]
  simp only
  split
  · simp
  · rfl
theorem app1_nil {b : Int} : app1 [] b = [(b, 1)] := rfl
def lead : List Bool → Nat
  | false :: r => lead r + 1
  | _ => 0
def runsAux : Bool → List Bool → Int → List Ext
  | _, [], _ => []
  | _, true :: r, i => runsAux true r (i + 1)
  | prev, false :: r, i => if prev then (i, ((lead (false :: r) : Nat) : Int)) :: runsAux false r (i + 1) else runsAux false r (i + 1)
def runs (m : List Bool) : List Ext := runsAux true m 0
/-- The last one ends ahead of i. -/
def Ahead (out : List Ext) (i : Int) : Prop := out = [] ∨ ∃ o x, out = o ++ [x] ∧ x.1 + x.2 < i
theorem short_cons {out : List Ext} {b : Int} {r : List Int} : short out (b :: r) = short (app1 out b) r := rfl
mutual
theorem closed : ∀ (m : List Bool) (i : Int) (out : List Ext), Ahead out i → short out (frFrom m i) = out ++ runsAux true m i
  | [], i, out, _ => by simp [frFrom, runsAux, short]
  | true :: r, i, out, h => by
    have ih := closed r (i + 1) out (h.imp id fun ⟨o, x, e, hx⟩ => ⟨o, x, e, by omega⟩)
    simp only [frFrom, runsAux, if_true]
    exact ih
  | false :: r, i, out, h => by
    simp only [frFrom, runsAux, Bool.false_eq_true, if_false, if_true]
    have e1 : app1 out i = out ++ [(i, 1)] := by
      rcases h with rfl | ⟨o, x, rfl, hx⟩
      · rfl
      · rw [app1_snoc, if_neg (by omega)]
    rw [short_cons, e1, opened r (i + 1) out i 1 rfl]
    simp only [lead]
    have e2 : (1 : Int) + (lead r : Int) = ((lead r + 1 : Nat) : Int) := by omega
    rw [e2]
    simp
theorem opened : ∀ (m : List Bool) (i : Int) (out : List Ext) (a c : Int), a + c = i → short (out ++ [(a, c)]) (frFrom m i) = out ++ [(a, c + (lead m : Int))] ++ runsAux false m i
  | [], i, out, a, c, _ => by simp [frFrom, runsAux, short, lead]
  | true :: r, i, out, a, c, h => by
    have ih := closed r (i + 1) (out ++ [(a, c)]) (.inr ⟨out, (a, c), rfl, by simp only; omega⟩)
    simp only [frFrom, runsAux, if_true, lead]
    rw [ih]
    simp
  | false :: r, i, out, a, c, h => by
    simp only [frFrom, runsAux, Bool.false_eq_true, if_false]
    rw [short_cons, app1_snoc, if_pos h, opened r (i + 1) out a (c + 1) (by omega)]
    simp only [lead]
    have e2 : c + 1 + (lead r : Int) = c + ((lead r + 1 : Nat) : Int) := by omega
    rw [e2]
end
theorem runs_eq (m : List Bool) : short [] (fr m) = runs m := by
  have := closed m 0 [] (.inl rfl)
  simpa [fr, runs] using this
/-- What is allotted. -/
def pick (m : List Bool) (n : Int) : List Int := if n = 0 then [] else match (runs m).find? fun x => decide (n ≤ x.2) with
  | some x => part x n.toNat
  | none => (fr m).take n.toNat
theorem blk_snoc {out : List Ext} {x : Ext} : blk (out ++ [x]) = blk out ++ blk1 x := by simp [blk, List.flatMap_append]
theorem blk_app1 {out : List Ext} {b : Int} (h : ∀ x ∈ out, 0 ≤ x.2) : blk (app1 out b) = blk out ++ [b] := by
  rcases List.eq_nil_or_concat out with rfl | ⟨o, x, rfl⟩
  · simp [app1, blk, blk1, part, List.range_succ]
  · rw [List.concat_eq_append] at h ⊢
    rw [app1_snoc]
    have hx := h x (by simp)
    split
    · rename_i he
      rw [blk_snoc, blk_snoc]
      have e1 : (x.2 + 1).toNat = x.2.toNat + 1 := by omega
      have e2 : blk1 (x.1, x.2 + 1) = part x (x.2.toNat + 1) := by simp only [blk1, e1]; rfl
      have e3 : x.1 + ((x.2.toNat : Nat) : Int) = b := by omega
      rw [e2, part_succ, blk1, e3, List.append_assoc]
    · rw [blk_snoc]
      have e1 : blk1 (b, 1) = [b] := by simp [blk1, part, List.range_succ]
      rw [e1]
theorem app1_pos {out : List Ext} {b : Int} (h : ∀ x ∈ out, 0 ≤ x.2) : ∀ x ∈ app1 out b, 0 ≤ x.2 := by
  intro y hy
  rcases List.eq_nil_or_concat out with rfl | ⟨o, x, rfl⟩
  · rw [app1_nil, List.mem_singleton] at hy; subst hy; simp
  · rw [List.concat_eq_append] at h hy
    rw [app1_snoc] at hy
    have hx := h x (by simp)
    split at hy
    · rcases List.mem_append.1 hy with hy | hy
      · exact h y (List.mem_append_left _ hy)
      · rw [List.mem_singleton] at hy; subst hy; simp only; omega
    · rcases List.mem_append.1 hy with hy | hy
      · exact h y hy
      · rw [List.mem_singleton] at hy; subst hy; simp
theorem blk_short {out : List Ext} {l : List Int} (h : ∀ x ∈ out, 0 ≤ x.2) : blk (short out l) = blk out ++ l := by
  induction l generalizing out with
  | nil => simp [short]
  | cons b r ih =>
    rw [short_cons, ih (app1_pos h), blk_app1 h, List.append_assoc]
    rfl
theorem blk_runs (m : List Bool) : blk (runs m) = fr m := by
  rw [← runs_eq, blk_short (by simp)]
  simp [blk]
theorem runsAux_bd : ∀ {m : List Bool} {p : Bool} {i : Int} {x : Ext}, x ∈ runsAux p m i → i ≤ x.1 ∧ 1 ≤ x.2 ∧ x.1 + x.2 ≤ i + m.length
  | [], p, i, x, h => by simp [runsAux] at h
  | true :: r, p, i, x, h => by
    have : x ∈ runsAux true r (i + 1) := by simpa [runsAux] using h
    have := runsAux_bd this
    simp only [List.length_cons]; omega
  | false :: r, p, i, x, h => by
    have hl : ∀ r : List Bool, lead r ≤ r.length := by
      intro r
      induction r with
      | nil => simp [lead]
      | cons b r ih => cases b <;> simp only [lead, List.length_cons] <;> omega
    simp only [runsAux] at h
    have step : x ∈ runsAux false r (i + 1) → i ≤ x.1 ∧ 1 ≤ x.2 ∧ x.1 + x.2 ≤ i + ((false :: r).length : Int) := fun h => by
      have := runsAux_bd h
      simp only [List.length_cons]; omega
    split at h
    · rcases List.mem_cons.1 h with rfl | h
      · have := hl (false :: r)
        have h2 : 1 ≤ lead (false :: r) := by simp [lead]
        simp only; omega
      · exact step h
    · exact step h
theorem runs_bd {m : List Bool} {x : Ext} (h : x ∈ runs m) : 0 ≤ x.1 ∧ 1 ≤ x.2 ∧ x.1 + x.2 ≤ m.length := by
  have := runsAux_bd h
  omega
theorem take_app (A B : List Int) (n : Nat) : (A ++ B).take n = A.take n ++ B.take (n - A.length) := List.take_append
theorem part_take {x : Ext} {k n : Nat} : (part x k).take n = part x (min n k) := by
  simp only [part, ← List.map_take, List.take_range]
end Go.Proofs.Ytlaojbclmcageaa

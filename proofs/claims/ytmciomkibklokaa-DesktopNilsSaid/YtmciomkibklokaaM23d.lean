/- The law: the program that was put last is found first. -/
import Derived.Test.YtmciomkibklokaaM23c
set_option autoImplicit false
set_option maxRecDepth 100000
set_option linter.unusedVariables false
set_option linter.unusedSimpArgs false
set_option linter.unnecessarySimpa false
namespace Go.Proofs.Ytmciomkibklokaa
open Go Go.AM Go.Proofs Go.RowKit
/-! ### plain -/
def files (zs : List Prg) : List Int := zs.map (·.2.2)
structure Nice (c : ByteArray) (zs : List Prg) : Prop where
  all : ∀ x ∈ zs, x.1 = c
  nd : (files zs).Nodup
theorem findIdx_files {c : ByteArray} {f : Int} : ∀ {zs : List Prg}, (∀ x ∈ zs, x.1 = c) → zs.findIdx? (isP c f) = (files zs).findIdx? (fun y => y == f)
  | [], _ => rfl
  | x :: r, h => by
    have h1 := h x (by simp)
    have ih := findIdx_files (f := f) fun y hy => h y (List.mem_cons_of_mem _ hy)
    simp only [files, List.map_cons, List.findIdx?_cons, isP, h1, true_and] at ih ⊢
    rw [ih]
    by_cases hf : x.2.2 = f <;> simp [hf]
theorem erase_filter : ∀ {l : List Int} {f : Int} {i : Nat}, l.Nodup → l.findIdx? (fun y => y == f) = some i → l.eraseIdx i = l.filter (fun y => y != f)
  | [], f, i, _, h => by simp at h
  | x :: r, f, i, hn, h => by
    rw [List.nodup_cons] at hn
    rw [List.findIdx?_cons] at h
    by_cases hx : x = f
    · subst hx
      simp only [beq_self_eq_true, if_true, Option.some.injEq] at h
      subst h
      simp only [List.eraseIdx_zero, List.tail_cons, bne_self_eq_false, Bool.false_eq_true, not_false_eq_true, List.filter_cons_of_neg]
      rw [List.filter_eq_self.2]
      intro y hy
      simp only [bne_iff_ne]
      rintro rfl
      exact hn.1 hy
    · have hb : (x == f) = false := by simpa using hx
      rw [hb] at h
      simp only [Bool.false_eq_true, if_false, Option.map_eq_some_iff] at h
      obtain ⟨j, hj, rfl⟩ := h
      rw [List.eraseIdx_cons_succ, erase_filter hn.2 hj, List.filter_cons_of_pos (by simpa using hx)]
theorem filter_none : ∀ {l : List Int} {f : Int}, l.findIdx? (fun y => y == f) = none → l.filter (fun y => y != f) = l := by
  intro l f h
  rw [List.findIdx?_eq_none_iff] at h
  rw [List.filter_eq_self]
  intro y hy
  have := h y hy
  simpa using this
theorem files_put {c : ByteArray} {n f : Int} {zs : List Prg} (h : Nice c zs) : files (putP c n f zs) = (files zs).filter (fun y => y != f) ++ [f] := by
  unfold putP
  rw [findIdx_files h.all]
  cases hx : (files zs).findIdx? (fun y => y == f) with
  | none => rw [filter_none hx]; simp [files]
  | some i =>
    rw [← erase_filter h.nd hx]
    simp only [files, List.map_append, map_erase, List.map_cons, List.map_nil]
theorem Nice.put {c : ByteArray} {n f : Int} {zs : List Prg} (h : Nice c zs) : Nice c (putP c n f zs) := by
  refine ⟨fun x hx => ?_, ?_⟩
  · unfold putP at hx
    split at hx
    · rcases List.mem_append.1 hx with hx | hx
      · exact h.all x (List.mem_of_mem_eraseIdx hx)
      · rw [List.mem_singleton.1 hx]
    · rcases List.mem_append.1 hx with hx | hx
      · exact h.all x hx
      · rw [List.mem_singleton.1 hx]
  · rw [files_put h]
    rw [List.nodup_append]
    refine ⟨h.nd.filter _, by simp, ?_⟩
    intro a ha b hb
    rw [List.mem_singleton.1 hb]
    simp only [List.mem_filter, bne_iff_ne] at ha
    exact ha.2
theorem put_len {c : ByteArray} {n f : Int} {zs : List Prg} : (putP c n f zs).length ≤ zs.length + 1 := by
  unfold putP
  split
  · have := List.length_eraseIdx_le zs ‹Nat›
    simp; omega
  · simp
theorem wrap64_small {x : Int} (h1 : 0 ≤ x) (h2 : x < 2 ^ 40) : wrap64 x = x := by unfold wrap64; omega
theorem look_all {c : ByteArray} : ∀ {l : List Prg} {s : Nat}, (∀ x ∈ l, x.1 = c) → s < 2 ^ 40 → look c l ((s : Int) + 1) = l[s]?
  | [], s, _, _ => by simp [look]
  | x :: r, s, h, hs => by
    have h1 := h x (by simp)
    simp only [look, h1, if_true]
    rw [show (s : Int) + 1 - 1 = s by omega, wrap64_small (by omega) (by omega)]
    cases s with
    | zero => simp
    | succ s =>
      rw [if_neg (by omega)]
      have := look_all (c := c) (l := r) (s := s) (fun y hy => h y (List.mem_cons_of_mem _ hy)) (by omega)
      rw [show ((s + 1 : Nat) : Int) = (s : Int) + 1 by omega, this]
      simp
end Go.Proofs.Ytmciomkibklokaa

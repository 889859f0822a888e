/- What a call is not shown, it leaves alone: the frame rule. -/
import Derived.Test.YtmciomkibklokaaA28
set_option autoImplicit false
set_option linter.unusedVariables false
set_option linter.unusedSimpArgs false
namespace Go.AM
variable {P : Program} {L L' : Lo} {w w' : World} {base : Nat} {H : AHeap}
/-- A call that is told over a part of the heap: the other part stays as it was. -/
theorem frame_c {D : Nat → Prop} {f : FuncId} {as : List AV} {K K' : AV → AHeap → Prop} (h : CallsA P f as (H.only D) K')
    (hk : ∀ v H1 H', K' v H1 → AHeap.le H1 H' → (∀ i, (H i).isSome → ¬ D i → H' i = H i) → (∀ i, (H1 i).isSome → D i ∨ H i = none) → K v H') : CallsA P f as H K :=
  ⟨h.1, fun base L w args R hv => (h.2 base L w args (R.weaken only_le) hv).mono fun x w' hx => by
    cases x with
    | returned v =>
      obtain ⟨av, L', H1, h1, h2, h3⟩ := hx
      obtain ⟨g1, g2⟩ := Nx.framed R h2
      refine ⟨av, L', _, h1, g1, hk av H1 _ h3 (fun i o hi => both_l hi) (fun i hi hd => ?_) fun i hi => ?_⟩
      · rw [both_r (g2 i hi hd)]; exact only_in hd
      · by_cases hd : D i
        · exact .inl hd
        · right
          cases hH : H i with
          | none => rfl
          | some o => rw [g2 i (by rw [hH]; rfl) hd] at hi; cases hi
    | _ => exact hx.elim⟩
/-! ### an object that is made beside a call -/
theorem le_delV {G : AHeap} {u a b c : Nat} (hle : AHeap.le H G) (hu : H u = none) : AHeap.le H (delV (.ptr u a b c) G) := fun i o hi => by
  have hne : i ≠ u := fun he => by subst he; rw [hu] at hi; cases hi
  simp only [delV, hne, if_false]; exact hle i o hi
theorem delV_le {G : AHeap} {u a b c : Nat} : AHeap.le (delV (.ptr u a b c) G) G := fun i o hi => by
  simp only [delV] at hi
  split at hi
  · cases hi
  · exact hi
theorem putV_self {G H' : AHeap} {u a b c : Nat} : putV (.ptr u a b c) G H' u = G u := by simp [putV]
theorem putV_ne {G H' : AHeap} {u a b c i : Nat} (h : i ≠ u) : putV (.ptr u a b c) G H' i = H' i := by simp [putV, h]
theorem delV_ne {G : AHeap} {u a b c i : Nat} (h : i ≠ u) : delV (.ptr u a b c) G i = G i := by simp [delV, h]
theorem delV_self {G : AHeap} {u a b c : Nat} : delV (.ptr u a b c) G u = none := by simp [delV]
theorem le_putV {G H' : AHeap} {u a b c : Nat} (hn : noV (.ptr u a b c) G H') (hs : (G u).isSome) : AHeap.le H' (putV (.ptr u a b c) G H') := fun i o hi => by
  have hne : i ≠ u := fun he => by subst he; rw [hn hs] at hi; cases hi
  rw [putV_ne hne]; exact hi
end Go.AM

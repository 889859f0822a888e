/- A new bus, of any list of lost frames. -/
import Derived.Test.YtadpakkenokilaaM2v
import Derived.Test.YtadpakkenokilaaM2k
set_option autoImplicit false
set_option maxRecDepth 100000
set_option linter.unusedVariables false
set_option linter.unnecessarySimpa false
namespace Go.Proofs.Ytadpakkenokilaa
open Go Go.Proofs Go.RowKit Go.Maps Go.Sort Go.Shelf
attribute [local go_sem] Oper.semAt_some
set_option maxHeartbeats 1000000 in
theorem values1_0 (F : Fence) (n : Nat) (h7 : F.fn 61) (hro : F.round = none) (l Bs : Nat) (A : Option Addr) (cap : Nat) (J : List Int → World → Prop) (W : World) (hBs : W.cell? ⟨Bs, 0, none⟩ = some (.slice A 0 cap)) (h0 : J [] W) :
    CallsIn F n Try.prog 61 #[.func (.yield l) #[] #[], .pointer (some ⟨Bs, 0, none⟩)] W fun e W' => (∃ v, e = .returned v) ∧ J [] W' := by
  refine callsIn_of_wp Try.func61 rfl h7 ?_ hro
  simp only [Try.ntmps61, List.size_toArray, List.length_cons, List.length_nil, Nat.reduceAdd, Nat.reduceSub, Array.replicate_succ, Array.replicate_zero, List.push_toArray, List.append_toArray, List.nil_append, List.cons_append]
  gi_wp2
  gi_loopw [7] (fun i wr => i = .int .i64 0 ∧ J [] wr) (fun _ _ => 0)
  case atStart => exact ⟨rfl, h0⟩
  case round =>
    obtain ⟨rfl, hJs⟩ := hrel
    gi_wp2
    go_end0
    exact ⟨⟨_, rfl⟩, hJs⟩
theorem sorted_of (Bs : Nat) (zs : List Int) (hz : zs.length < 2 ^ 40) (w : World) (hseq : SeqB Fence.wide 2 61 #[.pointer (some ⟨Bs, 0, none⟩)] (fun ss => ss = zs) zs.length w) :
    Calls Try.prog 29 #[.func (.func 61) #[] #[.pointer (some ⟨Bs, 0, none⟩)]] w fun e w' => ∃ (v : Value) (ss : List Int), e = .returned v ∧ ss = zs ∧ w'.ownsRow w.heap.size 3 1 v ss.length ((ss.mergeSort (fun x y => decide (x ≤ y))).map encZ) ∧ (v = .slice none 0 0 ↔ ss = []) ∧ Below w.heap.size w w' :=
  callsIn_wide.1 (sortedB Fence.wide 5 trivial trivial trivial trivial rfl (by omega) (sorts29 _) 61 #[.pointer (some ⟨Bs, 0, none⟩)] trivial (enters_of Try.func61 (by kernel_rfl) rfl) _ zs.length (fun ss h => by rw [h]; exact Nat.le_refl _) (by simp only [maxLen]; omega) (by omega) _ hseq)
theorem sorted_vals (Bs b off cap : Nat) (zs : List Int) (hz : zs.length < 2 ^ 40) (w : World) (hB : Bs < w.heap.size) (hb : b < w.heap.size) (hc : w.cell? ⟨Bs, 0, none⟩ = some (.slice (some ⟨b, off, none⟩) zs.length cap)) (hcs : ∀ j, j < zs.length → w.cell? ⟨b, off + j, none⟩ = some (.int .i64 (zs[j]?.getD 0))) :
    Calls Try.prog 29 #[.func (.func 61) #[] #[.pointer (some ⟨Bs, 0, none⟩)]] w fun e w' => ∃ (v : Value) (ss : List Int), e = .returned v ∧ ss = zs ∧ w'.ownsRow w.heap.size 3 1 v ss.length ((ss.mergeSort (fun x y => decide (x ≤ y))).map encZ) ∧ (v = .slice none 0 0 ↔ ss = []) ∧ Below w.heap.size w w' :=
  sorted_of Bs zs hz w fun l J W hW hJ hJB hY h0 =>
    (values1B Fence.wide 2 trivial rfl (by omega) l Bs w.heap.size b off zs.length cap zs (by omega) hb J w hY hJB W ((hW.cell (p := ⟨Bs, 0, none⟩) hB).trans hc) hcs h0).mono fun e W' ⟨h1, h2⟩ => ⟨h1, zs, rfl, by rwa [upto_all] at h2⟩
theorem sorted_0 (Bs cap : Nat) (A : Option Addr) (w : World) (hB : Bs < w.heap.size) (hc : w.cell? ⟨Bs, 0, none⟩ = some (.slice A 0 cap)) :
    Calls Try.prog 29 #[.func (.func 61) #[] #[.pointer (some ⟨Bs, 0, none⟩)]] w fun e w' => ∃ (v : Value) (ss : List Int), e = .returned v ∧ ss = [] ∧ w'.ownsRow w.heap.size 3 1 v ss.length ((ss.mergeSort (fun x y => decide (x ≤ y))).map encZ) ∧ (v = .slice none 0 0 ↔ ss = []) ∧ Below w.heap.size w w' :=
  sorted_of Bs [] (by simp) w fun l J W hW hJ hJB hY h0 =>
    (values1_0 Fence.wide 2 trivial rfl l Bs A cap J W ((hW.cell (p := ⟨Bs, 0, none⟩) hB).trans hc) h0).mono fun e W' ⟨h1, h2⟩ => ⟨h1, [], rfl, h2⟩
abbrev srtI (l : List Int) : List Int := l.mergeSort fun x y => decide (x ≤ y)
open Go.AM in
theorem cells_of {L : Lo} {w : World} (hi : ∀ b o v, L.imm b o = some v → w.cell? ⟨b, o, none⟩ = some v) {b : Nat} : ∀ {zs : List Int} {o sz : Nat}, DRE L b o sz (ints zs) → ∀ j, j < zs.length → w.cell? ⟨b, o + j, none⟩ = some (.int .i64 (zs[j]?.getD 0))
  | [], _, _, _, j, hj => by simp at hj
  | z :: zs, o, sz, h, j, hj => by
    simp only [ints, List.map_cons, DRE, DRC, DR, and_true] at h
    obtain ⟨h1, ⟨v, h2, h3⟩, h4⟩ := h
    simp only [List.length_cons, List.length_nil, Nat.zero_add] at h1
    subst h1
    cases j with
    | zero =>
      rw [Nat.add_zero]
      subst h3
      exact hi _ _ _ h2
    | succ j =>
      have := cells_of hi (zs := zs) h4 j (by simp at hj; omega)
      rw [show o + (j + 1) = o + 1 + j by omega]
      simpa using this
open Go.AM in
theorem sortedVals_c {H : AHeap} {k fro : Nat} {nl : Bool} {zs : List Int} (hnl : nl = true → zs = []) (hz : zs.length < 2 ^ 40) (hk : H k = some (.mem 0 fro 1 [[.d (.sl nl (ints zs))]])) {K : AV → AHeap → Prop} (h : K (.d (.sl zs.isEmpty (ints (srtI zs)))) H) : CallsA Try.prog 29 [.func 61 [] [.ptr k 0 0 0]] H K := by
  refine ⟨⟨_, Try.func29, ne_of_beq_false (by kernel_rfl), rfl⟩, fun base L w args R hv => ?_⟩
  obtain ⟨u, rfl, hu1⟩ := func_args hv
  obtain ⟨B, mv, rfl, hB, hcell, hmv⟩ := box_cell R hk hu1
  have back : ∀ {w' : World} {v : Value}, w'.ownsRow w.heap.size 3 1 v zs.length ((srtI zs).map encZ) → (v = .slice none 0 0 ↔ zs = []) → Below w.heap.size w w' → ∃ av L' H', VR L' av v ∧ Nx base (fun i => L.cnt ≤ i) L H w L' H' w' ∧ K av H' := fun {w' v} hrow hnil hb => by
    have hlen : (srtI zs).length = zs.length := List.length_mergeSort _
    have he : (srtI zs).isEmpty = zs.isEmpty := by
      cases hx : srtI zs with
      | nil => rw [hx] at hlen; cases zs with
        | nil => rfl
        | cons a r => simp at hlen
      | cons a r => rw [hx] at hlen; cases zs with
        | nil => simp at hlen
        | cons a r => rfl
    refine ints_back (l := srtI zs) R hb (by rw [hlen]; exact hrow) (hnil.trans ?_) ?_
    · rw [← List.length_eq_zero_iff, ← List.length_eq_zero_iff, hlen]
    · rw [he]; exact h
  simp only [VR, DR] at hmv
  obtain ⟨A, cap, rfl, _, h2, h3⟩ := hmv
  rw [show (ints zs).length = zs.length by simp [ints]] at hcell
  by_cases hz0 : zs = []
  · subst hz0
    refine (sorted_0 B cap A w hB hcell).mono ?_
    rintro e w' ⟨v, ss, rfl, rfl, hrow, hnil, hb⟩
    exact back hrow hnil hb
  · have hnf : nl = false := by
      cases nl with
      | false => rfl
      | true => exact absurd (hnl rfl) hz0
    subst hnf
    obtain ⟨a, rfl, h5⟩ := h3 (by simp)
    rcases h5 with h5 | ⟨h6, sz, h7⟩
    · simp [ints] at h5; exact absurd h5 hz0
    · obtain ⟨b, off, spot⟩ := a
      simp only at h6
      subst h6
      have hcs := cells_of R.imm h7
      have hb : b < w.heap.size := by
        cases zs with
        | nil => exact absurd rfl hz0
        | cons z r =>
          have := hcs 0 (by simp)
          apply Classical.byContradiction
          intro hge
          simp only [World.cell?] at this
          rw [Array.getElem?_eq_none (by omega)] at this
          cases this
      refine (sorted_vals B b off cap zs hz w hB hb hcell hcs).mono ?_
      rintro e w' ⟨v, ss, rfl, rfl, hrow, hnil, hb2⟩
      exact back hrow hnil hb2
end Go.Proofs.Ytadpakkenokilaa

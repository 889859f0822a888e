/- The law of valid packets, at each input. -/
import Derived.Test.YtofjhihigmimbaaM10d
set_option autoImplicit false
set_option maxRecDepth 100000
set_option linter.unusedVariables false
namespace Go.Proofs.Ytofjhihigmimbaa
open Go Go.AM Go.Proofs
theorem tr_open {xs : List Dat} (h : DatOk Try.prog 9 24 xs) : ∃ t : Tr, argAV (aggT Try.prog 24) xs = t.av ∧ t.data.length ≤ 2 ^ 47 ∧ (t.nl = true → t.data = []) := by
  rw [datOk_struct Try.underlying24] at h
  simp only [datFs_cons, datFs_nil] at h
  obtain ⟨x0, y0, rfl, h0, x1, y1, rfl, h1, x2, y2, rfl, h2, x3, y3, rfl, h3, x4, y4, rfl, h4, x5, y5, rfl, h5, x6, y6, rfl, h6, x7, y7, rfl, h7, rfl⟩ := h
  simp only [datOk_int Try.underlying3, datOk_slice Try.underlying22, datOk_bool Try.underlying4] at h0 h1 h2 h3 h4 h5 h6 h7
  obtain ⟨a0, rfl, w0⟩ := h0
  obtain ⟨a1, rfl, w1⟩ := h1
  obtain ⟨a2, rfl, w2⟩ := h2
  obtain ⟨a3, rfl, w3⟩ := h3
  obtain ⟨b0, rfl⟩ := h4
  obtain ⟨b1, rfl⟩ := h5
  obtain ⟨b2, rfl⟩ := h6
  obtain ⟨nl, l, rfl, hnl, hl, hlen⟩ := h7
  obtain ⟨bl, rfl⟩ := DatOk_bytes Try.underlying5 hl
  refine ⟨⟨a0, a1, a2, a3, b0, b1, b2, nl, bl⟩, ?_, ?_, fun h => ?_⟩
  · rw [show aggT Try.prog 24 = true by kernel_rfl]
    rfl
  · rw [show Try.prog.bytesOf 5 = 1 by kernel_rfl, bs_length] at hlen
    unfold reachBytes at hlen
    show bl.length ≤ _
    omega
  · have := hnl h
    cases bl with
    | nil => rfl
    | cons b r => cases this
theorem valid_row (xs : List Dat) (h : DatOk Try.prog 9 24 xs) : CallsA Try.prog 3 [argAV (aggT Try.prog 24) xs] noHeap fun v _ => v = .d (.bool true) := by
  obtain ⟨t, ht, _⟩ := tr_open h
  rw [ht]
  exact valid_law
end Go.Proofs.Ytofjhihigmimbaa

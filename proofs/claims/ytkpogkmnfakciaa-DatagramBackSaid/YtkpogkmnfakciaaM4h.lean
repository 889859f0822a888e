/- The laws over the arguments as data. -/
import Derived.Test.YtkpogkmnfakciaaM4g
set_option autoImplicit false
set_option linter.unusedVariables false
set_option linter.unusedSimpArgs false
namespace Go.Proofs.Ytkpogkmnfakciaa
open Go Go.AM Go.Proofs
theorem bytes_open {xs : List Dat} (h : DatOk Try.prog 9 24 xs) : ∃ nl bl, argAV (aggT Try.prog 24) xs = .d (.sl nl (bs bl)) ∧ (nl = true → bl = []) ∧ bl.length ≤ 2 ^ 47 := by
  rw [datOk_slice Try.underlying24] at h
  obtain ⟨nl, l, rfl, hnl, hl, hlen⟩ := h
  obtain ⟨bl, rfl⟩ := DatOk_bytes Try.underlying5 hl
  refine ⟨nl, bl, ?_, fun h => ?_, ?_⟩
  · rw [show aggT Try.prog 24 = false by kernel_rfl]
    rfl
  · have := hnl h
    cases bl with
    | nil => rfl
    | cons b r => cases this
  · rw [show Try.prog.bytesOf 5 = 1 by kernel_rfl, bs_length] at hlen
    unfold reachBytes at hlen
    omega
theorem int_open {xs : List Dat} (h : DatOk Try.prog 9 3 xs) : ∃ n, argAV (aggT Try.prog 3) xs = .d (.int .i64 n) ∧ -9223372036854775808 ≤ n ∧ n ≤ 9223372036854775807 := by
  rw [datOk_int Try.underlying3] at h
  obtain ⟨n, rfl, hw⟩ := h
  refine ⟨n, ?_, bounds_i64 hw⟩
  rw [show aggT Try.prog 3 = false by kernel_rfl]
  rfl
theorem backs_row (xs : List Dat) (h : DatOk Try.prog 9 26 xs) (ys : List Dat) (h2 : DatOk Try.prog 9 24 ys) : CallsA Try.prog 4 [argAV (aggT Try.prog 26) xs, argAV (aggT Try.prog 24) ys] noHeap fun v _ => v = .d (.bool true) := by
  obtain ⟨p, hp, _⟩ := pk_open h
  obtain ⟨nl, bl, hb, hnl, _⟩ := bytes_open h2
  rw [hp, hb]
  exact backs_law hnl
theorem alike_row (xs : List Dat) (h : DatOk Try.prog 9 26 xs) (ys : List Dat) (h2 : DatOk Try.prog 9 26 ys) : CallsA Try.prog 5 [argAV (aggT Try.prog 26) xs, argAV (aggT Try.prog 26) ys] noHeap fun v _ => v = .d (.bool true) := by
  obtain ⟨p, hp, _⟩ := pk_open h
  obtain ⟨q, hq, _⟩ := pk_open h2
  rw [hp, hq]
  exact alike_law
theorem hops_row (xs : List Dat) (h : DatOk Try.prog 9 26 xs) : CallsA Try.prog 6 [argAV (aggT Try.prog 26) xs] noHeap fun v _ => v = .d (.bool true) := by
  obtain ⟨p, hp, _, _, hnl⟩ := pk_open h
  rw [hp]
  exact hops_law hnl
theorem longs_row (xs : List Dat) (h : DatOk Try.prog 9 26 xs) : CallsA Try.prog 7 [argAV (aggT Try.prog 26) xs] noHeap fun v _ => v = .d (.bool true) := by
  obtain ⟨p, hp, _⟩ := pk_open h
  rw [hp]
  exact longs_law
theorem shortReads_row (xs : List Dat) (h : DatOk Try.prog 9 24 xs) (ys : List Dat) (h2 : DatOk Try.prog 9 3 ys) (zs : List Dat) (h3 : DatOk Try.prog 9 3 zs) : CallsA Try.prog 8 [argAV (aggT Try.prog 24) xs, argAV (aggT Try.prog 3) ys, argAV (aggT Try.prog 3) zs] noHeap fun v _ => v = .d (.bool true) := by
  obtain ⟨nl, bl, hb, hnl, _⟩ := bytes_open h
  obtain ⟨d, hd, _⟩ := int_open h2
  obtain ⟨s, hs, _⟩ := int_open h3
  rw [hb, hd, hs]
  exact shortReads_law hnl
theorem reads_row (xs : List Dat) (h : DatOk Try.prog 9 24 xs) : CallsA Try.prog 9 [argAV (aggT Try.prog 24) xs] noHeap fun v _ => v = .d (.bool true) := by
  obtain ⟨nl, bl, hb, hnl, _⟩ := bytes_open h
  rw [hb]
  exact reads_law hnl
end Go.Proofs.Ytkpogkmnfakciaa

/- More laws over the arguments as data. -/
import Derived.Test.YtkpogkmnfakciaaM4n
import Derived.Test.YtkpogkmnfakciaaM4h
set_option autoImplicit false
set_option linter.unusedVariables false
set_option linter.unusedSimpArgs false
namespace Go.Proofs.Ytkpogkmnfakciaa
open Go Go.AM Go.Proofs
theorem u8_open {xs : List Dat} (h : DatOk Try.prog 9 5 xs) : ∃ n, argAV (aggT Try.prog 5) xs = .d (.int .u8 n) ∧ 0 ≤ n ∧ n ≤ 255 := by
  rw [datOk_int Try.underlying5] at h
  obtain ⟨n, rfl, hw⟩ := h
  refine ⟨n, ?_, bounds_u8 hw⟩
  rw [show aggT Try.prog 5 = false by kernel_rfl]
  rfl
theorem bytes_row (xs : List Dat) (h : DatOk Try.prog 9 24 xs) (ys : List Dat) (h2 : DatOk Try.prog 9 5 ys) (zs : List Dat) (h3 : DatOk Try.prog 9 5 zs) : CallsA Try.prog 11 [argAV (aggT Try.prog 24) xs, argAV (aggT Try.prog 5) ys, argAV (aggT Try.prog 5) zs] noHeap fun v _ => v = .d (.bool true) := by
  obtain ⟨nl, bl, hb, hnl, _⟩ := bytes_open h
  obtain ⟨d, hd, hd2⟩ := u8_open h2
  obtain ⟨s, hs, hs2⟩ := u8_open h3
  rw [hb, hd, hs]
  exact bytes_law hnl hd2 hs2
theorem back_row (xs : List Dat) (h : DatOk Try.prog 9 26 xs) : CallsA Try.prog 12 [argAV (aggT Try.prog 26) xs] noHeap fun v _ => v = .d (.bool true) := by
  obtain ⟨p, hp, _, _, hnl⟩ := pk_open h
  rw [hp]
  exact back_law hnl
theorem sums_row (xs : List Dat) (h : DatOk Try.prog 9 26 xs) (ys : List Dat) (h2 : DatOk Try.prog 9 41 ys) (zs : List Dat) (h3 : DatOk Try.prog 9 5 zs) : CallsA Try.prog 10 [argAV (aggT Try.prog 26) xs, argAV (aggT Try.prog 41) ys, argAV (aggT Try.prog 5) zs] noHeap fun v _ => v = .d (.bool true) := by
  obtain ⟨p, hp, _, _, hnl⟩ := pk_open h
  obtain ⟨s, hs, hs2⟩ := u8_open h3
  rw [datOk_int Try.underlying41] at h2
  obtain ⟨n, rfl, hw⟩ := h2
  rw [hp, hs, show aggT Try.prog 41 = false by kernel_rfl]
  exact sums_law hnl (bounds_u16 hw) hs2
end Go.Proofs.Ytkpogkmnfakciaa

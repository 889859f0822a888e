/- Arguments of the laws of extents. -/
import Derived.Test.YtlaojbclmcageaaM15i
set_option autoImplicit false
set_option maxRecDepth 100000
set_option linter.unusedVariables false
set_option linter.unusedSimpArgs false
namespace Go.Proofs.Ytlaojbclmcageaa
open Go Go.AM Go.Proofs
theorem nil_of {α : Type} {f : α → List Dat} {l : List α} (h : l.map f = []) : l = [] := by
  cases l with
  | nil => rfl
  | cons x r => cases h
theorem all_bools : ∀ {l : List (List Dat)}, (∀ c ∈ l, DatOk Try.prog 8 4 c) → ∃ m, l = bls m
  | [], _ => ⟨[], rfl⟩
  | c :: l, h => by
    obtain ⟨m, hm⟩ := all_bools (l := l) fun c hc => h c (by simp [hc])
    have h1 := h c (by simp)
    rw [datOk_bool Try.underlying4] at h1
    obtain ⟨b, rfl⟩ := h1
    exact ⟨b :: m, by rw [hm]; rfl⟩
theorem bools_open {xs : List Dat} (h : DatOk Try.prog 9 22 xs) : ∃ nl m, argAV (aggT Try.prog 22) xs = .d (.sl nl (bls m)) ∧ (nl = true → m = []) ∧ m.length < 2 ^ 48 := by
  rw [datOk_slice Try.underlying22] at h
  obtain ⟨nl, l, rfl, hnl, hl, hlen⟩ := h
  obtain ⟨m, rfl⟩ := all_bools hl
  refine ⟨nl, m, ?_, fun h => nil_of (hnl h), ?_⟩
  · rw [show aggT Try.prog 22 = false by kernel_rfl]
    rfl
  · rw [show Try.prog.bytesOf 4 = 1 by kernel_rfl, bls_len] at hlen
    unfold reachBytes at hlen
    omega
theorem all_exts : ∀ {l : List (List Dat)}, (∀ c ∈ l, DatOk Try.prog 8 66 c) → ∃ m, l = es m ∧ Wide m
  | [], _ => ⟨[], rfl, by simp [Wide]⟩
  | c :: l, h => by
    obtain ⟨m, hm, hw⟩ := all_exts (l := l) fun c hc => h c (by simp [hc])
    have h1 := h c (by simp)
    rw [datOk_struct Try.underlying66] at h1
    simp only [datFs_cons, datFs_nil, datOk_int Try.underlying3] at h1
    obtain ⟨_, _, rfl, ⟨a, rfl, wa⟩, _, _, rfl, ⟨b, rfl, wb⟩, rfl⟩ := h1
    have wa := bounds_i64 wa
    have wb := bounds_i64 wb
    refine ⟨(a, b) :: m, by rw [hm]; rfl, fun x hx => ?_⟩
    rcases List.mem_cons.1 hx with rfl | hx
    · exact ⟨wa, wb⟩
    · exact hw x hx
theorem exts_open {xs : List Dat} (h : DatOk Try.prog 9 23 xs) : ∃ nl l, argAV (aggT Try.prog 23) xs = .d (.sl nl (es l)) ∧ (nl = true → l = []) ∧ Wide l ∧ l.length < 2 ^ 48 := by
  rw [datOk_slice Try.underlying23] at h
  obtain ⟨nl, l, rfl, hnl, hl, hlen⟩ := h
  obtain ⟨m, rfl, hw⟩ := all_exts hl
  refine ⟨nl, m, ?_, fun h => nil_of (hnl h), hw, ?_⟩
  · rw [show aggT Try.prog 23 = false by kernel_rfl]
    rfl
  · rw [show Try.prog.bytesOf 66 = 16 by kernel_rfl, es_len] at hlen
    unfold reachBytes at hlen
    omega
theorem all_ints : ∀ {l : List (List Dat)}, (∀ c ∈ l, DatOk Try.prog 8 3 c) → ∃ m, l = ints m ∧ ∀ b ∈ m, -9223372036854775808 ≤ b ∧ b ≤ 9223372036854775807
  | [], _ => ⟨[], rfl, by simp⟩
  | c :: l, h => by
    obtain ⟨m, hm, hw⟩ := all_ints (l := l) fun c hc => h c (by simp [hc])
    have h1 := h c (by simp)
    rw [datOk_int Try.underlying3] at h1
    obtain ⟨a, rfl, wa⟩ := h1
    have wa := bounds_i64 wa
    refine ⟨a :: m, by rw [hm]; rfl, fun x hx => ?_⟩
    rcases List.mem_cons.1 hx with rfl | hx
    · exact wa
    · exact hw x hx
theorem ints_open {xs : List Dat} (h : DatOk Try.prog 9 33 xs) : ∃ nl l, argAV (aggT Try.prog 33) xs = .d (.sl nl (ints l)) ∧ (nl = true → l = []) ∧ (∀ b ∈ l, -9223372036854775808 ≤ b ∧ b ≤ 9223372036854775807) ∧ l.length < 2 ^ 48 := by
  rw [datOk_slice Try.underlying33] at h
  obtain ⟨nl, l, rfl, hnl, hl, hlen⟩ := h
  obtain ⟨m, rfl, hw⟩ := all_ints hl
  refine ⟨nl, m, ?_, fun h => nil_of (hnl h), hw, ?_⟩
  · rw [show aggT Try.prog 33 = false by kernel_rfl]
    rfl
  · rw [show Try.prog.bytesOf 3 = 8 by kernel_rfl, ints_len] at hlen
    unfold reachBytes at hlen
    omega
theorem int_open {xs : List Dat} (h : DatOk Try.prog 9 3 xs) : ∃ n, argAV (aggT Try.prog 3) xs = .d (.int .i64 n) ∧ -9223372036854775808 ≤ n ∧ n ≤ 9223372036854775807 := by
  rw [datOk_int Try.underlying3] at h
  obtain ⟨n, rfl, hw⟩ := h
  rw [show aggT Try.prog 3 = false by kernel_rfl]
  exact ⟨n, rfl, bounds_i64 hw⟩
theorem allots_row (xs : List Dat) (h : DatOk Try.prog 9 22 xs) (ys : List Dat) (h2 : DatOk Try.prog 9 3 ys) : CallsA Try.prog 3 [argAV (aggT Try.prog 22) xs, argAV (aggT Try.prog 3) ys] noHeap fun v _ => v = .d (.bool true) := by
  obtain ⟨nl, m, hm, hnl, _⟩ := bools_open h
  obtain ⟨n, hn, _⟩ := int_open h2
  rw [hm, hn]
  exact allots_law hnl
end Go.Proofs.Ytlaojbclmcageaa

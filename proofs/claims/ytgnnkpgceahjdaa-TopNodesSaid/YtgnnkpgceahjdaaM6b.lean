/- Where a fast link lies. -/
import Derived.Test.YtgnnkpgceahjdaaM6p
set_option autoImplicit false
set_option maxRecDepth 100000
set_option linter.unusedVariables false
set_option linter.unusedSimpArgs false
set_option linter.unnecessarySimpa false
namespace Go.Proofs.Ytgnnkpgceahjdaa
open Go Go.AM Go.Proofs
def Pt.cells (s : Pt) : List AV := [.d (.sl s.rn (ints s.row)), .d (.int .i64 s.state), .d (.int .i64 s.k), .d (.int .i64 s.sent), .d (.int .i64 s.net), .d (.int .i64 s.node), .d (.sl true []), .d (.sl true [])]
abbrev pObj (s : Pt) : AObj := .mem 0 0 8 [s.cells]
structure Pts (H : AHeap) (sv : AV) (ids : List Nat) (sts : List Pt) : Prop where
  len : ids.length = sts.length
  nd : ids.Nodup
  obj : ∀ j, j < sts.length → H (ids.getD j 0) = some (pObj (sts.getD j default))
  sl : (sts = [] ∧ sv = .d (.sl true [])) ∨ ∃ i ver L, sv = .rs i ver 1 0 sts.length ∧ H i = some (.mem ver 0 1 L) ∧ L.take sts.length = ids.map (fun p => [.ptr p 0 0 0]) ∧ sts.length ≤ L.length
  ok : ∀ s ∈ sts, s.Ok
  n40 : sts.length ≤ 40
theorem Pts.mem {H : AHeap} {sv : AV} {ids : List Nat} {sts : List Pt} (h : Pts H sv ids sts) {j : Nat} (hj : j < sts.length) : ids.getD j 0 ∈ ids := by
  have : j < ids.length := by rw [h.len]; exact hj
  rw [List.getD_eq_getElem?_getD, List.getElem?_eq_getElem this]
  exact List.getElem_mem this
theorem Pts.okj {H : AHeap} {sv : AV} {ids : List Nat} {sts : List Pt} (h : Pts H sv ids sts) {j : Nat} (hj : j < sts.length) : (sts.getD j default).Ok := by
  refine h.ok _ ?_
  rw [List.getD_eq_getElem?_getD, List.getElem?_eq_getElem hj]
  exact List.getElem_mem hj
theorem Pts.lenS {H : AHeap} {sv : AV} {ids : List Nat} {sts : List Pt} (h : Pts H sv ids sts) : lenSl sv = some (.d (.int .i64 sts.length)) := by
  rcases h.sl with ⟨rfl, rfl⟩ | ⟨i, ver, L, rfl, _⟩ <;> rfl
theorem Pts.aggs {H : AHeap} {sv : AV} {ids : List Nat} {sts : List Pt} (h : Pts H sv ids sts) : aggL sv = [] := by
  rcases h.sl with ⟨rfl, rfl⟩ | ⟨i, ver, L, rfl, _⟩ <;> rfl
theorem Pts.ix {H : AHeap} {sv : AV} {ids : List Nat} {sts : List Pt} (h : Pts H sv ids sts) {j : Nat} (hj : j < sts.length) : ∃ p, indexAddrA ti157 1 sv (.d (.int .i64 (j : Int))) = some p ∧ ldV false 1 p H = some (.ptr (ids.getD j 0) 0 0 0) := by
  rcases h.sl with ⟨rfl, rfl⟩ | ⟨i, ver, L, rfl, h1, h2, h3⟩
  · simp at hj
  · refine ⟨_, idx_rs (e := 163) rfl (by omega) (by omega), ?_⟩
    have hL : L[j]? = some [.ptr (ids.getD j 0) 0 0 0] := by
      have : (L.take sts.length)[j]? = L[j]? := List.getElem?_take_of_lt hj
      rw [← this, h2, List.getElem?_map, List.getD_eq_getElem?_getD, List.getElem?_eq_getElem (by rw [h.len]; exact hj)]
      rfl
    simp only [ldV_get, getM_of h1, ldM, Int.toNat_natCast, hL, partV, List.drop_zero, List.take_succ_cons, List.take_zero, List.length_cons, List.length_nil, if_true, Bool.false_eq_true, if_false]
theorem Pts.keep {H H' : AHeap} {sv : AV} {ids : List Nat} {sts : List Pt} (h : Pts H sv ids sts) (h1 : ∀ i, idOf sv = some i → H' i = H i) (h2 : ∀ i ∈ ids, H' i = H i) : Pts H' sv ids sts := by
  refine ⟨h.len, h.nd, fun j hj => by rw [h2 _ (h.mem hj)]; exact h.obj j hj, ?_, h.ok, h.n40⟩
  rcases h.sl with h3 | ⟨i, ver, L, rfl, h3, h4⟩
  · exact .inl h3
  · exact .inr ⟨i, ver, L, rfl, by rw [h1 i rfl]; exact h3, h4⟩
/-- What lies there: of a bus. -/
structure LinkAt (H : AHeap) (k : Nat) (sv : AV) (ids : List Nat) (sts : List Pt) (f : Int) : Prop where
  node : H k = some (.mem 0 0 5 [[.d (.int .i64 3), .d (.int .i64 4), .d (.sl true []), sv, .d (.int .i64 f)]])
  sts : Pts H sv ids sts
theorem Pts.isS {H : AHeap} {sv : AV} {ids : List Nat} {sts : List Pt} (h : Pts H sv ids sts) {i : Nat} (hi : idOf sv = some i ∨ i ∈ ids) : (H i).isSome := by
  rcases hi with hi | hi
  · rcases h.sl with ⟨rfl, rfl⟩ | ⟨j, ver, L, rfl, h3, h4⟩
    · cases hi
    · cases hi; rw [h3]; rfl
  · obtain ⟨j, hj, rfl⟩ := List.mem_iff_getElem.1 hi
    have := h.obj j (by rw [← h.len]; exact hj)
    rw [List.getD_eq_getElem?_getD, List.getElem?_eq_getElem hj] at this
    simp only [Option.getD_some] at this
    rw [this]; rfl
theorem Pts.le {H H' : AHeap} {sv : AV} {ids : List Nat} {sts : List Pt} (h : Pts H sv ids sts) (hle : AHeap.le H H') : Pts H' sv ids sts := by
  have e : ∀ i, (H i).isSome → H' i = H i := fun i hi => by
    cases hh : H i with
    | none => rw [hh] at hi; cases hi
    | some o => rw [hle i o hh]
  exact h.keep (fun i hi => e i (h.isS (.inl hi))) fun i hi => e i (h.isS (.inr hi))
theorem LinkAt.le {H H' : AHeap} {k : Nat} {sv : AV} {ids : List Nat} {sts : List Pt} {f : Int} (h : LinkAt H k sv ids sts f) (hle : AHeap.le H H') : LinkAt H' k sv ids sts f := ⟨hle _ _ h.node, h.sts.le hle⟩
/-- The objects of a bus. -/
theorem LinkAt.foot {H : AHeap} {k : Nat} {sv : AV} {ids : List Nat} {sts : List Pt} {f : Int} (h : LinkAt H k sv ids sts f) {j : Nat} (hj : foot k sv ids j) : (H j).isSome := by
  rcases hj with rfl | hj
  · rw [h.node]; rfl
  · exact h.sts.isS hj
theorem LinkAt.keep {H H' : AHeap} {k : Nat} {sv : AV} {ids : List Nat} {sts : List Pt} {f : Int} (h : LinkAt H k sv ids sts f) (hk : ∀ j, Ytgnnkpgceahjdaa.foot k sv ids j → H' j = H j) : LinkAt H' k sv ids sts f :=
  ⟨by rw [hk k (.inl rfl)]; exact h.node, h.sts.keep (fun i hi => hk i (.inr (.inl hi))) fun i hi => hk i (.inr (.inr hi))⟩
theorem LinkAt.kne {H : AHeap} {k : Nat} {sv : AV} {ids : List Nat} {sts : List Pt} {f : Int} (h : LinkAt H k sv ids sts f) : (∀ i, idOf sv = some i → i ≠ k) ∧ k ∉ ids := by
  refine ⟨fun i hi he => ?_, fun hm => ?_⟩
  · subst he
    rcases h.sts.sl with ⟨_, rfl⟩ | ⟨j, ver, L, rfl, h3, h4⟩
    · cases hi
    · cases hi; rw [h.node] at h3; cases h3
  · obtain ⟨j, hj, he⟩ := List.mem_iff_getElem.1 hm
    have := h.sts.obj j (by rw [← h.sts.len]; exact hj)
    rw [List.getD_eq_getElem?_getD, List.getElem?_eq_getElem hj, he] at this
    simp only [Option.getD_some] at this
    rw [h.node] at this; cases this
theorem Pts.sne {H : AHeap} {sv : AV} {ids : List Nat} {sts : List Pt} (h : Pts H sv ids sts) {i : Nat} (hi : idOf sv = some i) : i ∉ ids := fun hm => by
  rcases h.sl with ⟨_, rfl⟩ | ⟨j, ver, L, rfl, h3, h4⟩
  · cases hi
  · cases hi
    obtain ⟨j, hj, he⟩ := List.mem_iff_getElem.1 hm
    have := h.obj j (by rw [← h.len]; exact hj)
    rw [List.getD_eq_getElem?_getD, List.getElem?_eq_getElem hj, he] at this
    simp only [Option.getD_some] at this
    rw [h3] at this; cases this
/-- One station is changed. -/
theorem Pts.put {H : AHeap} {sv : AV} {ids : List Nat} {sts : List Pt} (h : Pts H sv ids sts) {j : Nat} (hj : j < sts.length) {s : Pt} (hs : s.Ok) : Pts (H.set (ids.getD j 0) (pObj s)) sv ids (sts.set j s) := by
  have hm := h.mem hj
  refine ⟨by rw [List.length_set]; exact h.len, h.nd, fun i hi => ?_, ?_, fun x hx => ?_, by rw [List.length_set]; exact h.n40⟩
  · rw [List.length_set] at hi
    by_cases he : i = j
    · subst he
      rw [set_self, gD_set_self hj]
    · have hne : ids.getD i 0 ≠ ids.getD j 0 := fun hh => he (getD_inj h.nd (by rw [h.len]; exact hi) (by rw [h.len]; exact hj) hh)
      rw [set_ne hne, gD_set_ne (Ne.symm he)]
      exact h.obj i hi
  · rcases h.sl with ⟨rfl, _⟩ | ⟨i, ver, L, rfl, h3, h4, h5⟩
    · simp at hj
    · refine .inr ⟨i, ver, L, by rw [List.length_set], ?_, by rw [List.length_set]; exact h4, by rw [List.length_set]; exact h5⟩
      rw [set_ne]
      · exact h3
      · intro he; exact h.sne (i := i) rfl (he ▸ hm)
  · rcases List.mem_or_eq_of_mem_set hx with hx | rfl
    · exact h.ok x hx
    · exact hs
theorem LinkAt.put {H : AHeap} {k : Nat} {sv : AV} {ids : List Nat} {sts : List Pt} {f : Int} (h : LinkAt H k sv ids sts f) {j : Nat} (hj : j < sts.length) {s : Pt} (hs : s.Ok) : LinkAt (H.set (ids.getD j 0) (pObj s)) k sv ids (sts.set j s) f :=
  ⟨by rw [set_ne (fun he : k = ids.getD j 0 => h.kne.2 (he ▸ h.sts.mem hj))]; exact h.node, h.sts.put hj hs⟩
end Go.Proofs.Ytgnnkpgceahjdaa

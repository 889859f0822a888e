/- What the functions of a bus tell. -/
import Derived.Test.YtadpakkenokilaaT2
import Derived.Test.YtadpakkenokilaaM2p
set_option autoImplicit false
set_option maxRecDepth 100000
set_option linter.unusedVariables false
set_option linter.unusedSimpArgs false
namespace Go.Proofs.Ytadpakkenokilaa
open Go Go.AM Go.Proofs
theorem k_bool {K : AV → AHeap → Prop} {H : AHeap} {b c : Bool} (h : K (.d (.bool b)) H) (e : c = b) : K (.d (.bool c)) H := e ▸ h
theorem k_int {K : AV → AHeap → Prop} {H : AHeap} {b c : Int} (h : K (.d (.int .i64 b)) H) (e : c = b) : K (.d (.int .i64 c)) H := e ▸ h
def ints (l : List Int) : List (List Dat) := l.map fun n => [.int .i64 n]
theorem ints_len {l : List Int} : (ints l).length = l.length := by simp [ints]
theorem ints_get {l : List Int} {j : Nat} (h : j < l.length) : (ints l)[j]? = some [.int .i64 (l.getD j 0)] := by simp [ints, h, List.getD_eq_getElem?_getD]
theorem ints_app {a b : List Int} : ints (a ++ b) = ints a ++ ints b := by simp [ints]
theorem ints_1 {l : List Int} : ∀ c ∈ ints l, c.length = 1 := by simp [ints]
def St.cells (s : St) : List AV := [.d (.sl s.rn (ints s.row)), .d (.bool s.on), .d (.int .i64 s.state), .d (.int .i64 s.k), .d (.int .i64 s.sent), .d (.int .i64 s.node)]
abbrev sObj (s : St) : AObj := .mem 0 0 6 [s.cells]
structure Sts (H : AHeap) (sv : AV) (ids : List Nat) (sts : List St) : Prop where
  len : ids.length = sts.length
  nd : ids.Nodup
  obj : ∀ j, j < sts.length → H (ids.getD j 0) = some (sObj (sts.getD j default))
  sl : (sts = [] ∧ sv = .d (.sl true [])) ∨ ∃ i ver L, sv = .rs i ver 1 0 sts.length ∧ H i = some (.mem ver 0 1 L) ∧ L.take sts.length = ids.map (fun p => [.ptr p 0 0 0]) ∧ sts.length ≤ L.length
  ok : ∀ s ∈ sts, s.Ok
  n40 : sts.length ≤ 40
theorem Sts.mem {H : AHeap} {sv : AV} {ids : List Nat} {sts : List St} (h : Sts H sv ids sts) {j : Nat} (hj : j < sts.length) : ids.getD j 0 ∈ ids := by
  have : j < ids.length := by rw [h.len]; exact hj
  rw [List.getD_eq_getElem?_getD, List.getElem?_eq_getElem this]
  exact List.getElem_mem this
theorem Sts.okj {H : AHeap} {sv : AV} {ids : List Nat} {sts : List St} (h : Sts H sv ids sts) {j : Nat} (hj : j < sts.length) : (sts.getD j default).Ok := by
  refine h.ok _ ?_
  rw [List.getD_eq_getElem?_getD, List.getElem?_eq_getElem hj]
  exact List.getElem_mem hj
theorem Sts.lenS {H : AHeap} {sv : AV} {ids : List Nat} {sts : List St} (h : Sts H sv ids sts) : lenSl sv = some (.d (.int .i64 sts.length)) := by
  rcases h.sl with ⟨rfl, rfl⟩ | ⟨i, ver, L, rfl, _⟩ <;> rfl
theorem Sts.aggs {H : AHeap} {sv : AV} {ids : List Nat} {sts : List St} (h : Sts H sv ids sts) : aggL sv = [] := by
  rcases h.sl with ⟨rfl, rfl⟩ | ⟨i, ver, L, rfl, _⟩ <;> rfl
theorem Sts.ix {H : AHeap} {sv : AV} {ids : List Nat} {sts : List St} (h : Sts H sv ids sts) {j : Nat} (hj : j < sts.length) : ∃ p, indexAddrA ti50 1 sv (.d (.int .i64 (j : Int))) = some p ∧ ldV false 1 p H = some (.ptr (ids.getD j 0) 0 0 0) := by
  rcases h.sl with ⟨rfl, rfl⟩ | ⟨i, ver, L, rfl, h1, h2, h3⟩
  · simp at hj
  · refine ⟨_, idx_rs (e := 65) rfl (by omega) (by omega), ?_⟩
    have hL : L[j]? = some [.ptr (ids.getD j 0) 0 0 0] := by
      have : (L.take sts.length)[j]? = L[j]? := List.getElem?_take_of_lt hj
      rw [← this, h2, List.getElem?_map, List.getD_eq_getElem?_getD, List.getElem?_eq_getElem (by rw [h.len]; exact hj)]
      rfl
    simp only [ldV_get, getM_of h1, ldM, Int.toNat_natCast, hL, partV, List.drop_zero, List.take_succ_cons, List.take_zero, List.length_cons, List.length_nil, if_true, Bool.false_eq_true, if_false]
theorem Sts.keep {H H' : AHeap} {sv : AV} {ids : List Nat} {sts : List St} (h : Sts H sv ids sts) (h1 : ∀ i, idOf sv = some i → H' i = H i) (h2 : ∀ i ∈ ids, H' i = H i) : Sts H' sv ids sts := by
  refine ⟨h.len, h.nd, fun j hj => by rw [h2 _ (h.mem hj)]; exact h.obj j hj, ?_, h.ok, h.n40⟩
  rcases h.sl with h3 | ⟨i, ver, L, rfl, h3, h4⟩
  · exact .inl h3
  · exact .inr ⟨i, ver, L, rfl, by rw [h1 i rfl]; exact h3, h4⟩
/-- What lies there: of a bus. -/
structure BusAt (H : AHeap) (k : Nat) (ln : Bool) (lost : List Int) (sv : AV) (ids : List Nat) (sts : List St) (f : Int) : Prop where
  node : H k = some (.mem 0 0 4 [[.d (.bool true), .d (.sl ln (ints lost)), sv, .d (.int .i64 f)]])
  sts : Sts H sv ids sts
theorem Sts.isS {H : AHeap} {sv : AV} {ids : List Nat} {sts : List St} (h : Sts H sv ids sts) {i : Nat} (hi : idOf sv = some i ∨ i ∈ ids) : (H i).isSome := by
  rcases hi with hi | hi
  · rcases h.sl with ⟨rfl, rfl⟩ | ⟨j, ver, L, rfl, h3, h4⟩
    · cases hi
    · cases hi; rw [h3]; rfl
  · obtain ⟨j, hj, rfl⟩ := List.mem_iff_getElem.1 hi
    have := h.obj j (by rw [← h.len]; exact hj)
    rw [List.getD_eq_getElem?_getD, List.getElem?_eq_getElem hj] at this
    simp only [Option.getD_some] at this
    rw [this]; rfl
theorem Sts.le {H H' : AHeap} {sv : AV} {ids : List Nat} {sts : List St} (h : Sts H sv ids sts) (hle : AHeap.le H H') : Sts H' sv ids sts := by
  have e : ∀ i, (H i).isSome → H' i = H i := fun i hi => by
    cases hh : H i with
    | none => rw [hh] at hi; cases hi
    | some o => rw [hle i o hh]
  exact h.keep (fun i hi => e i (h.isS (.inl hi))) fun i hi => e i (h.isS (.inr hi))
theorem BusAt.le {H H' : AHeap} {k : Nat} {ln : Bool} {lost : List Int} {sv : AV} {ids : List Nat} {sts : List St} {f : Int} (h : BusAt H k ln lost sv ids sts f) (hle : AHeap.le H H') : BusAt H' k ln lost sv ids sts f := ⟨hle _ _ h.node, h.sts.le hle⟩
/-- The objects of a bus. -/
def foot (k : Nat) (sv : AV) (ids : List Nat) (j : Nat) : Prop := j = k ∨ idOf sv = some j ∨ j ∈ ids
theorem BusAt.foot {H : AHeap} {k : Nat} {ln : Bool} {lost : List Int} {sv : AV} {ids : List Nat} {sts : List St} {f : Int} (h : BusAt H k ln lost sv ids sts f) {j : Nat} (hj : foot k sv ids j) : (H j).isSome := by
  rcases hj with rfl | hj
  · rw [h.node]; rfl
  · exact h.sts.isS hj
theorem BusAt.keep {H H' : AHeap} {k : Nat} {ln : Bool} {lost : List Int} {sv : AV} {ids : List Nat} {sts : List St} {f : Int} (h : BusAt H k ln lost sv ids sts f) (hk : ∀ j, Ytadpakkenokilaa.foot k sv ids j → H' j = H j) : BusAt H' k ln lost sv ids sts f :=
  ⟨by rw [hk k (.inl rfl)]; exact h.node, h.sts.keep (fun i hi => hk i (.inr (.inl hi))) fun i hi => hk i (.inr (.inr hi))⟩
theorem BusAt.kne {H : AHeap} {k : Nat} {ln : Bool} {lost : List Int} {sv : AV} {ids : List Nat} {sts : List St} {f : Int} (h : BusAt H k ln lost sv ids sts f) : (∀ i, idOf sv = some i → i ≠ k) ∧ k ∉ ids := by
  refine ⟨fun i hi he => ?_, fun hm => ?_⟩
  · subst he
    rcases h.sts.sl with ⟨_, rfl⟩ | ⟨j, ver, L, rfl, h3, h4⟩
    · cases hi
    · cases hi; rw [h.node] at h3; cases h3
  · obtain ⟨j, hj, he⟩ := List.mem_iff_getElem.1 hm
    have := h.sts.obj j (by rw [← h.sts.len]; exact hj)
    rw [List.getD_eq_getElem?_getD, List.getElem?_eq_getElem hj, he] at this
    simp only [Option.getD_some] at this
    rw [h.node] at this; cases this
theorem Sts.sne {H : AHeap} {sv : AV} {ids : List Nat} {sts : List St} (h : Sts H sv ids sts) {i : Nat} (hi : idOf sv = some i) : i ∉ ids := fun hm => by
  rcases h.sl with ⟨_, rfl⟩ | ⟨j, ver, L, rfl, h3, h4⟩
  · cases hi
  · cases hi
    obtain ⟨j, hj, he⟩ := List.mem_iff_getElem.1 hm
    have := h.obj j (by rw [← h.len]; exact hj)
    rw [List.getD_eq_getElem?_getD, List.getElem?_eq_getElem hj, he] at this
    simp only [Option.getD_some] at this
    rw [h3] at this; cases this
theorem getD_inj {ids : List Nat} (h : ids.Nodup) {i j : Nat} (hi : i < ids.length) (hj : j < ids.length) (he : ids.getD i 0 = ids.getD j 0) : i = j := by
  rw [List.getD_eq_getElem?_getD, List.getD_eq_getElem?_getD, List.getElem?_eq_getElem hi, List.getElem?_eq_getElem hj] at he
  simp only [Option.getD_some] at he
  exact (List.getElem_inj h).1 he
theorem getD_set_self {sts : List St} {j : Nat} {s : St} (h : j < sts.length) : (sts.set j s).getD j default = s := by
  rw [List.getD_eq_getElem?_getD, List.getElem?_set_self h]; rfl
theorem getD_set_ne {sts : List St} {i j : Nat} {s : St} (h : j ≠ i) : (sts.set j s).getD i default = sts.getD i default := by
  rw [List.getD_eq_getElem?_getD, List.getElem?_set_ne h, ← List.getD_eq_getElem?_getD]
/-- One station is changed. -/
theorem Sts.put {H : AHeap} {sv : AV} {ids : List Nat} {sts : List St} (h : Sts H sv ids sts) {j : Nat} (hj : j < sts.length) {s : St} (hs : s.Ok) : Sts (H.set (ids.getD j 0) (sObj s)) sv ids (sts.set j s) := by
  have hm := h.mem hj
  refine ⟨by rw [List.length_set]; exact h.len, h.nd, fun i hi => ?_, ?_, fun x hx => ?_, by rw [List.length_set]; exact h.n40⟩
  · rw [List.length_set] at hi
    by_cases he : i = j
    · subst he
      rw [set_self, getD_set_self hj]
    · have hne : ids.getD i 0 ≠ ids.getD j 0 := fun hh => he (getD_inj h.nd (by rw [h.len]; exact hi) (by rw [h.len]; exact hj) hh)
      rw [set_ne hne, getD_set_ne (Ne.symm he)]
      exact h.obj i hi
  · rcases h.sl with ⟨rfl, _⟩ | ⟨i, ver, L, rfl, h3, h4, h5⟩
    · simp at hj
    · refine .inr ⟨i, ver, L, by rw [List.length_set], ?_, by rw [List.length_set]; exact h4, by rw [List.length_set]; exact h5⟩
      rw [set_ne]
      · exact h3
      · intro he; exact h.sne (i := i) rfl (he ▸ hm)
  · rcases List.mem_or_eq_of_mem_set hx with hx | rfl
    · exact h.ok x hx
    · exact hs
theorem BusAt.put {H : AHeap} {k : Nat} {ln : Bool} {lost : List Int} {sv : AV} {ids : List Nat} {sts : List St} {f : Int} (h : BusAt H k ln lost sv ids sts f) {j : Nat} (hj : j < sts.length) {s : St} (hs : s.Ok) : BusAt (H.set (ids.getD j 0) (sObj s)) k ln lost sv ids (sts.set j s) f :=
  ⟨by rw [set_ne (fun he : k = ids.getD j 0 => h.kne.2 (he ▸ h.sts.mem hj))]; exact h.node, h.sts.put hj hs⟩
theorem nilP_eql {i v e o : Nat} : nilA 3 .eql (.ptr i v e o) .nilptr = some (.d (.bool false)) := rfl
theorem nilP_neq {i v e o : Nat} : nilA 3 .neq (.ptr i v e o) .nilptr = some (.d (.bool true)) := rfl
theorem nilCk_ptr {i v e o : Nat} : nilCkA (.ptr i v e o) = some (.ptr i v e o) := rfl
theorem guess_c {H : AHeap} {p : Nat} {s : St} (hp : H p = some (sObj s)) (hk : 0 ≤ s.k ∧ s.k ≤ 253) (hlen : s.row.length < 2 ^ 40) {K : AV → AHeap → Prop} (h : K (.d (.int .i64 s.gs)) H) : CallsA Try.prog 39 [.ptr p 0 0 0] H K := by
  apply C39
  unfold S39
  simp only [nilCk_ptr, ti68_f0, ti68_f3, getM_of hp, St.cells, ints_len, go_sem]
  unfold St.gs guess at h
  split
  · rename_i h0
    have hr : s.row = [] := List.eq_nil_of_length_eq_zero (by omega)
    rw [if_pos hr] at h
    simp only [intA_rem (b := 253) (by decide), go_sem]
    have hb := tmod_bd s.k
    rw [wrap_i64 (by omega) (by omega)]
    exact ⟨H, le_refl', h⟩
  · rename_i h0
    have hr : s.row ≠ [] := by rintro hr; rw [hr] at h0; simp at h0
    have hpos : 0 < s.row.length := List.length_pos_iff.2 hr
    rw [if_neg hr] at h
    have hi0 : 0 ≤ s.k.tmod (s.row.length : Int) := Int.tmod_nonneg _ hk.1
    have hi1 : s.k.tmod (s.row.length : Int) < s.row.length := Int.tmod_lt_of_pos _ (by omega)
    simp only [intA_rem (a := s.k) (b := (s.row.length : Int)) (show (s.row.length : Int) ≠ 0 by omega), go_sem]
    have hi2 : (s.k.tmod (s.row.length : Int)).toNat < s.row.length := (Int.toNat_lt hi0).2 hi1
    simp only [sl_get (ti := ti22) (e := 3) (esz := 1) rfl hi0 (ints_get hi2) rfl, List.map_cons, List.map_nil, intA_rem (b := 253) (by decide), go_sem]
    generalize hx : s.row.getD (s.k.tmod (s.row.length : Int)).toNat 0 = x at h
    have hb := tmod_bd x
    rw [wrap_i64 (n := x.tmod 253 + 253) (by omega) (by omega)]
    have hb2 := tmod_bd (x.tmod 253 + 253)
    rw [wrap_i64 (by omega) (by omega)]
    exact ⟨H, le_refl', h⟩
section
variable {H : AHeap} {k : Nat} {ln : Bool} {lost : List Int} {sv : AV} {ids : List Nat} {sts : List St} {f : Int} {K : AV → AHeap → Prop}
theorem none_c (h : BusAt H k ln lost sv ids sts f) (hk : K (.d (.bool false)) H) : CallsA Try.prog 31 [.ptr k 0 0 0] H K := by
  apply C31
  unfold S31
  simp only [nilP_eql, nilCk_ptr, ti52_f0, getM_of h.node, Bool.not_true, go_sem]
  exact ⟨H, le_refl', hk⟩
theorem has_c {i : Int} (h : BusAt H k ln lost sv ids sts f) (hk : K (.d (.bool (decide (0 ≤ i ∧ i < sts.length)))) H) : CallsA Try.prog 62 [.ptr k 0 0 0, .d (.int .i64 i)] H K := by
  apply C62
  unfold S62
  simp only [nilCk_ptr, ti52_f2, getM_of h.node, h.sts.lenS, go_sem]
  split
  · exact ⟨H, le_refl', k_bool hk (by simp; omega)⟩
  · exact ⟨H, le_refl', k_bool hk (by simp; omega)⟩
theorem asked_c {i : Int} (h : BusAt H k ln lost sv ids sts f) (hk : K (.d (.int .i64 (if 0 ≤ i ∧ i < sts.length then 0 else 2))) H) : CallsA Try.prog 33 [.ptr k 0 0 0, .d (.int .i64 i)] H K := by
  apply C33
  unfold S33
  simp only [go_sem]
  refine none_c h ?_
  simp only [go_sem]
  refine has_c h ?_
  simp only [go_sem]
  split
  · rename_i h1
    rw [if_neg h1] at hk
    exact ⟨H, le_refl', hk⟩
  · rename_i h1
    rw [if_pos (Classical.not_not.1 h1)] at hk
    exact ⟨H, le_refl', hk⟩
def nodeOf (s : St) : Int := if s.state = 1 then s.gs else if s.state = 2 then s.node else 0
def nodeB (sts : List St) (i : Int) : Int := if 0 ≤ i ∧ i < sts.length then nodeOf (sts.getD i.toNat default) else 0
def stateB (sts : List St) (i : Int) : Int := if 0 ≤ i ∧ i < sts.length then (sts.getD i.toNat default).state else -1
theorem Node_c {i : Int} (h : BusAt H k ln lost sv ids sts f) (hk : K (.d (.int .i64 (nodeB sts i))) H) : CallsA Try.prog 16 [.ptr k 0 0 0, .d (.int .i64 i)] H K := by
  apply C16
  unfold S16
  simp only [go_sem]
  refine asked_c h ?_
  unfold nodeB at hk
  simp only [go_sem]
  by_cases hi : 0 ≤ i ∧ i < sts.length
  · rw [if_pos hi] at hk ⊢
    obtain ⟨j, rfl⟩ : ∃ j : Nat, i = j := ⟨i.toNat, by omega⟩
    rw [Int.toNat_natCast] at hk
    have hj : j < sts.length := by omega
    obtain ⟨p, e1, e2⟩ := h.sts.ix hj
    have e3 := h.sts.obj j hj
    generalize ids.getD j 0 = q at *
    have hok := h.sts.okj hj
    generalize sts.getD j default = s at *
    simp only [not_true_eq_false, if_false, nilCk_ptr, ti52_f2, getM_of h.node, e1, e2, ti68_f2, ti68_f5, getM_of e3, St.cells, go_sem]
    unfold nodeOf at hk
    split
    · rename_i h1
      rw [if_pos h1] at hk
      refine guess_c e3 hok.k hok.len ?_
      simp only [go_sem]
      exact ⟨H, le_refl', hk⟩
    · rename_i h1
      rw [if_neg h1] at hk
      split
      · rename_i h2
        rw [if_pos h2] at hk
        try simp only [getM_of e3, ti68_f5, St.cells, go_sem]
        exact ⟨H, le_refl', hk⟩
      · rename_i h2
        rw [if_neg h2] at hk
        exact ⟨H, le_refl', hk⟩
  · rw [if_neg hi] at hk ⊢
    simp only [Int.reduceEq, not_false_eq_true, if_true, go_sem]
    exact ⟨H, le_refl', hk⟩
theorem State_c {i : Int} (h : BusAt H k ln lost sv ids sts f) (hk : K (.d (.int .i64 (stateB sts i))) H) : CallsA Try.prog 17 [.ptr k 0 0 0, .d (.int .i64 i)] H K := by
  apply C17
  unfold S17
  simp only [go_sem]
  refine asked_c h ?_
  unfold stateB at hk
  simp only [go_sem]
  by_cases hi : 0 ≤ i ∧ i < sts.length
  · rw [if_pos hi] at hk ⊢
    obtain ⟨j, rfl⟩ : ∃ j : Nat, i = j := ⟨i.toNat, by omega⟩
    rw [Int.toNat_natCast] at hk
    have hj : j < sts.length := by omega
    obtain ⟨p, e1, e2⟩ := h.sts.ix hj
    have e3 := h.sts.obj j hj
    generalize ids.getD j 0 = q at *
    generalize sts.getD j default = s at *
    simp only [if_true, nilCk_ptr, ti52_f2, getM_of h.node, e1, e2, ti68_f2, getM_of e3, St.cells, go_sem]
    exact ⟨H, le_refl', hk⟩
  · rw [if_neg hi] at hk ⊢
    simp only [Int.reduceEq, if_false, go_sem]
    exact ⟨H, le_refl', hk⟩
theorem Frames_c (h : BusAt H k ln lost sv ids sts f) (hk : K (.d (.int .i64 f)) H) : CallsA Try.prog 25 [.ptr k 0 0 0] H K := by
  apply C25
  unfold S25
  simp only [go_sem]
  refine none_c h ?_
  simp only [nilCk_ptr, ti52_f3, getM_of h.node, go_sem]
  exact ⟨H, le_refl', hk⟩
def quietB (sts : List St) : Bool := sts.all fun s => decide (s.state ≠ 1)
theorem quietB_lt {sts : List St} : quietB sts = true ↔ ∀ j, j < sts.length → (sts.getD j default).state ≠ 1 := by
  simp only [quietB, List.all_eq_true, decide_eq_true_eq]
  constructor
  · intro h j hj
    rw [List.getD_eq_getElem?_getD, List.getElem?_eq_getElem hj]
    exact h _ (List.getElem_mem hj)
  · intro h s hs
    obtain ⟨j, hj, rfl⟩ := List.mem_iff_getElem.1 hs
    have := h j hj
    rw [List.getD_eq_getElem?_getD, List.getElem?_eq_getElem hj] at this
    exact this
theorem callA_35 {args : List AV} {H : AHeap} {K : AV → AHeap → Prop} : callA (CallsA Try.prog) pol63 (.func 35 [] []) args H K = frzLK args H (fun l H' => CallsA Try.prog 35 l H' K) := by
  show argsA pol63 35 ([] ++ args ++ []) H _ = _
  rw [List.nil_append, List.append_nil]
  rfl
theorem Quiet_c (h : BusAt H k ln lost sv ids sts f) (hk : K (.d (.bool (quietB sts))) H) : CallsA Try.prog 14 [.ptr k 0 0 0] H K := by
  have hn := h.sts.n40
  apply C14
  unfold S14
  simp only [go_sem]
  refine none_c h ?_
  simp only [Bool.not_false, nilCk_ptr, ti52_f2, getM_of h.node, go_sem]
  apply C34
  unfold S34
  apply C63
  unfold S63
  simp only [h.sts.lenS, go_sem]
  refine loop_ind (fun r vs G => G = H ∧ ∃ j : Nat, j ≤ sts.length ∧ r = sts.length - j ∧ (∀ i, i < j → (sts.getD i default).state ≠ 1) ∧ vs = [sv, .func 35 [] [], .d (.int .i64 sts.length), .d (.int .i64 j)]) (n := sts.length) ⟨rfl, 0, by omega, by omega, by omega, rfl⟩ ?_
  rintro X r vs G ⟨rfl, j, hj, rfl, hno, rfl⟩ hX
  simp only [List.getD_cons_succ, List.getD_cons_zero, go_sem]
  split
  · rename_i hlt
    have hj' : j < sts.length := by omega
    obtain ⟨p, e1, e2⟩ := h.sts.ix hj'
    have e3 := h.sts.obj j hj'
    simp only [e1, e2, callA_35, go_sem]
    apply C35
    unfold S35
    simp only [nilCk_ptr, ti68_f2, getM_of e3, St.cells, go_sem]
    refine ⟨G, le_refl', ?_⟩
    simp only [go_sem]
    split
    · rename_i hyes
      refine ⟨G, le_refl', ?_⟩
      simp only [decide_eq_true (show (0 : Int) ≤ (j : Int) by omega), go_sem]
      refine ⟨G, le_refl', ?_⟩
      simp only [Bool.not_true, go_sem]
      refine ⟨G, le_refl', k_bool hk ?_⟩
      symm
      rw [← Bool.not_eq_true, quietB_lt]
      intro hh
      exact hh j hj' hyes
    · rename_i hno'
      rw [wrap_i64 (by omega) (by omega)]
      refine hX (sts.length - (j + 1)) _ _ (by omega) ⟨rfl, j + 1, by omega, rfl, fun i hi => ?_, rfl⟩
      rcases Nat.lt_succ_iff_lt_or_eq.1 hi with hi | rfl
      · exact hno i hi
      · exact hno'
  · rename_i hge
    refine ⟨G, le_refl', ?_⟩
    simp only [Int.reduceNeg, Int.reduceLE, decide_false, go_sem]
    refine ⟨G, le_refl', ?_⟩
    simp only [Bool.not_false, go_sem]
    refine ⟨G, le_refl', k_bool hk ?_⟩
    symm
    rw [quietB_lt]
    intro i hi
    exact hno i (by omega)
end
end Go.Proofs.Ytadpakkenokilaa

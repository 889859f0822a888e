/- The bus, as chapter 02 has it, in this seat. -/
import Derived.Test.YtgnnkpgceahjdaaT6
import Derived.Test.YtgnnkpgceahjdaaA27
import Derived.Test.YtgnnkpgceahjdaaA28
import Derived.Test.YtgnnkpgceahjdaaB6shelf
import Derived.RangeFuncBox
import Derived.RangeFuncLeaves
import Derived.Shelf.Abstract
import Derived.WalkKit
import Derived.OwnWalkIn
import Derived.TacticsInMore
import Derived.LoopNIn
import Derived.LoopIn
set_option autoImplicit false
set_option maxRecDepth 100000
set_option linter.unusedVariables false
set_option linter.unusedSimpArgs false
set_option linter.unnecessarySimpa false
namespace Go.Proofs.Ytgnnkpgceahjdaa
section
/-- A station: the program's. -/
structure St where
  rn : Bool
  row : List Int
  on : Bool
  state : Int
  k : Int
  sent : Int
  node : Int
instance : Inhabited St := ⟨⟨true, [], false, 0, 0, 0, 0⟩⟩
/-- The k-th guess of a row. -/
def guess (row : List Int) (k : Int) : Int := if row = [] then 1 + k.tmod 253 else 1 + ((row.getD (k.tmod row.length).toNat 0).tmod 253 + 253).tmod 253
def St.gs (s : St) : Int := guess s.row s.k
theorem tmod_bd (n : Int) : -253 < n.tmod 253 ∧ n.tmod 253 < 253 := by
  constructor
  · have := Int.tmod_lt_of_pos (-n) (show (0 : Int) < 253 by omega)
    rw [Int.neg_tmod] at this
    omega
  · exact Int.tmod_lt_of_pos n (by omega)
theorem guess_bd {row : List Int} {k : Int} (h : 0 ≤ k) : 1 ≤ guess row k ∧ guess row k ≤ 253 := by
  unfold guess
  split
  · have h1 := tmod_bd k
    have h2 : 0 ≤ k.tmod 253 := Int.tmod_nonneg _ h
    omega
  · generalize row.getD _ _ = x
    have h1 := tmod_bd x
    have h2 := tmod_bd (x.tmod 253 + 253)
    have h3 : 0 ≤ (x.tmod 253 + 253).tmod 253 := Int.tmod_nonneg _ (by omega)
    omega
/-- Does station i answer an enquiry of station o? -/
def ans (sts : List St) (i o : Nat) : Bool :=
  let s := sts.getD i default
  let t := sts.getD o default
  if i = o ∨ s.on = false then false
  else if s.state = 2 then decide (s.node = t.gs)
  else if s.state = 1 then decide (s.gs = t.gs ∧ (t.sent < s.sent ∨ s.sent = t.sent ∧ i < o))
  else false
def askS (sts : List St) (n : Nat) : List Nat := (List.range n).filter fun i => decide ((sts.getD i default).state = 1)
theorem askS_succ {sts : List St} {n : Nat} : askS sts (n + 1) = askS sts n ++ if (sts.getD n default).state = 1 then [n] else [] := by
  simp only [askS, List.range_succ, List.filter_append, List.filter_cons, List.filter_nil, decide_eq_true_eq]
theorem askS_lt {sts : List St} {n i : Nat} (h : i ∈ askS sts n) : i < n := by
  simp only [askS, List.mem_filter, List.mem_range] at h
  exact h.1
theorem askS_len {sts : List St} {n : Nat} : (askS sts n).length ≤ n := by
  have := List.length_filter_le (fun i => decide ((sts.getD i default).state = 1)) (List.range n)
  simpa [askS] using this
/-- Those whose enquiries come; f: the number of the first frame. -/
def hearS (lost : Int → Bool) : List Nat → Int → List Nat
  | [], _ => []
  | i :: l, f => if lost f then hearS lost l (f + 1) else i :: hearS lost l (f + 1)
theorem hearS_snoc {lost : Int → Bool} {x : Nat} : ∀ {l : List Nat} {f : Int}, hearS lost (l ++ [x]) f = hearS lost l f ++ if lost (f + (l.length : Int)) then [] else [x]
  | [], f => by simp [hearS]
  | i :: l, f => by
    have ih := hearS_snoc (lost := lost) (x := x) (l := l) (f := f + 1)
    have e : f + 1 + (l.length : Int) = f + ((i :: l).length : Int) := by simp; omega
    rw [e] at ih
    simp only [List.cons_append, hearS, ih]
    split <;> simp
theorem hearS_sub {lost : Int → Bool} {i : Nat} : ∀ {l : List Nat} {f : Int}, i ∈ hearS lost l f → i ∈ l
  | [], f, h => by simp [hearS] at h
  | j :: l, f, h => by
    simp only [hearS] at h
    split at h
    · exact List.mem_cons_of_mem _ (hearS_sub h)
    · rcases List.mem_cons.1 h with rfl | h
      · exact List.mem_cons_self ..
      · exact List.mem_cons_of_mem _ (hearS_sub h)
theorem hearS_len {lost : Int → Bool} : ∀ {l : List Nat} {f : Int}, (hearS lost l f).length ≤ l.length
  | [], f => by simp [hearS]
  | j :: l, f => by
    have := hearS_len (lost := lost) (l := l) (f := f + 1)
    simp only [hearS]
    split <;> simp <;> omega
/-- Station k is asked by i: the frames, and who was answered. -/
def an1 (lost : Int → Bool) (sts : List St) (i : Nat) (s : Int × List Bool) (k : Nat) : Int × List Bool :=
  if ans sts k i then (s.1 + 1, if lost s.1 then s.2 else s.2.set i true) else s
def an2 (lost : Int → Bool) (sts : List St) (s : Int × List Bool) (i : Nat) : Int × List Bool := (List.range sts.length).foldl (an1 lost sts i) s
def an3 (lost : Int → Bool) (sts : List St) (s : Int × List Bool) (heard : List Nat) : Int × List Bool := heard.foldl (an2 lost sts) s
theorem an1_bd {lost : Int → Bool} {sts : List St} {i k : Nat} {s : Int × List Bool} : s.1 ≤ (an1 lost sts i s k).1 ∧ (an1 lost sts i s k).1 ≤ s.1 + 1 ∧ (an1 lost sts i s k).2.length = s.2.length := by
  unfold an1
  split
  · refine ⟨by simp only; omega, by simp, ?_⟩
    simp only
    split
    · rfl
    · rw [List.length_set]
  · exact ⟨by omega, by omega, rfl⟩
def an1s (lost : Int → Bool) (sts : List St) (i : Nat) (s : Int × List Bool) (n : Nat) : Int × List Bool := (List.range n).foldl (an1 lost sts i) s
theorem an1s_succ {lost : Int → Bool} {sts : List St} {i n : Nat} {s : Int × List Bool} : an1s lost sts i s (n + 1) = an1 lost sts i (an1s lost sts i s n) n := by
  simp only [an1s, List.range_succ, List.foldl_append, List.foldl_cons, List.foldl_nil]
theorem an1s_bd {lost : Int → Bool} {sts : List St} {i : Nat} {s : Int × List Bool} : ∀ {n : Nat}, s.1 ≤ (an1s lost sts i s n).1 ∧ (an1s lost sts i s n).1 ≤ s.1 + n ∧ (an1s lost sts i s n).2.length = s.2.length
  | 0 => ⟨Int.le_refl _, by simp [an1s], rfl⟩
  | n + 1 => by
    have h1 := an1s_bd (lost := lost) (sts := sts) (i := i) (s := s) (n := n)
    have h2 := an1_bd (lost := lost) (sts := sts) (i := i) (k := n) (s := an1s lost sts i s n)
    rw [an1s_succ]
    refine ⟨by omega, by omega, h2.2.2.trans h1.2.2⟩
theorem an3_take {lost : Int → Bool} {sts : List St} {s : Int × List Bool} {l : List Nat} {j : Nat} (h : j < l.length) : an3 lost sts s (l.take (j + 1)) = an2 lost sts (an3 lost sts s (l.take j)) l[j] := by
  simp only [an3]
  rw [List.take_add_one, List.getElem?_eq_getElem h]
  simp only [List.foldl_append, Option.toList_some, List.foldl_cons, List.foldl_nil]
theorem an3_bd {lost : Int → Bool} {sts : List St} : ∀ {l : List Nat} {s : Int × List Bool}, s.1 ≤ (an3 lost sts s l).1 ∧ (an3 lost sts s l).1 ≤ s.1 + l.length * sts.length ∧ (an3 lost sts s l).2.length = s.2.length
  | [], s => ⟨Int.le_refl _, by simp [an3], rfl⟩
  | i :: l, s => by
    have h1 := an1s_bd (lost := lost) (sts := sts) (i := i) (s := s) (n := sts.length)
    have h2 := an3_bd (lost := lost) (sts := sts) (l := l) (s := an1s lost sts i s sts.length)
    have e : an3 lost sts s (i :: l) = an3 lost sts (an1s lost sts i s sts.length) l := rfl
    rw [e]
    have e2 : ((i :: l).length : Int) * (sts.length : Int) = (l.length : Int) * sts.length + sts.length := by
      rw [List.length_cons]; push_cast; rw [Int.add_mul, Int.one_mul]
    rw [e2]
    exact ⟨by omega, by omega, h2.2.2.trans h1.2.2⟩
/-- The end of a step of a station that guesses. -/
def St.fin (s : St) (a : Bool) : St :=
  if a then { s with k := s.k + 1, sent := 0, state := if s.k + 1 = 253 then 0 else s.state }
  else if s.sent + 1 = 8 then { s with sent := 8, state := 2, node := s.gs } else { s with sent := s.sent + 1 }
def finS (A : List Bool) (sts : List St) (l : List Nat) : List St := l.foldl (fun ss i => ss.set i ((ss.getD i default).fin (A.getD i false))) sts
theorem finS_take {A : List Bool} {sts : List St} {l : List Nat} {j : Nat} (h : j < l.length) : finS A sts (l.take (j + 1)) = (finS A sts (l.take j)).set l[j] (((finS A sts (l.take j)).getD l[j] default).fin (A.getD l[j] false)) := by
  simp only [finS]
  rw [List.take_add_one, List.getElem?_eq_getElem h]
  simp only [List.foldl_append, Option.toList_some, List.foldl_cons, List.foldl_nil]
theorem finS_len {A : List Bool} : ∀ {l : List Nat} {sts : List St}, (finS A sts l).length = sts.length
  | [], sts => rfl
  | i :: l, sts => by
    have e : finS A sts (i :: l) = finS A (sts.set i ((sts.getD i default).fin (A.getD i false))) l := rfl
    rw [e, finS_len, List.length_set]
/-- A step: the stations, and how many frames have been sent. -/
def step (lost : Int → Bool) (sts : List St) (f : Int) : List St × Int :=
  let ask := askS sts sts.length
  let s := an3 lost sts (f + ask.length, List.replicate sts.length false) (hearS lost ask f)
  (finS s.2 sts ask, s.1)
/-- What holds of a station at all times. -/
structure St.Ok (s : St) : Prop where
  k : 0 ≤ s.k ∧ s.k ≤ 253
  sent : 0 ≤ s.sent ∧ s.sent ≤ 8
  state : s.state = 0 ∨ s.state = 1 ∨ s.state = 2
  node : 0 ≤ s.node ∧ s.node ≤ 253
  go : s.state = 1 → s.k < 253 ∧ s.sent < 8 ∧ s.on = true
  wf : ∀ x ∈ s.row, -9223372036854775808 ≤ x ∧ x ≤ 9223372036854775807
  len : s.row.length < 2 ^ 40
theorem St.Ok.fin {s : St} (h : s.Ok) (h1 : s.state = 1) (a : Bool) : (s.fin a).Ok := by
  have h2 := h.go h1
  have h3 := guess_bd (row := s.row) h.k.1
  unfold St.fin
  split
  · have hk := h.k
    refine ⟨⟨by simp only; omega, by simp only; omega⟩, ⟨by simp, by simp⟩, ?_, h.node, ?_, h.wf, h.len⟩
    · simp only; split
      · exact .inl rfl
      · exact h.state
    · simp only
      split
      · intro h; cases h
      · intro _; exact ⟨by omega, by omega, h2.2.2⟩
  · have hs := h.sent
    split
    · exact ⟨h.k, ⟨by simp, by simp⟩, .inr (.inr rfl), ⟨by simp only [St.gs]; omega, by simp only [St.gs]; omega⟩, (fun hh => by cases hh), h.wf, h.len⟩
    · exact ⟨h.k, ⟨by simp only; omega, by simp only; omega⟩, h.state, h.node, fun _ => ⟨h2.1, by simp only; omega, h2.2.2⟩, h.wf, h.len⟩

end
section
open Go Go.AM Go.Proofs
theorem k_bool {K : AV → AHeap → Prop} {H : AHeap} {b c : Bool} (h : K (.d (.bool b)) H) (e : c = b) : K (.d (.bool c)) H := e ▸ h
theorem k_int {K : AV → AHeap → Prop} {H : AHeap} {b c : Int} (h : K (.d (.int .i64 b)) H) (e : c = b) : K (.d (.int .i64 c)) H := e ▸ h
def ints (l : List Int) : List (List Dat) := l.map fun n => [.int .i64 n]
theorem ints_len {l : List Int} : (ints l).length = l.length := by simp [ints]
theorem ints_get {l : List Int} {j : Nat} (h : j < l.length) : (ints l)[j]? = some [.int .i64 (l.getD j 0)] := by simp [ints, h, List.getD_eq_getElem?_getD]
theorem ints_app {a b : List Int} : ints (a ++ b) = ints a ++ ints b := by simp [ints]
theorem ints_1 {l : List Int} : ∀ c ∈ ints l, c.length = 1 := by simp [ints]
def St.cells (s : St) : List AV := [.d (.sl s.rn (ints s.row)), .d (.bool s.on), .d (.int .i64 s.state), .d (.int .i64 s.k), .d (.int .i64 s.sent), .d (.int .i64 s.node)]
abbrev sObj (s : St) : AObj := .mem 0 0 6 [s.cells]
structure Sts (H : AHeap) (sv : AV) (ids : List Nat) (sts : List St) : Prop where
  len : ids.length = sts.length
  nd : ids.Nodup
  obj : ∀ j, j < sts.length → H (ids.getD j 0) = some (sObj (sts.getD j default))
  sl : (sts = [] ∧ sv = .d (.sl true [])) ∨ ∃ i ver L, sv = .rs i ver 1 0 sts.length ∧ H i = some (.mem ver 0 1 L) ∧ L.take sts.length = ids.map (fun p => [.ptr p 0 0 0]) ∧ sts.length ≤ L.length
  ok : ∀ s ∈ sts, s.Ok
  n40 : sts.length ≤ 40
theorem Sts.mem {H : AHeap} {sv : AV} {ids : List Nat} {sts : List St} (h : Sts H sv ids sts) {j : Nat} (hj : j < sts.length) : ids.getD j 0 ∈ ids := by
  have : j < ids.length := by rw [h.len]; exact hj
  rw [List.getD_eq_getElem?_getD, List.getElem?_eq_getElem this]
  exact List.getElem_mem this
theorem Sts.okj {H : AHeap} {sv : AV} {ids : List Nat} {sts : List St} (h : Sts H sv ids sts) {j : Nat} (hj : j < sts.length) : (sts.getD j default).Ok := by
  refine h.ok _ ?_
  rw [List.getD_eq_getElem?_getD, List.getElem?_eq_getElem hj]
  exact List.getElem_mem hj
theorem Sts.lenS {H : AHeap} {sv : AV} {ids : List Nat} {sts : List St} (h : Sts H sv ids sts) : lenSl sv = some (.d (.int .i64 sts.length)) := by
  rcases h.sl with ⟨rfl, rfl⟩ | ⟨i, ver, L, rfl, _⟩ <;> rfl
theorem Sts.aggs {H : AHeap} {sv : AV} {ids : List Nat} {sts : List St} (h : Sts H sv ids sts) : aggL sv = [] := by
  rcases h.sl with ⟨rfl, rfl⟩ | ⟨i, ver, L, rfl, _⟩ <;> rfl
theorem Sts.ix {H : AHeap} {sv : AV} {ids : List Nat} {sts : List St} (h : Sts H sv ids sts) {j : Nat} (hj : j < sts.length) : ∃ p, indexAddrA ti154 1 sv (.d (.int .i64 (j : Int))) = some p ∧ ldV false 1 p H = some (.ptr (ids.getD j 0) 0 0 0) := by
  rcases h.sl with ⟨rfl, rfl⟩ | ⟨i, ver, L, rfl, h1, h2, h3⟩
  · simp at hj
  · refine ⟨_, idx_rs (e := 160) rfl (by omega) (by omega), ?_⟩
    have hL : L[j]? = some [.ptr (ids.getD j 0) 0 0 0] := by
      have : (L.take sts.length)[j]? = L[j]? := List.getElem?_take_of_lt hj
      rw [← this, h2, List.getElem?_map, List.getD_eq_getElem?_getD, List.getElem?_eq_getElem (by rw [h.len]; exact hj)]
      rfl
    simp only [ldV_get, getM_of h1, ldM, Int.toNat_natCast, hL, partV, List.drop_zero, List.take_succ_cons, List.take_zero, List.length_cons, List.length_nil, if_true, Bool.false_eq_true, if_false]
theorem Sts.keep {H H' : AHeap} {sv : AV} {ids : List Nat} {sts : List St} (h : Sts H sv ids sts) (h1 : ∀ i, idOf sv = some i → H' i = H i) (h2 : ∀ i ∈ ids, H' i = H i) : Sts H' sv ids sts := by
  refine ⟨h.len, h.nd, fun j hj => by rw [h2 _ (h.mem hj)]; exact h.obj j hj, ?_, h.ok, h.n40⟩
  rcases h.sl with h3 | ⟨i, ver, L, rfl, h3, h4⟩
  · exact .inl h3
  · exact .inr ⟨i, ver, L, rfl, by rw [h1 i rfl]; exact h3, h4⟩
/-- What lies there: of a bus. -/
structure BusAt (H : AHeap) (k : Nat) (ln : Bool) (lost : List Int) (sv : AV) (ids : List Nat) (sts : List St) (f : Int) : Prop where
  node : H k = some (.mem 0 0 4 [[.d (.bool true), .d (.sl ln (ints lost)), sv, .d (.int .i64 f)]])
  sts : Sts H sv ids sts
theorem Sts.isS {H : AHeap} {sv : AV} {ids : List Nat} {sts : List St} (h : Sts H sv ids sts) {i : Nat} (hi : idOf sv = some i ∨ i ∈ ids) : (H i).isSome := by
  rcases hi with hi | hi
  · rcases h.sl with ⟨rfl, rfl⟩ | ⟨j, ver, L, rfl, h3, h4⟩
    · cases hi
    · cases hi; rw [h3]; rfl
  · obtain ⟨j, hj, rfl⟩ := List.mem_iff_getElem.1 hi
    have := h.obj j (by rw [← h.len]; exact hj)
    rw [List.getD_eq_getElem?_getD, List.getElem?_eq_getElem hj] at this
    simp only [Option.getD_some] at this
    rw [this]; rfl
theorem Sts.le {H H' : AHeap} {sv : AV} {ids : List Nat} {sts : List St} (h : Sts H sv ids sts) (hle : AHeap.le H H') : Sts H' sv ids sts := by
  have e : ∀ i, (H i).isSome → H' i = H i := fun i hi => by
    cases hh : H i with
    | none => rw [hh] at hi; cases hi
    | some o => rw [hle i o hh]
  exact h.keep (fun i hi => e i (h.isS (.inl hi))) fun i hi => e i (h.isS (.inr hi))
theorem BusAt.le {H H' : AHeap} {k : Nat} {ln : Bool} {lost : List Int} {sv : AV} {ids : List Nat} {sts : List St} {f : Int} (h : BusAt H k ln lost sv ids sts f) (hle : AHeap.le H H') : BusAt H' k ln lost sv ids sts f := ⟨hle _ _ h.node, h.sts.le hle⟩
/-- The objects of a bus. -/
def foot (k : Nat) (sv : AV) (ids : List Nat) (j : Nat) : Prop := j = k ∨ idOf sv = some j ∨ j ∈ ids
theorem BusAt.foot {H : AHeap} {k : Nat} {ln : Bool} {lost : List Int} {sv : AV} {ids : List Nat} {sts : List St} {f : Int} (h : BusAt H k ln lost sv ids sts f) {j : Nat} (hj : foot k sv ids j) : (H j).isSome := by
  rcases hj with rfl | hj
  · rw [h.node]; rfl
  · exact h.sts.isS hj
theorem BusAt.keep {H H' : AHeap} {k : Nat} {ln : Bool} {lost : List Int} {sv : AV} {ids : List Nat} {sts : List St} {f : Int} (h : BusAt H k ln lost sv ids sts f) (hk : ∀ j, Ytgnnkpgceahjdaa.foot k sv ids j → H' j = H j) : BusAt H' k ln lost sv ids sts f :=
  ⟨by rw [hk k (.inl rfl)]; exact h.node, h.sts.keep (fun i hi => hk i (.inr (.inl hi))) fun i hi => hk i (.inr (.inr hi))⟩
theorem BusAt.kne {H : AHeap} {k : Nat} {ln : Bool} {lost : List Int} {sv : AV} {ids : List Nat} {sts : List St} {f : Int} (h : BusAt H k ln lost sv ids sts f) : (∀ i, idOf sv = some i → i ≠ k) ∧ k ∉ ids := by
  refine ⟨fun i hi he => ?_, fun hm => ?_⟩
  · subst he
    rcases h.sts.sl with ⟨_, rfl⟩ | ⟨j, ver, L, rfl, h3, h4⟩
    · cases hi
    · cases hi; rw [h.node] at h3; cases h3
  · obtain ⟨j, hj, he⟩ := List.mem_iff_getElem.1 hm
    have := h.sts.obj j (by rw [← h.sts.len]; exact hj)
    rw [List.getD_eq_getElem?_getD, List.getElem?_eq_getElem hj, he] at this
    simp only [Option.getD_some] at this
    rw [h.node] at this; cases this
theorem Sts.sne {H : AHeap} {sv : AV} {ids : List Nat} {sts : List St} (h : Sts H sv ids sts) {i : Nat} (hi : idOf sv = some i) : i ∉ ids := fun hm => by
  rcases h.sl with ⟨_, rfl⟩ | ⟨j, ver, L, rfl, h3, h4⟩
  · cases hi
  · cases hi
    obtain ⟨j, hj, he⟩ := List.mem_iff_getElem.1 hm
    have := h.obj j (by rw [← h.len]; exact hj)
    rw [List.getD_eq_getElem?_getD, List.getElem?_eq_getElem hj, he] at this
    simp only [Option.getD_some] at this
    rw [h3] at this; cases this
theorem getD_inj {ids : List Nat} (h : ids.Nodup) {i j : Nat} (hi : i < ids.length) (hj : j < ids.length) (he : ids.getD i 0 = ids.getD j 0) : i = j := by
  rw [List.getD_eq_getElem?_getD, List.getD_eq_getElem?_getD, List.getElem?_eq_getElem hi, List.getElem?_eq_getElem hj] at he
  simp only [Option.getD_some] at he
  exact (List.getElem_inj h).1 he
theorem getD_set_self {sts : List St} {j : Nat} {s : St} (h : j < sts.length) : (sts.set j s).getD j default = s := by
  rw [List.getD_eq_getElem?_getD, List.getElem?_set_self h]; rfl
theorem getD_set_ne {sts : List St} {i j : Nat} {s : St} (h : j ≠ i) : (sts.set j s).getD i default = sts.getD i default := by
  rw [List.getD_eq_getElem?_getD, List.getElem?_set_ne h, ← List.getD_eq_getElem?_getD]
/-- One station is changed. -/
theorem Sts.put {H : AHeap} {sv : AV} {ids : List Nat} {sts : List St} (h : Sts H sv ids sts) {j : Nat} (hj : j < sts.length) {s : St} (hs : s.Ok) : Sts (H.set (ids.getD j 0) (sObj s)) sv ids (sts.set j s) := by
  have hm := h.mem hj
  refine ⟨by rw [List.length_set]; exact h.len, h.nd, fun i hi => ?_, ?_, fun x hx => ?_, by rw [List.length_set]; exact h.n40⟩
  · rw [List.length_set] at hi
    by_cases he : i = j
    · subst he
      rw [set_self, getD_set_self hj]
    · have hne : ids.getD i 0 ≠ ids.getD j 0 := fun hh => he (getD_inj h.nd (by rw [h.len]; exact hi) (by rw [h.len]; exact hj) hh)
      rw [set_ne hne, getD_set_ne (Ne.symm he)]
      exact h.obj i hi
  · rcases h.sl with ⟨rfl, _⟩ | ⟨i, ver, L, rfl, h3, h4, h5⟩
    · simp at hj
    · refine .inr ⟨i, ver, L, by rw [List.length_set], ?_, by rw [List.length_set]; exact h4, by rw [List.length_set]; exact h5⟩
      rw [set_ne]
      · exact h3
      · intro he; exact h.sne (i := i) rfl (he ▸ hm)
  · rcases List.mem_or_eq_of_mem_set hx with hx | rfl
    · exact h.ok x hx
    · exact hs
theorem BusAt.put {H : AHeap} {k : Nat} {ln : Bool} {lost : List Int} {sv : AV} {ids : List Nat} {sts : List St} {f : Int} (h : BusAt H k ln lost sv ids sts f) {j : Nat} (hj : j < sts.length) {s : St} (hs : s.Ok) : BusAt (H.set (ids.getD j 0) (sObj s)) k ln lost sv ids (sts.set j s) f :=
  ⟨by rw [set_ne (fun he : k = ids.getD j 0 => h.kne.2 (he ▸ h.sts.mem hj))]; exact h.node, h.sts.put hj hs⟩
theorem nilP_eql {i v e o : Nat} : nilA 3 .eql (.ptr i v e o) .nilptr = some (.d (.bool false)) := rfl
theorem nilP_neq {i v e o : Nat} : nilA 3 .neq (.ptr i v e o) .nilptr = some (.d (.bool true)) := rfl
theorem nilCk_ptr {i v e o : Nat} : nilCkA (.ptr i v e o) = some (.ptr i v e o) := rfl
theorem guess_c {H : AHeap} {p : Nat} {s : St} (hp : H p = some (sObj s)) (hk : 0 ≤ s.k ∧ s.k ≤ 253) (hlen : s.row.length < 2 ^ 40) {K : AV → AHeap → Prop} (h : K (.d (.int .i64 s.gs)) H) : CallsA Try.prog 151 [.ptr p 0 0 0] H K := by
  apply C151
  unfold S151
  simp only [nilCk_ptr, ti162_f0, ti162_f3, getM_of hp, St.cells, ints_len, go_sem]
  unfold St.gs guess at h
  split
  · rename_i h0
    have hr : s.row = [] := List.eq_nil_of_length_eq_zero (by omega)
    rw [if_pos hr] at h
    simp only [intA_rem (b := 253) (by decide), go_sem]
    have hb := tmod_bd s.k
    rw [wrap_i64 (by omega) (by omega)]
    exact ⟨H, le_refl', h⟩
  · rename_i h0
    have hr : s.row ≠ [] := by rintro hr; rw [hr] at h0; simp at h0
    have hpos : 0 < s.row.length := List.length_pos_iff.2 hr
    rw [if_neg hr] at h
    have hi0 : 0 ≤ s.k.tmod (s.row.length : Int) := Int.tmod_nonneg _ hk.1
    have hi1 : s.k.tmod (s.row.length : Int) < s.row.length := Int.tmod_lt_of_pos _ (by omega)
    simp only [intA_rem (a := s.k) (b := (s.row.length : Int)) (show (s.row.length : Int) ≠ 0 by omega), go_sem]
    have hi2 : (s.k.tmod (s.row.length : Int)).toNat < s.row.length := (Int.toNat_lt hi0).2 hi1
    simp only [sl_get (ti := ti55) (e := 3) (esz := 1) rfl hi0 (ints_get hi2) rfl, List.map_cons, List.map_nil, intA_rem (b := 253) (by decide), go_sem]
    generalize hx : s.row.getD (s.k.tmod (s.row.length : Int)).toNat 0 = x at h
    have hb := tmod_bd x
    rw [wrap_i64 (n := x.tmod 253 + 253) (by omega) (by omega)]
    have hb2 := tmod_bd (x.tmod 253 + 253)
    rw [wrap_i64 (by omega) (by omega)]
    exact ⟨H, le_refl', h⟩
section
variable {H : AHeap} {k : Nat} {ln : Bool} {lost : List Int} {sv : AV} {ids : List Nat} {sts : List St} {f : Int} {K : AV → AHeap → Prop}
theorem none_c (h : BusAt H k ln lost sv ids sts f) (hk : K (.d (.bool false)) H) : CallsA Try.prog 76 [.ptr k 0 0 0] H K := by
  apply C76
  unfold S76
  simp only [nilP_eql, nilCk_ptr, ti156_f0, getM_of h.node, Bool.not_true, go_sem]
  exact ⟨H, le_refl', hk⟩
theorem has_c {i : Int} (h : BusAt H k ln lost sv ids sts f) (hk : K (.d (.bool (decide (0 ≤ i ∧ i < sts.length)))) H) : CallsA Try.prog 191 [.ptr k 0 0 0, .d (.int .i64 i)] H K := by
  apply C191
  unfold S191
  simp only [nilCk_ptr, ti156_f2, getM_of h.node, h.sts.lenS, go_sem]
  split
  · exact ⟨H, le_refl', k_bool hk (by simp; omega)⟩
  · exact ⟨H, le_refl', k_bool hk (by simp; omega)⟩
theorem asked_c {i : Int} (h : BusAt H k ln lost sv ids sts f) (hk : K (.d (.int .i64 (if 0 ≤ i ∧ i < sts.length then 0 else 2))) H) : CallsA Try.prog 150 [.ptr k 0 0 0, .d (.int .i64 i)] H K := by
  apply C150
  unfold S150
  simp only [go_sem]
  refine none_c h ?_
  simp only [go_sem]
  refine has_c h ?_
  simp only [go_sem]
  split
  · rename_i h1
    rw [if_neg h1] at hk
    exact ⟨H, le_refl', hk⟩
  · rename_i h1
    rw [if_pos (Classical.not_not.1 h1)] at hk
    exact ⟨H, le_refl', hk⟩
def nodeOf (s : St) : Int := if s.state = 1 then s.gs else if s.state = 2 then s.node else 0
def nodeB (sts : List St) (i : Int) : Int := if 0 ≤ i ∧ i < sts.length then nodeOf (sts.getD i.toNat default) else 0
def stateB (sts : List St) (i : Int) : Int := if 0 ≤ i ∧ i < sts.length then (sts.getD i.toNat default).state else -1
theorem Node_c {i : Int} (h : BusAt H k ln lost sv ids sts f) (hk : K (.d (.int .i64 (nodeB sts i))) H) : CallsA Try.prog 73 [.ptr k 0 0 0, .d (.int .i64 i)] H K := by
  apply C73
  unfold S73
  simp only [go_sem]
  refine asked_c h ?_
  unfold nodeB at hk
  simp only [go_sem]
  by_cases hi : 0 ≤ i ∧ i < sts.length
  · rw [if_pos hi] at hk ⊢
    obtain ⟨j, rfl⟩ : ∃ j : Nat, i = j := ⟨i.toNat, by omega⟩
    rw [Int.toNat_natCast] at hk
    have hj : j < sts.length := by omega
    obtain ⟨p, e1, e2⟩ := h.sts.ix hj
    have e3 := h.sts.obj j hj
    generalize ids.getD j 0 = q at *
    have hok := h.sts.okj hj
    generalize sts.getD j default = s at *
    simp only [not_true_eq_false, if_false, nilCk_ptr, ti156_f2, getM_of h.node, e1, e2, ti162_f2, ti162_f5, getM_of e3, St.cells, go_sem]
    unfold nodeOf at hk
    split
    · rename_i h1
      rw [if_pos h1] at hk
      refine guess_c e3 hok.k hok.len ?_
      simp only [go_sem]
      exact ⟨H, le_refl', hk⟩
    · rename_i h1
      rw [if_neg h1] at hk
      split
      · rename_i h2
        rw [if_pos h2] at hk
        try simp only [getM_of e3, ti162_f5, St.cells, go_sem]
        exact ⟨H, le_refl', hk⟩
      · rename_i h2
        rw [if_neg h2] at hk
        exact ⟨H, le_refl', hk⟩
  · rw [if_neg hi] at hk ⊢
    simp only [Int.reduceEq, not_false_eq_true, if_true, go_sem]
    exact ⟨H, le_refl', hk⟩
def quietB (sts : List St) : Bool := sts.all fun s => decide (s.state ≠ 1)
theorem quietB_lt {sts : List St} : quietB sts = true ↔ ∀ j, j < sts.length → (sts.getD j default).state ≠ 1 := by
  simp only [quietB, List.all_eq_true, decide_eq_true_eq]
  constructor
  · intro h j hj
    rw [List.getD_eq_getElem?_getD, List.getElem?_eq_getElem hj]
    exact h _ (List.getElem_mem hj)
  · intro h s hs
    obtain ⟨j, hj, rfl⟩ := List.mem_iff_getElem.1 hs
    have := h j hj
    rw [List.getD_eq_getElem?_getD, List.getElem?_eq_getElem hj] at this
    exact this
theorem callA_83 {args : List AV} {H : AHeap} {K : AV → AHeap → Prop} : callA (CallsA Try.prog) pol161 (.func 83 [] []) args H K = frzLK args H (fun l H' => CallsA Try.prog 83 l H' K) := by
  show argsA pol161 35 ([] ++ args ++ []) H _ = _
  rw [List.nil_append, List.append_nil]
  rfl
theorem Quiet_c (h : BusAt H k ln lost sv ids sts f) (hk : K (.d (.bool (quietB sts))) H) : CallsA Try.prog 31 [.ptr k 0 0 0] H K := by
  have hn := h.sts.n40
  apply C31
  unfold S31
  simp only [go_sem]
  refine none_c h ?_
  simp only [Bool.not_false, nilCk_ptr, ti156_f2, getM_of h.node, go_sem]
  apply C82
  unfold S82
  apply C161
  unfold S161
  simp only [h.sts.lenS, go_sem]
  refine loop_ind (fun r vs G => G = H ∧ ∃ j : Nat, j ≤ sts.length ∧ r = sts.length - j ∧ (∀ i, i < j → (sts.getD i default).state ≠ 1) ∧ vs = [sv, .func 83 [] [], .d (.int .i64 sts.length), .d (.int .i64 j)]) (n := sts.length) ⟨rfl, 0, by omega, by omega, by omega, rfl⟩ ?_
  rintro X r vs G ⟨rfl, j, hj, rfl, hno, rfl⟩ hX
  simp only [List.getD_cons_succ, List.getD_cons_zero, go_sem]
  split
  · rename_i hlt
    have hj' : j < sts.length := by omega
    obtain ⟨p, e1, e2⟩ := h.sts.ix hj'
    have e3 := h.sts.obj j hj'
    simp only [e1, e2, callA_83, go_sem]
    apply C83
    unfold S83
    simp only [nilCk_ptr, ti162_f2, getM_of e3, St.cells, go_sem]
    refine ⟨G, le_refl', ?_⟩
    simp only [go_sem]
    split
    · rename_i hyes
      refine ⟨G, le_refl', ?_⟩
      simp only [decide_eq_true (show (0 : Int) ≤ (j : Int) by omega), go_sem]
      refine ⟨G, le_refl', ?_⟩
      simp only [Bool.not_true, go_sem]
      refine ⟨G, le_refl', k_bool hk ?_⟩
      symm
      rw [← Bool.not_eq_true, quietB_lt]
      intro hh
      exact hh j hj' hyes
    · rename_i hno'
      rw [wrap_i64 (by omega) (by omega)]
      refine hX (sts.length - (j + 1)) _ _ (by omega) ⟨rfl, j + 1, by omega, rfl, fun i hi => ?_, rfl⟩
      rcases Nat.lt_succ_iff_lt_or_eq.1 hi with hi | rfl
      · exact hno i hi
      · exact hno'
  · rename_i hge
    refine ⟨G, le_refl', ?_⟩
    simp only [Int.reduceNeg, Int.reduceLE, decide_false, go_sem]
    refine ⟨G, le_refl', ?_⟩
    simp only [Bool.not_false, go_sem]
    refine ⟨G, le_refl', k_bool hk ?_⟩
    symm
    rw [quietB_lt]
    intro i hi
    exact hno i (by omega)
end

end
section
open Go Go.AM Go.Proofs
theorem less_c {a b : Int} {H : AHeap} {K : AV → AHeap → Prop} (h : K (.d (.bool (decide (a < b)))) H) : CallsA Try.prog 204 [.d (.int .i64 a), .d (.int .i64 b)] H K := by
  apply C204
  unfold S204
  simp only [go_sem]
  apply C211
  unfold S211
  simp only [ne_eq, not_true_eq_false, decide_false, go_sem]
  refine ⟨H, le_refl', ?_⟩
  simp only [go_sem]
  exact ⟨H, le_refl', h⟩
theorem wrap_u64 {n : Nat} (h : n < 2 ^ 50) : IntKind.u64.wrap (n : Int) = n := by simp [IntKind.wrap, IntKind.signed, IntKind.bits]; omega
theorem half {n : Nat} : intA .shr (.d (.int .u64 (n : Int))) (.d (.int .u64 1)) = some (.d (.int .u64 ((n / 2 : Nat) : Int))) := by
  have e2 : (n : Int).fdiv (2 ^ (min (1 : Int).toNat IntKind.u64.bits)) = ((n / 2 : Nat) : Int) := by
    have : (2 : Int) ^ (min (1 : Int).toNat IntKind.u64.bits) = 2 := rfl
    rw [this, Int.fdiv_eq_ediv_of_nonneg _ (by omega)]
    omega
  rw [intA_shr (by decide), e2]
def Rising (l : List Int) : Prop := l.Pairwise (· ≤ ·)
theorem count_at {l : List Int} {t : Int} {i : Nat} (hi : i ≤ l.length) (h1 : ∀ x, x < i → l.getD x 0 < t) (h2 : ∀ x, i ≤ x → x < l.length → t ≤ l.getD x 0) : l.countP (fun x => decide (x < t)) = i ∧ (t ∈ l ↔ i < l.length ∧ l.getD i 0 = t) → l.countP (fun x => decide (x < t)) = i := fun h => h.1
theorem getD_eq {l : List Int} {x : Nat} (h : x < l.length) : l.getD x 0 = l[x] := by rw [List.getD_eq_getElem?_getD, List.getElem?_eq_getElem h]; rfl
theorem count_eq {l : List Int} {t : Int} {i : Nat} (hi : i ≤ l.length) (h1 : ∀ x, x < i → l.getD x 0 < t) (h2 : ∀ x, i ≤ x → x < l.length → t ≤ l.getD x 0) : l.countP (fun x => decide (x < t)) = i := by
  rw [← List.take_append_drop i l, List.countP_append]
  have e1 : (l.take i).countP (fun x => decide (x < t)) = i := by
    rw [List.countP_eq_length.2, List.length_take]
    · omega
    · intro a ha
      obtain ⟨x, hx, rfl⟩ := List.mem_iff_getElem.1 ha
      rw [List.length_take] at hx
      rw [List.getElem_take]
      have := h1 x (by omega)
      rw [getD_eq (by omega)] at this
      simpa using this
  have e2 : (l.drop i).countP (fun x => decide (x < t)) = 0 := by
    rw [List.countP_eq_zero]
    intro a ha
    obtain ⟨x, hx, rfl⟩ := List.mem_iff_getElem.1 ha
    rw [List.length_drop] at hx
    rw [List.getElem_drop]
    have := h2 (i + x) (by omega) (by omega)
    rw [getD_eq (by omega)] at this
    simp; omega
  rw [e1, e2]; rfl
theorem mem_at {l : List Int} {t : Int} {i : Nat} (hr : Rising l) (hi : i ≤ l.length) (h1 : ∀ x, x < i → l.getD x 0 < t) (h2 : ∀ x, i ≤ x → x < l.length → t ≤ l.getD x 0) : t ∈ l ↔ i < l.length ∧ l.getD i 0 = t := by
  constructor
  · intro hm
    obtain ⟨x, hx, he⟩ := List.mem_iff_getElem.1 hm
    have hxi : i ≤ x := by
      rcases Nat.lt_or_ge x i with h | h
      · have := h1 x h; rw [getD_eq hx] at this; omega
      · exact h
    refine ⟨by omega, ?_⟩
    have h3 := h2 i (Nat.le_refl _) (by omega)
    rcases Nat.lt_or_ge i x with h | h
    · have := List.pairwise_iff_getElem.1 hr i x (by omega) hx h
      rw [getD_eq (by omega)] at h3 ⊢
      omega
    · have : x = i := by omega
      subst this
      rw [getD_eq hx]; exact he
  · rintro ⟨h3, h4⟩
    rw [getD_eq h3] at h4
    exact h4 ▸ List.getElem_mem h3
theorem search_c {nl : Bool} {l : List Int} {t : Int} (hr : Rising l) (hl : l.length < 2 ^ 40) {H : AHeap} {K : AV → AHeap → Prop} (h : K (.tup [.d (.int .i64 (l.countP fun x => decide (x < t))), .d (.bool (decide (t ∈ l)))]) H) : CallsA Try.prog 162 [.d (.sl nl (ints l)), .d (.int .i64 t)] H K := by
  apply C162
  unfold S162
  simp only [ints_len, go_sem]
  refine loop_ind (fun r vs G => G = H ∧ ∃ i j : Nat, i ≤ j ∧ j ≤ l.length ∧ r = j - i ∧ (∀ x, x < i → l.getD x 0 < t) ∧ (∀ x, j ≤ x → x < l.length → t ≤ l.getD x 0) ∧ vs = [.d (.sl nl (ints l)), .d (.int .i64 t), .d (.int .i64 l.length), .d (.int .i64 i), .d (.int .i64 j)]) (n := l.length) ⟨rfl, 0, l.length, by omega, by omega, by omega, by omega, by omega, rfl⟩ ?_
  rintro X r vs G ⟨rfl, i, j, hij, hj, rfl, h1, h2, rfl⟩ hX
  simp only [List.getD_cons_succ, List.getD_cons_zero, go_sem]
  split
  · rename_i hlt
    have hij' : i < j := by omega
    rw [wrap_i64 (n := (i : Int) + (j : Int)) (by omega) (by omega), show (i : Int) + (j : Int) = ((i + j : Nat) : Int) by omega, wrap_u64 (n := i + j) (by omega)]
    have hm : (i + j) / 2 < l.length := by omega
    simp only [half (n := i + j), go_sem]
    rw [wrap_i64 (n := (((i + j) / 2 : Nat) : Int)) (by omega) (by omega)]
    simp only [sl_get (ti := ti55) (e := 3) (esz := 1) rfl (by omega : (0 : Int) ≤ (((i + j) / 2 : Nat) : Int)) (by rw [Int.toNat_natCast]; exact ints_get hm) rfl, List.map_cons, List.map_nil, go_sem]
    refine less_c ?_
    have mono : ∀ x y, x ≤ y → y < l.length → l.getD x 0 ≤ l.getD y 0 := fun x y hxy hy => by
      rw [getD_eq (by omega), getD_eq hy]
      rcases Nat.lt_or_ge x y with h | h
      · exact List.pairwise_iff_getElem.1 hr x y (by omega) hy h
      · have : x = y := by omega
        subst this; exact Int.le_refl _
    simp only [go_sem]
    split
    · rename_i hl1
      rw [wrap_i64 (by omega) (by omega)]
      refine hX (j - ((i + j) / 2 + 1)) _ _ (by omega) ⟨rfl, (i + j) / 2 + 1, j, by omega, hj, rfl, fun x hx => ?_, h2, rfl⟩
      have := mono x ((i + j) / 2) (by omega) hm
      omega
    · rename_i hl1
      refine hX ((i + j) / 2 - i) _ _ (by omega) ⟨rfl, i, (i + j) / 2, by omega, by omega, rfl, h1, fun x hx hxl => ?_, rfl⟩
      have := mono ((i + j) / 2) x hx hxl
      omega
  · rename_i hge
    have : j = i := by omega
    subst this
    have hc := count_eq hj h1 h2
    have hm := mem_at hr hj h1 h2
    rw [hc] at h
    split
    · rename_i hlt
      have hj' : j < l.length := by omega
      simp only [sl_get (ti := ti55) (e := 3) (esz := 1) rfl (by omega : (0 : Int) ≤ (j : Int)) (by rw [Int.toNat_natCast]; exact ints_get hj') rfl, List.map_cons, List.map_nil, go_sem]
      split
      · rename_i he
        rw [decide_eq_true (hm.2 ⟨hj', he⟩)] at h
        exact ⟨G, le_refl', h⟩
      · rename_i he
        try simp only [sl_get (ti := ti55) (e := 3) (esz := 1) rfl (by omega : (0 : Int) ≤ (j : Int)) (by rw [Int.toNat_natCast]; exact ints_get hj') rfl, List.map_cons, List.map_nil, go_sem]
        apply C205
        unfold S205
        simp only [ne_eq, not_true_eq_false, decide_false, go_sem]
        refine ⟨G, le_refl', ?_⟩
        simp only [go_sem]
        rw [decide_eq_false (fun hh => he (hm.1 hh).2)] at h
        exact ⟨G, le_refl', h⟩
    · rename_i hge2
      rw [decide_eq_false (fun hh => hge2 (by have := (hm.1 hh).1; omega))] at h
      exact ⟨G, le_refl', h⟩
def lostB (lost : List Int) (f : Int) : Bool := decide (f ∈ lost)
section
variable {H : AHeap} {k : Nat} {ln : Bool} {lost : List Int} {sv : AV} {ids : List Nat} {sts : List St} {f : Int} {K : AV → AHeap → Prop}
theorem frame_c (h : BusAt H k ln lost sv ids sts f) (hr : Rising lost) (hl : lost.length < 2 ^ 40) (hf : 0 ≤ f ∧ f < 2 ^ 40) (hk : ∀ H', BusAt H' k ln lost sv ids sts (f + 1) → (∀ i, i ≠ k → H' i = H i) → K (.d (.bool (!lostB lost f))) H') : CallsA Try.prog 84 [.ptr k 0 0 0] H K := by
  apply C84
  unfold S84
  simp only [nilCk_ptr, ti156_f1, ti156_f3, getM_of h.node, go_sem]
  refine ⟨_, search_c hr hl ⟨rfl, le_refl'⟩, ?_⟩
  simp only [nilCk_ptr, ti156_f3, getM_of h.node, stoA_agg, stoA_get, stoM, setCells, and_self, true_and, Nat.le_refl, Nat.reduceLeDiff, List.cons_append, List.set_cons_zero, List.getElem?_cons_zero, go_sem]
  rw [wrap_i64 (n := f + 1) (by omega) (by omega)]
  refine ⟨_, le_refl', hk _ ⟨set_self, h.sts.keep (fun i hi => set_ne (h.kne.1 i hi)) fun i hi => set_ne fun he => h.kne.2 (he ▸ hi)⟩ fun i hi => set_ne hi⟩
theorem answers_c {i o : Nat} (h : BusAt H k ln lost sv ids sts f) (hi : i < sts.length) (ho : o < sts.length) (hk : K (.d (.bool (ans sts i o))) H) : CallsA Try.prog 85 [.ptr k 0 0 0, .d (.int .i64 (i : Int)), .d (.int .i64 (o : Int))] H K := by
  apply C85
  unfold S85
  obtain ⟨p, e1, e2⟩ := h.sts.ix hi
  have e3 := h.sts.obj i hi
  obtain ⟨q, f1, f2⟩ := h.sts.ix ho
  have f3 := h.sts.obj o ho
  have ok1 := h.sts.okj hi
  have ok2 := h.sts.okj ho
  unfold ans at hk
  generalize ids.getD i 0 = x at *
  generalize ids.getD o 0 = y at *
  generalize sts.getD i default = s at *
  generalize sts.getD o default = t at *
  simp only [nilCk_ptr, ti156_f2, getM_of h.node, e1, e2, f1, f2, go_sem]
  split
  · rename_i hio
    simp only [show i = o by omega, true_or, if_true] at hk
    exact ⟨H, le_refl', hk⟩
  rename_i hio
  have hio' : i ≠ o := fun he => hio (by rw [he])
  simp only [hio', false_or] at hk
  try simp only [nilCk_ptr, ti162_f1, getM_of e3, St.cells, go_sem]
  split
  · rename_i hon
    rw [if_pos hon] at hk
    exact ⟨H, le_refl', hk⟩
  rename_i hon
  rw [if_neg hon] at hk
  try simp only [nilCk_ptr, ti162_f2, getM_of e3, St.cells, go_sem]
  split
  · rename_i h2
    rw [if_pos h2] at hk
    try simp only [nilCk_ptr, ti162_f5, getM_of e3, St.cells, go_sem]
    refine ⟨_, guess_c f3 ok2.k ok2.len ⟨rfl, le_refl'⟩, ?_⟩
    simp only [go_sem]
    exact ⟨H, le_refl', hk⟩
  rename_i h2
  rw [if_neg h2] at hk
  try simp only [nilCk_ptr, ti162_f2, getM_of e3, St.cells, go_sem]
  split
  · rename_i h1
    rw [if_pos h1] at hk
    try simp only [go_sem]
    refine ⟨_, guess_c e3 ok1.k ok1.len ⟨rfl, le_refl'⟩, ?_⟩
    try simp only [go_sem]
    refine ⟨_, guess_c f3 ok2.k ok2.len ⟨rfl, le_refl'⟩, ?_⟩
    simp only [nilCk_ptr, ti162_f4, getM_of e3, getM_of f3, St.cells, go_sem]
    split
    · rename_i hg
      split
      · rename_i hs
        exact ⟨H, le_refl', k_bool hk (by simp; omega)⟩
      · rename_i hs
        split
        · rename_i he
          exact ⟨H, le_refl', k_bool hk (by rw [decide_eq_decide]; omega)⟩
        · rename_i he
          exact ⟨H, le_refl', k_bool hk (by symm; simp only [decide_eq_false_iff_not]; omega)⟩
    · rename_i hg
      exact ⟨H, le_refl', k_bool hk (by symm; simp only [decide_eq_false_iff_not]; omega)⟩
  · rename_i h1
    rw [if_neg h1] at hk
    exact ⟨H, le_refl', hk⟩
theorem end_c {p : Nat} {s : St} {a : Bool} (hp : H p = some (sObj s)) (ho : s.Ok) (h1 : s.state = 1) (hk : K (.tup []) (H.set p (sObj (s.fin a)))) : CallsA Try.prog 86 [.ptr p 0 0 0, .d (.bool a)] H K := by
  have hg := ho.go h1
  have hkk := ho.k
  have hss := ho.sent
  apply C86
  unfold S86
  unfold St.fin at hk
  simp only [go_sem]
  cases a with
  | true =>
    simp only [if_true] at hk
    simp only [if_true, nilCk_ptr, ti162_f2, ti162_f3, ti162_f4, getM_of hp, St.cells, stoA_agg, stoA_get, stoM, setCells, and_self, true_and, Nat.le_refl, Nat.reduceLeDiff, List.cons_append, List.set_cons_zero, List.getElem?_cons_zero, List.take_succ_cons, List.take_zero, List.drop_succ_cons, List.drop_zero, go_sem]
    rw [wrap_i64 (n := s.k + 1) (by omega) (by omega)]
    split
    · rename_i h3
      rw [if_pos h3] at hk
      try simp only [stoA_agg, stoA_get, stoM, setCells, and_self, true_and, Nat.le_refl, Nat.reduceLeDiff, List.cons_append, List.set_cons_zero, List.getElem?_cons_zero, List.take_succ_cons, List.take_zero, List.drop_succ_cons, List.drop_zero, go_sem]
      exact ⟨_, le_refl', hk⟩
    · rename_i h3
      rw [if_neg h3] at hk
      exact ⟨_, le_refl', hk⟩
  | false =>
    simp only [Bool.false_eq_true, if_false] at hk
    simp only [Bool.false_eq_true, if_false, nilCk_ptr, ti162_f2, ti162_f4, getM_of hp, St.cells, stoA_agg, stoA_get, stoM, setCells, and_self, true_and, Nat.le_refl, Nat.reduceLeDiff, List.cons_append, List.set_cons_zero, List.getElem?_cons_zero, List.take_succ_cons, List.take_zero, List.drop_succ_cons, List.drop_zero, go_sem]
    rw [wrap_i64 (n := s.sent + 1) (by omega) (by omega)]
    split
    · rename_i h3
      rw [if_pos h3] at hk
      try simp only [go_sem]
      have hg2 : (H.set p (.mem 0 0 6 [[.d (.sl s.rn (ints s.row)), .d (.bool s.on), .d (.int .i64 s.state), .d (.int .i64 s.k), .d (.int .i64 (s.sent + 1)), .d (.int .i64 s.node)]])) p = some (sObj { s with sent := s.sent + 1 }) := set_self
      refine guess_c hg2 ho.k ho.len ?_
      simp only [nilCk_ptr, ti162_f2, ti162_f5, getM_of hg2, St.cells, stoA_agg, stoA_get, stoM, setCells, and_self, true_and, Nat.le_refl, Nat.reduceLeDiff, List.cons_append, List.set_cons_zero, List.getElem?_cons_zero, List.take_succ_cons, List.take_zero, List.drop_succ_cons, List.drop_zero, go_sem]
      rw [show s.sent + 1 = 8 from h3]
      exact ⟨_, le_refl', hk⟩
    · rename_i h3
      rw [if_neg h3] at hk
      exact ⟨_, le_refl', hk⟩
end

end
section
open Go Go.AM Go.Proofs
def nats (l : List Nat) : List Int := l.map fun (n : Nat) => (n : Int)
theorem nats_len {l : List Nat} : (nats l).length = l.length := by simp [nats]
def bls (l : List Bool) : List (List Dat) := l.map fun b => [.bool b]
theorem bls_len {l : List Bool} : (bls l).length = l.length := by simp [bls]
theorem no_le {H : AHeap} : AHeap.le noHeap H := fun i o h => by cases h
abbrev Mine (H : AHeap) (v : AV) (l : List (List Dat)) : Prop := Gr noHeap 1 H v l
theorem Mine.keep {H H' : AHeap} {v : AV} {l : List (List Dat)} (h : Mine H v l) (hk : ∀ i, idOf v = some i → H' i = H i) : Mine H' v l := Gr.keep h no_le hk fun _ _ _ => rfl
theorem Mine.obj {H : AHeap} {v : AV} {l : List (List Dat)} (h : Mine H v l) {i : Nat} (hi : idOf v = some i) : (H i).isSome := by
  obtain ⟨⟨ver, L, g⟩, _⟩ := Gr.obj h hi
  rw [g]; rfl
theorem bs3_1 {x : Dat} {H : AHeap} {n : Nat} : bsA ti3 1 [0] [.d x] H n = some (.lit [[x]], []) := rfl
theorem one_more {H : AHeap} {v : AV} {l : List Int} {n : Int} (h : Mine H v (ints l)) (hl : l.length < 2 ^ 40) {K : AV → AHeap → Prop} (hk : ∀ v' H', Mine H' v' (ints (l ++ [n])) → (∀ i, (H i).isSome → idOf v ≠ some i → H' i = H i) → (∀ i, idOf v' = some i → idOf v = some i ∨ H i = none) → K v' H') : newK H (fun m => apA 1 8 v (.lit [[.int .i64 n]]) H m) K := by
  refine Gr.app h (ys := [[.int .i64 n]]) rfl (by omega) (by omega) (by simp) (by rw [ints_len]; simp [mostBytes]; omega) fun v' H' h1 h2 h3 _ => hk v' H' ?_ h2 h3
  rw [ints_app]
  exact h1
theorem gr_get {H : AHeap} {v : AV} {l : List (List Dat)} {j : Nat} {x : Dat} (h : Mine H v l) {ti : TI} {e : Nat} (hk : ti.k = .slice e) (hx : l[j]? = some [x]) : ∃ p, indexAddrA ti 1 v (.d (.int .i64 (j : Int))) = some p ∧ ldV false 1 p H = some (.d x) := by
  obtain ⟨i, ver, L, rfl, g1, g2, g3⟩ := Gr.ix h (j := (j : Int)) hk (by omega) (by rw [Int.toNat_natCast]; exact hx)
  rw [Int.toNat_natCast] at g1 g3
  refine ⟨_, g1, ?_⟩
  simp only [ldV_get, g2, ldM, g3, partV, List.map_cons, List.map_nil, List.drop_zero, List.take_succ_cons, List.take_zero, List.length_cons, List.length_nil, if_true, Bool.false_eq_true, if_false]
theorem bls_put {H : AHeap} {v : AV} {m : List Bool} {b : Nat} {u : Bool} (h : Mine H v (bls m)) (h1 : b < m.length) {ti : TI} {e : Nat} (hk : ti.k = .slice e) :
    ∃ i ver o, idOf v = some i ∧ indexAddrA ti 1 v (.d (.int .i64 (b : Int))) = some (.ptr i ver b 0) ∧ stoA false 1 (.ptr i ver b 0) (.d (.bool u)) H = some (.junk, [(i, o)]) ∧ Mine (H.set i o) v (bls (m.set b u)) := by
  have hc : (bls m)[b]? = some [.bool m[b]] := by simp [bls, h1]
  obtain ⟨i, ver, L, rfl, g1, g2, g3⟩ := Gr.ix h (j := (b : Int)) hk (by omega) (by rw [Int.toNat_natCast]; exact hc)
  rw [Int.toNat_natCast] at g1
  obtain ⟨o, g4, g5⟩ := Gr.put h (off := 0) (y := .bool u) hc (by simp)
  refine ⟨i, ver, o, rfl, g1, g4, ?_⟩
  have e : (bls m).set b ([Dat.bool m[b]].set 0 (.bool u)) = bls (m.set b u) := by simp [bls, List.map_set]
  rw [e] at g5
  exact g5
theorem make_c {n : Nat} (h1 : n ≤ 300) {H : AHeap} {K : AV → AHeap → Prop} (h : ∀ v i H', idOf v = some i → H i = none → AHeap.le H H' → Mine H' v (bls (List.replicate n false)) → K v H') : newK H (fun n5 => mkSlA ti4 (.d (.int .i64 n)) (.d (.int .i64 n)) n5) K := by
  intro m hm
  have e : mkSlA ti4 (.d (.int .i64 n)) (.d (.int .i64 n)) m = some (.rs m 0 1 0 n, [(m, .mem 0 0 1 (repl n [.d (.bool false)]))]) := by
    have e1 : ti4.bytes = 1 := by kernel_rfl
    have e2 : ti4.size = 1 := rfl
    have e3 : ti4.zero = [.d (.bool false)] := rfl
    simp only [mkSlA, e1, e2, e3]
    rw [if_pos (by unfold mostBytes; omega)]
    simp
  simp only [e, stepK, optA, AHeap.sets]
  have hr : repl n [AV.d (.bool false)] = avs (bls (List.replicate n false)) := by simp [repl, avs, bls]
  rw [hr]
  have hl : n = (bls (List.replicate n false)).length := by simp [bls]
  conv => arg 1; rw [hl]
  exact h _ m _ rfl hm (le_set le_refl' hm) (Gr.rs no_le (by simp [bls]) set_self (by rw [← avs_length]; exact List.take_length) (by rw [avs_length]; exact Nat.le_refl _) rfl)
section
variable {H : AHeap} {k : Nat} {ln : Bool} {lost : List Int} {sv : AV} {ids : List Nat} {sts : List St} {f : Int} {K : AV → AHeap → Prop}
theorem BusAt.now (h : BusAt H k ln lost sv ids sts f) {G : AHeap} {f' : Int} (hn : G k = some (.mem 0 0 4 [[.d (.bool true), .d (.sl ln (ints lost)), sv, .d (.int .i64 f')]])) (hf : ∀ i, (H i).isSome → i ≠ k → G i = H i) : BusAt G k ln lost sv ids sts f' :=
  ⟨hn, h.sts.keep (fun i hi => hf i (h.sts.isS (.inl hi)) (h.kne.1 i hi)) fun i hi => hf i (h.sts.isS (.inr hi)) fun he => h.kne.2 (he ▸ hi)⟩
theorem step_tail (h : BusAt H k ln lost sv ids sts f) {G : AHeap} {va v : AV} {A : List Bool} {f2 : Int} {l : List Nat} (hG : BusAt G k ln lost sv ids sts f2) (hfr : ∀ i, (H i).isSome → i ≠ k → G i = H i) (hA : Mine G va (bls A)) (hv : Mine G v (ints (nats l))) (hvF : ∀ i, idOf v = some i → H i = none) (haF : ∀ i, idOf va = some i → H i = none) (hAl : A.length = sts.length)
    (hl : l = askS sts sts.length) (hk : ∀ H', BusAt H' k ln lost sv ids (finS A sts l) f2 → (∀ i, (H i).isSome → ¬ foot k sv ids i → H' i = H i) → K (.d (.int .i64 0)) H') {u0 u4 u5 u6 u7 u8 u9 u10 u11 u12 : AV} :
    loopA (fun X76 l77 H78 => optA (intA .lss (l77.getD 15 .junk) (l77.getD 14 .junk)) fun v79 => ifA v79 (optA (indexAddrA ti55 1 (l77.getD 13 .junk) (l77.getD 15 .junk)) fun v80 => optA (ldV false 1 v80 H78) fun v81 => drA true (optA (nilCkA (l77.getD 0 .junk)) fun v82 => optA (fieldA ti156 v82 2) fun v83 => optA (ldV false 1 v83 H78) fun v84 => optA (indexAddrA ti154 1 v84 v81) fun v85 => optA (ldV false 1 v85 H78) fun v86 => optA (indexAddrA ti53 1 (l77.getD 3 .junk) v81) fun v87 => optA (ldV false 1 v87 H78) fun v88 => frzLK [v86, v88] H78 fun l91 H92 => (CallsA Try.prog) 86 l91 H92 fun v89 H90 => optA (intA .add (l77.getD 15 .junk) (.d (.int .i64 1))) fun v93 => X76 [l77.getD 0 .junk, l77.getD 1 .junk, l77.getD 2 .junk, l77.getD 3 .junk, l77.getD 4 .junk, l77.getD 5 .junk, l77.getD 6 .junk, l77.getD 7 .junk, l77.getD 8 .junk, l77.getD 9 .junk, l77.getD 10 .junk, l77.getD 11 .junk, l77.getD 12 .junk, l77.getD 13 .junk, l77.getD 14 .junk, v93] H90)) (retF [.d (.int .i64 0)] H78 K)) [.ptr k 0 0 0, v, u0, va, u4, u5, u6, u7, u8, u9, u10, u11, u12, v, .d (.int .i64 l.length), .d (.int .i64 0)] G := by
  have hlt : ∀ i ∈ l, i < sts.length ∧ (sts.getD i default).state = 1 := fun i hi => by
    rw [hl] at hi
    refine ⟨askS_lt hi, ?_⟩
    simp only [askS, List.mem_filter, decide_eq_true_eq] at hi
    exact hi.2
  have hnd : l.Nodup := by rw [hl]; exact (List.filter_sublist.nodup List.nodup_range)
  have hll : l.length ≤ 40 := by rw [hl]; have := askS_len (sts := sts) (n := sts.length); have := h.sts.n40; omega
  refine loop_ind (fun r vs G' => ∃ j : Nat, j ≤ l.length ∧ r = l.length - j ∧ BusAt G' k ln lost sv ids (finS A sts (l.take j)) f2 ∧ (∀ i, ¬ i ∈ ids → G' i = G i) ∧ (∀ i, i < sts.length → i ∉ l.take j → (finS A sts (l.take j)).getD i default = sts.getD i default) ∧ vs = [.ptr k 0 0 0, v, u0, va, u4, u5, u6, u7, u8, u9, u10, u11, u12, v, .d (.int .i64 l.length), .d (.int .i64 j)]) (n := l.length)
    ⟨0, by omega, by omega, hG, fun _ _ => rfl, fun _ _ _ => rfl, rfl⟩ ?_
  rintro X r vs G' ⟨j, hj, rfl, hB, hO, hsame, rfl⟩ hX
  simp only [List.getD_cons_succ, List.getD_cons_zero, go_sem]
  have notid : ∀ i, H i = none → i ∉ ids := fun i hn hm => by have := h.sts.isS (i := i) (.inr hm); rw [hn] at this; cases this
  have hv' : Mine G' v (ints (nats l)) := hv.keep fun i hi => hO i (notid i (hvF i hi))
  have hA' : Mine G' va (bls A) := hA.keep fun i hi => hO i (notid i (haF i hi))
  split
  · rename_i hlt1
    have hj' : j < l.length := by omega
    obtain ⟨hi1, hi2⟩ := hlt l[j] (List.getElem_mem hj')
    have hnew : l[j] ∉ l.take j := fun hm => by
      obtain ⟨x, hx, he⟩ := List.mem_iff_getElem.1 hm
      rw [List.length_take] at hx
      rw [List.getElem_take] at he
      have := (List.getElem_inj hnd).1 he
      omega
    have htk := finS_take (A := A) (sts := sts) hj'
    have hs1 := hsame _ hi1 hnew
    have htk1 : l.take (j + 1) = l.take j ++ [l[j]] := by rw [List.take_add_one, List.getElem?_eq_getElem hj']; rfl
    have hfl : (finS A sts (l.take j)).length = sts.length := finS_len
    have hxj : (ints (nats l))[j]? = some [.int .i64 ((l[j] : Nat) : Int)] := by simp [ints, nats, hj']
    generalize l[j] = i at *
    obtain ⟨p, e1, e2⟩ := gr_get hv' (ti := ti55) (e := 3) rfl hxj
    obtain ⟨q, e3, e4⟩ := hB.sts.ix (j := i) (by omega)
    have hAi : (bls A)[i]? = some [.bool (A.getD i false)] := by simp [bls, List.getD_eq_getElem?_getD, show i < A.length by omega]
    obtain ⟨q2, e5, e6⟩ := gr_get hA' (ti := ti53) (e := 4) rfl hAi
    have e7 := hB.sts.obj i (by omega)
    have hok := hB.sts.okj (j := i) (by omega)
    simp only [e1, e2, nilCk_ptr, ti156_f2, getM_of hB.node, e3, e4, e5, e6, go_sem]
    refine end_c e7 hok (by rw [hs1]; exact hi2) ?_
    rw [wrap_i64 (by omega) (by omega)]
    refine hX (l.length - (j + 1)) _ _ (by omega) ⟨j + 1, by omega, rfl, ?_, fun x hx => ?_, fun x hx hn => ?_, rfl⟩
    · rw [htk]
      exact hB.put (by omega) (hok.fin (by rw [hs1]; exact hi2) _)
    · rw [set_ne (fun he : x = ids.getD i 0 => hx (he ▸ hB.sts.mem (by omega)))]
      exact hO x hx
    · rw [htk1, List.mem_append, List.mem_singleton, not_or] at hn
      rw [htk, getD_set_ne (Ne.symm hn.2)]
      exact hsame x hx hn.1
  · rename_i hge
    rw [List.take_of_length_le (by omega)] at hB
    refine ⟨G', le_refl', hk G' hB fun i hi hn => ?_⟩
    rw [hO i (fun hm => hn (.inr (.inr hm))), hfr i hi (fun he => hn (.inl he))]
theorem Step_c (h : BusAt H k ln lost sv ids sts f) (hr : Rising lost) (hll : lost.length < 2 ^ 40) (hf : 0 ≤ f ∧ f < 2 ^ 39) (hk : ∀ H', BusAt H' k ln lost sv ids (step (lostB lost) sts f).1 (step (lostB lost) sts f).2 → (∀ i, (H i).isSome → ¬ foot k sv ids i → H' i = H i) → K (.d (.int .i64 0)) H') : CallsA Try.prog 32 [.ptr k 0 0 0] H K := by
  have hn := h.sts.n40
  apply C32
  unfold S32
  simp only [go_sem]
  refine none_c h ?_
  simp only [nilCk_ptr, ti156_f2, getM_of h.node, h.sts.lenS, go_sem]
  have al : ∀ n, (askS sts n).length ≤ n := fun n => askS_len
  refine loop_ind (fun r vs G => ∃ (j : Nat) (v w : AV), j ≤ sts.length ∧ r = sts.length - j ∧ G k = some (.mem 0 0 4 [[.d (.bool true), .d (.sl ln (ints lost)), sv, .d (.int .i64 (f + (askS sts j).length))]]) ∧ (∀ i, (H i).isSome → i ≠ k → G i = H i) ∧ Mine G v (ints (nats (askS sts j))) ∧ Mine G w (ints (nats (hearS (lostB lost) (askS sts j) f))) ∧ (∀ i, idOf v = some i → H i = none) ∧ (∀ i, idOf w = some i → H i = none) ∧ (∀ i, idOf v = some i → idOf w ≠ some i) ∧
      vs = [.ptr k 0 0 0, v, w, .junk, .junk, sv, .d (.int .i64 sts.length), .d (.int .i64 j), .junk, .junk, .junk, .junk, .junk, .junk, .junk, .junk]) (n := sts.length)
    ⟨0, _, _, by omega, by omega, by simpa [askS] using h.node, fun _ _ _ => rfl, by simpa [askS, nats, ints] using Gr.nil no_le, by simpa [askS, hearS, nats, ints] using Gr.nil no_le, by simp [idOf], by simp [idOf], by simp [idOf], rfl⟩ ?_
  rintro X r vs G ⟨j, v, w, hj, rfl, hnode, hfr, hv, hw, hvF, hwF, hvw, rfl⟩ hX
  have hB := h.now hnode hfr
  simp only [List.getD_cons_succ, List.getD_cons_zero, go_sem]
  have kS : (H k).isSome := by rw [h.node]; rfl
  split
  · rename_i hlt
    have hj' : j < sts.length := by omega
    obtain ⟨p, e1, e2⟩ := hB.sts.ix hj'
    have e3 := hB.sts.obj j hj'
    have hsucc := askS_succ (sts := sts) (n := j)
    have alj := al j
    simp only [e1, e2, nilCk_ptr, ti162_f2, getM_of e3, St.cells, go_sem]
    split
    · rename_i hs1
      rw [if_pos hs1] at hsucc
      intro n21 _
      simp only [bs3_1, go_sem]
      refine one_more hv (by rw [nats_len]; omega) fun v1 G1 hv1 hf1 hi1 => ?_
      have hv1F : ∀ i, idOf v1 = some i → H i = none := fun i hi => by
        rcases hi1 i hi with h2 | h2
        · exact hvF i h2
        · cases hh : H i with
          | none => rfl
          | some o =>
            by_cases hik : i = k
            · subst hik; rw [hnode] at h2; cases h2
            · have := hfr i (by rw [hh]; rfl) hik
              rw [h2, hh] at this; cases this
      have hnode1 : G1 k = _ := (hf1 k (by rw [hnode]; rfl) (fun he => by rw [hvF k he] at kS; cases kS)).trans hnode
      have hfr1 : ∀ i, (H i).isSome → i ≠ k → G1 i = H i := fun i hi hik => by
        rw [hf1 i (by rw [hfr i hi hik]; exact hi) (fun he => by rw [hvF i he] at hi; cases hi)]
        exact hfr i hi hik
      have hw1 : Mine G1 w _ := hw.keep fun i hi => hf1 i (hw.obj hi) fun he => hvw i he hi
      have hv1w : ∀ i, idOf v1 = some i → idOf w ≠ some i := fun i hi hwi => by
        rcases hi1 i hi with h2 | h2
        · exact hvw i h2 hwi
        · have := hw.obj hwi; rw [h2] at this; cases this
      refine frame_c (h.now hnode1 hfr1) hr hll (by omega) fun G2 hB2 hO2 => ?_
      have hnode2 : G2 k = some (.mem 0 0 4 [[.d (.bool true), .d (.sl ln (ints lost)), sv, .d (.int .i64 (f + (askS sts (j + 1)).length))]]) := by
        have e : f + (((askS sts (j + 1)).length : Nat) : Int) = f + ((askS sts j).length : Int) + 1 := by rw [hsucc, List.length_append, List.length_singleton]; omega
        rw [hB2.node, e]
      have hfr2 : ∀ i, (H i).isSome → i ≠ k → G2 i = H i := fun i hi hik => by rw [hO2 i hik]; exact hfr1 i hi hik
      have hv2 : Mine G2 v1 (ints (nats (askS sts (j + 1)))) := by
        have : nats (askS sts (j + 1)) = nats (askS sts j) ++ [(j : Int)] := by rw [hsucc]; simp [nats]
        rw [this]
        exact hv1.keep fun i hi => hO2 i fun he => by have := hv1F i hi; rw [he] at this; rw [this] at kS; cases kS
      have hw2 : Mine G2 w (ints (nats (hearS (lostB lost) (askS sts j) f))) := hw1.keep fun i hi => hO2 i fun he => by have := hwF i hi; rw [he] at this; rw [this] at kS; cases kS
      have hhear : hearS (lostB lost) (askS sts (j + 1)) f = hearS (lostB lost) (askS sts j) f ++ if lostB lost (f + ((askS sts j).length : Int)) then [] else [j] := by rw [hsucc, hearS_snoc]
      have hhl := hearS_len (lost := lostB lost) (l := askS sts j) (f := f)
      simp only [go_sem]
      cases hlo : lostB lost (f + ((askS sts j).length : Int)) with
      | false =>
        rw [hlo] at hhear
        simp only [Bool.not_false, if_true, go_sem]
        intro n31 _
        simp only [bs3_1, go_sem]
        refine one_more hw2 (by rw [nats_len]; omega) fun w3 G3 hw3 hf3 hi3 => ?_
        rw [wrap_i64 (by omega) (by omega)]
        refine hX (sts.length - (j + 1)) _ _ (by omega) ⟨j + 1, v1, w3, by omega, rfl, ?_, fun i hi hik => ?_, ?_, ?_, hv1F, fun i hi => ?_, fun i hi hwi => ?_, rfl⟩
        · rw [hf3 k (by rw [hnode2]; rfl) (fun he => by rw [hwF k he] at kS; cases kS)]; exact hnode2
        · rw [hf3 i (by rw [hfr2 i hi hik]; exact hi) (fun he => by rw [hwF i he] at hi; cases hi)]
          exact hfr2 i hi hik
        · exact hv2.keep fun i hi => hf3 i (hv2.obj hi) fun he => hv1w i hi he
        · have : nats (hearS (lostB lost) (askS sts (j + 1)) f) = nats (hearS (lostB lost) (askS sts j) f) ++ [(j : Int)] := by rw [hhear]; simp [nats]
          rw [this]
          exact hw3
        · rcases hi3 i hi with h2 | h2
          · exact hwF i h2
          · cases hh : H i with
            | none => rfl
            | some o =>
              by_cases hik : i = k
              · subst hik; rw [hnode2] at h2; cases h2
              · have := hfr2 i (by rw [hh]; rfl) hik
                rw [h2, hh] at this; cases this
        · rcases hi3 i hwi with h2 | h2
          · exact hv1w i hi h2
          · have := hv2.obj hi; rw [h2] at this; cases this
      | true =>
        rw [hlo] at hhear
        try simp only [Bool.not_true, Bool.false_eq_true, if_false, go_sem]
        rw [wrap_i64 (by omega) (by omega)]
        refine hX (sts.length - (j + 1)) _ _ (by omega) ⟨j + 1, v1, w, by omega, rfl, hnode2, hfr2, hv2, ?_, hv1F, hwF, hv1w, rfl⟩
        rw [hhear]
        simpa using hw2
    · rename_i hs1
      rw [if_neg hs1, List.append_nil] at hsucc
      rw [wrap_i64 (by omega) (by omega)]
      exact hX (sts.length - (j + 1)) _ _ (by omega) ⟨j + 1, v, w, by omega, rfl, by rw [hsucc]; exact hnode, hfr, by rw [hsucc]; exact hv, by rw [hsucc]; exact hw, hvF, hwF, hvw, rfl⟩
  · rename_i hge
    have hje : j = sts.length := by omega
    subst hje
    clear hX
    have hal := al sts.length
    have hhl := hearS_len (lost := lostB lost) (l := askS sts sts.length) (f := f)
    generalize hask : askS sts sts.length = ask at *
    generalize hhr : hearS (lostB lost) ask f = hear at *
    have hheard : ∀ i ∈ hear, i < sts.length := fun i hi => by
      rw [← hhr] at hi
      have := hearS_sub hi
      rw [← hask] at this
      exact askS_lt this
    simp only [nilCk_ptr, ti156_f2, getM_of hnode, hB.sts.lenS, go_sem]
    refine make_c (by omega) fun va ia G1 hia hia0 hle1 hA1 => ?_
    have lw : lenSl w = some (.d (.int .i64 hear.length)) := by rw [hw.len, ints_len, nats_len]
    have lv : lenSl v = some (.d (.int .i64 ask.length)) := by rw [hv.len, ints_len, nats_len]
    have haF0 : ∀ i, idOf va = some i → H i = none := fun i hi => by
      rw [hia] at hi; cases hi
      cases hh : H ia with
      | none => rfl
      | some o =>
        by_cases hik : ia = k
        · subst hik; rw [hnode] at hia0; cases hia0
        · have := hfr ia (by rw [hh]; rfl) hik
          rw [hia0, hh] at this; cases this
    have hav : ∀ i, idOf va = some i → idOf v ≠ some i := fun i hi hvi => by rw [hia] at hi; cases hi; have := hv.obj hvi; rw [hia0] at this; cases this
    have haw : ∀ i, idOf va = some i → idOf w ≠ some i := fun i hi hvi => by rw [hia] at hi; cases hi; have := hw.obj hvi; rw [hia0] at this; cases this
    have hnode1 := hle1 _ _ hnode
    have same1 : ∀ i, (G i).isSome → G1 i = G i := fun i hi => by
      cases hg : G i with
      | none => rw [hg] at hi; cases hi
      | some o => exact hle1 i o hg
    simp only [lw, go_sem]
    refine loop_ind (fun r vs G' => ∃ (j : Nat) (u4 u11 u12 : AV), j ≤ hear.length ∧ r = hear.length - j ∧ G' k = some (.mem 0 0 4 [[.d (.bool true), .d (.sl ln (ints lost)), sv, .d (.int .i64 (an3 (lostB lost) sts (f + ask.length, List.replicate sts.length false) (hear.take j)).1)]]) ∧ Mine G' va (bls (an3 (lostB lost) sts (f + ask.length, List.replicate sts.length false) (hear.take j)).2) ∧ (∀ i, (G i).isSome → i ≠ k → G' i = G i) ∧
        vs = [.ptr k 0 0 0, v, w, va, u4, sv, .d (.int .i64 sts.length), .d (.int .i64 sts.length), w, .d (.int .i64 hear.length), .d (.int .i64 j), u11, u12, .junk, .junk, .junk]) (n := hear.length)
      ⟨0, _, _, _, by omega, by omega, hnode1, hA1, fun i hi _ => same1 i hi, rfl⟩ ?_
    rintro X2 r2 vs2 G2 ⟨j, u4, u11, u12, hj, rfl, hn2, hA2, hO2, rfl⟩ hX2
    have hfr2 : ∀ i, (H i).isSome → i ≠ k → G2 i = H i := fun i hi hik => by
      rw [hO2 i (by rw [hfr i hi hik]; exact hi) hik]; exact hfr i hi hik
    have hB2 := h.now hn2 hfr2
    have hv2 : Mine G2 v (ints (nats ask)) := hv.keep fun i hi => hO2 i (hv.obj hi) fun he => by have := hvF i hi; rw [he] at this; rw [this] at kS; cases kS
    have hw2 : Mine G2 w (ints (nats hear)) := hw.keep fun i hi => hO2 i (hw.obj hi) fun he => by have := hwF i hi; rw [he] at this; rw [this] at kS; cases kS
    have a3 := an3_bd (lost := lostB lost) (sts := sts) (l := hear.take j) (s := (f + ask.length, List.replicate sts.length false))
    have htl : (hear.take j).length ≤ 40 := by rw [List.length_take]; omega
    have hmul : (hear.take j).length * sts.length ≤ 1600 := Nat.le_trans (Nat.mul_le_mul htl hn) (by omega)
    have hmul' : ((hear.take j).length : Int) * (sts.length : Int) ≤ 1600 := by exact_mod_cast hmul
    simp only [List.length_replicate] at a3
    simp only [List.getD_cons_succ, List.getD_cons_zero, go_sem]
    split
    · rename_i hlt
      have hj' : j < hear.length := by omega
      have hi1 := hheard _ (List.getElem_mem hj')
      have ht3 := an3_take (lost := lostB lost) (sts := sts) (s := (f + ask.length, List.replicate sts.length false)) hj'
      have hxj : (ints (nats hear))[j]? = some [.int .i64 ((hear[j] : Nat) : Int)] := by simp [ints, nats, hj']
      generalize hear[j] = i0 at *
      obtain ⟨p, e1, e2⟩ := gr_get hw2 (ti := ti55) (e := 3) rfl hxj
      simp only [e1, e2, nilCk_ptr, ti156_f2, getM_of hn2, hB2.sts.lenS, go_sem]
      generalize hS : an3 (lostB lost) sts (f + ask.length, List.replicate sts.length false) (hear.take j) = S at *
      refine loop_ind (fun r vs G' => ∃ (m : Nat), m ≤ sts.length ∧ r = sts.length - m ∧ G' k = some (.mem 0 0 4 [[.d (.bool true), .d (.sl ln (ints lost)), sv, .d (.int .i64 (an1s (lostB lost) sts i0 S m).1)]]) ∧ Mine G' va (bls (an1s (lostB lost) sts i0 S m).2) ∧ (∀ i, (G i).isSome → i ≠ k → G' i = G i) ∧
          vs = [.ptr k 0 0 0, v, w, va, .d (.int .i64 (i0 : Int)), sv, .d (.int .i64 sts.length), .d (.int .i64 sts.length), w, .d (.int .i64 hear.length), .d (.int .i64 j), .d (.int .i64 sts.length), .d (.int .i64 m), .junk, .junk, .junk]) (n := sts.length)
        ⟨0, by omega, by omega, hn2, hA2, hO2, rfl⟩ ?_
      rintro X3 r3 vs3 G3 ⟨m, hm, rfl, hn3, hA3, hO3, rfl⟩ hX3
      have hfr3 : ∀ i, (H i).isSome → i ≠ k → G3 i = H i := fun i hi hik => by
        rw [hO3 i (by rw [hfr i hi hik]; exact hi) hik]; exact hfr i hi hik
      have hB3 := h.now hn3 hfr3
      have a1 := an1s_bd (lost := lostB lost) (sts := sts) (i := i0) (s := S) (n := m)
      simp only [List.getD_cons_succ, List.getD_cons_zero, go_sem]
      split
      · rename_i hlt3
        have hm' : m < sts.length := by omega
        have hsc := an1s_succ (lost := lostB lost) (sts := sts) (i := i0) (n := m) (s := S)
        refine answers_c hB3 hm' hi1 ?_
        unfold an1 at hsc
        generalize hT : an1s (lostB lost) sts i0 S m = T at *
        simp only [go_sem]
        cases hans : ans sts m i0 with
        | false =>
          rw [hans] at hsc
          simp only [Bool.false_eq_true, if_false, go_sem] at hsc ⊢
          rw [wrap_i64 (by omega) (by omega)]
          exact hX3 (sts.length - (m + 1)) _ _ (by omega) ⟨m + 1, by omega, rfl, by rw [hsc]; exact hn3, by rw [hsc]; exact hA3, hO3, rfl⟩
        | true =>
          rw [hans] at hsc
          simp only [if_true, go_sem] at hsc ⊢
          refine frame_c hB3 hr hll (by omega) fun G4 hB4 hO4 => ?_
          have hA4 : Mine G4 va (bls T.2) := hA3.keep fun i hi => hO4 i fun he => by have := haF0 i hi; rw [he] at this; rw [this] at kS; cases kS
          have hO4' : ∀ i, (G i).isSome → i ≠ k → G4 i = G i := fun i hi hik => by rw [hO4 i hik]; exact hO3 i hi hik
          simp only [go_sem]
          cases hlo : lostB lost T.1 with
          | true =>
            rw [hlo] at hsc
            simp only [Bool.not_true, Bool.false_eq_true, if_false, if_true, go_sem] at hsc ⊢
            rw [wrap_i64 (by omega) (by omega)]
            exact hX3 (sts.length - (m + 1)) _ _ (by omega) ⟨m + 1, by omega, rfl, by rw [hsc]; exact hB4.node, by rw [hsc]; exact hA4, hO4', rfl⟩
          | false =>
            rw [hlo] at hsc
            simp only [Bool.not_false, Bool.false_eq_true, if_false, if_true, go_sem] at hsc ⊢
            obtain ⟨i, ver, o, g1, g2, g3, g4⟩ := bls_put (u := true) hA4 (b := i0) (by omega) (ti := ti53) (e := 4) rfl
            have hik : i ≠ k := fun he => by have := haF0 i g1; rw [he] at this; rw [this] at kS; cases kS
            simp only [g2, g3, go_sem]
            rw [wrap_i64 (by omega) (by omega)]
            refine hX3 (sts.length - (m + 1)) _ _ (by omega) ⟨m + 1, by omega, rfl, by rw [hsc, set_ne (Ne.symm hik)]; exact hB4.node, by rw [hsc]; exact g4, fun x hx hxk => ?_, rfl⟩
            have hxi : x ≠ i := fun he => by rw [hia] at g1; cases g1; subst he; rw [hia0] at hx; cases hx
            rw [set_ne hxi]
            exact hO4' x hx hxk
      · rename_i hge3
        have : m = sts.length := by omega
        subst this
        rw [wrap_i64 (by omega) (by omega)]
        exact hX2 (hear.length - (j + 1)) _ _ (by omega) ⟨j + 1, _, _, _, by omega, rfl, by rw [ht3]; exact hn3, by rw [ht3]; exact hA3, hO3, rfl⟩
    · rename_i hge2
      rw [List.take_of_length_le (by omega)] at hn2 hA2 hB2 a3
      have hst : step (lostB lost) sts f = (finS (an3 (lostB lost) sts (f + ask.length, List.replicate sts.length false) hear).2 sts ask, (an3 (lostB lost) sts (f + ask.length, List.replicate sts.length false) hear).1) := by
        unfold step
        simp only [hask, hhr]
      rw [hst] at hk
      simp only [lv, go_sem]
      have t := step_tail (u0 := w) (u4 := u4) (u5 := sv) (u6 := .d (.int .i64 sts.length)) (u7 := .d (.int .i64 sts.length)) (u8 := w) (u9 := .d (.int .i64 hear.length)) (u10 := .d (.int .i64 j)) (u11 := u11) (u12 := u12) h hB2 hfr2 hA2 hv2 hvF haF0 a3.2.2 hask.symm hk
      simp only [go_sem] at t
      exact t
end

end
section
open Go Go.Proofs Go.RowKit Go.Maps Go.Sort Go.Shelf
attribute [local go_sem] Oper.semAt_some
theorem sorts74 (m : Nat) : AnyZI.SortsIn Try.prog Try.sorted74_ren Fence.wide m :=
  ⟨fun blk off cap ss W hH hblk hsz => callsIn_wide.2 (AnyM.slices_Sort_int Try.sort153 blk off cap ss W hH hblk hsz),
   fun p cap W => callsIn_wide.2 (AnyM.slices_Sort_int_none Try.sort153 p cap W)⟩
set_option maxRecDepth 100000 in
set_option maxHeartbeats 1000000 in
/-- slices.Values' iterator at the nil slice: no round. -/
theorem values1_nil (F : Fence) (n : Nat) (h7 : F.fn 154) (hro : F.round = none) (l Bs : Nat) (J : List Int → World → Prop) (W : World) (hBs : W.cell? ⟨Bs, 0, none⟩ = some (.slice none 0 0)) (h0 : J [] W) :
    CallsIn F n Try.prog 154 #[.func (.yield l) #[] #[], .pointer (some ⟨Bs, 0, none⟩)] W fun e W' => (∃ v, e = .returned v) ∧ J [] W' := by
  refine callsIn_of_wp Try.func154 rfl h7 ?_ hro
  simp only [Try.ntmps154, List.size_toArray, List.length_cons, List.length_nil, Nat.reduceAdd, Nat.reduceSub, Array.replicate_succ, Array.replicate_zero, List.push_toArray, List.append_toArray, List.nil_append, List.cons_append]
  gi_wp2
  gi_loopw [7] (fun i wr => i = .int .i64 0 ∧ J [] wr) (fun _ _ => 0)
  case atStart => exact ⟨rfl, h0⟩
  case round =>
    obtain ⟨rfl, hJs⟩ := hrel
    gi_wp2
    go_end0
    exact ⟨⟨_, rfl⟩, hJs⟩
theorem sorted_none (Bs : Nat) (w : World) (hB : Bs < w.heap.size) (hc : w.cell? ⟨Bs, 0, none⟩ = some (.slice none 0 0)) :
    Calls Try.prog 74 #[.func (.func 154) #[] #[.pointer (some ⟨Bs, 0, none⟩)]] w fun e w' => ∃ (v : Value) (ss : List Int), e = .returned v ∧ ss = [] ∧ w'.ownsRow w.heap.size 3 1 v ss.length ((ss.mergeSort (fun x y => decide (x ≤ y))).map encZ) ∧ (v = .slice none 0 0 ↔ ss = []) ∧ Below w.heap.size w w' := by
  have hseq : SeqGives Fence.wide 2 Try.prog 154 #[.pointer (some ⟨Bs, 0, none⟩)] encZ (fun ss : List Int => ss = []) 0 w := fun l J W hW hJ hY h0 =>
    (values1_nil Fence.wide 2 trivial rfl l Bs J W ((hW.cell (p := ⟨Bs, 0, none⟩) hB).trans hc) h0).mono fun e W' ⟨h1, h2⟩ => ⟨h1, [], rfl, h2⟩
  exact callsIn_wide.1 (AnyZI.sorted_in Try.sorted74 Fence.wide 5 trivial trivial trivial trivial rfl (by omega) (sorts74 _) (enters_of Try.func153 (by kernel_rfl) rfl) 154 #[.pointer (some ⟨Bs, 0, none⟩)] trivial (enters_of Try.func154 (by kernel_rfl) rfl) _ 0 (Nat.zero_le _) (by omega) _ hseq)
open Go.AM in
theorem sortedNil_c {H : AHeap} {k fro : Nat} (hk : H k = some (.mem 0 fro 1 [[.d (.sl true [])]])) {K : AV → AHeap → Prop} (h : K (.d (.sl true [])) H) : CallsA Try.prog 74 [.func 154 [] [.ptr k 0 0 0]] H K := by
  refine ⟨⟨_, Try.func74, ne_of_beq_false (by kernel_rfl), rfl⟩, fun base L w args R hv => ?_⟩
  obtain ⟨u, rfl, hu1⟩ := func_args hv
  obtain ⟨B, mv, rfl, hB, hcell, hmv⟩ := box_cell R hk hu1
  simp only [VR, DR] at hmv
  obtain ⟨A, cap, rfl, _, h2, _⟩ := hmv
  obtain ⟨rfl, rfl⟩ := h2 trivial
  refine (sorted_none B w hB hcell).mono ?_
  rintro e w' ⟨v, ss, rfl, rfl, hrow, hnil, hb⟩
  simp only [List.mergeSort_nil] at hrow
  exact ints_back (l := []) R hb hrow hnil h

end
section
open Go Go.AM Go.Proofs
theorem nilA_eql {nl nl2 : Bool} {l l2 : List (List Dat)} : nilA 0 .eql (.d (.sl nl l)) (.d (.sl true l2)) = some (.d (.bool nl)) := by cases nl <;> rfl
theorem bs3_0 {H : AHeap} {n : Nat} : bsA ti3 0 [] [] H n = some (.lit [], []) := rfl
theorem clone_c {nl : Bool} {l : List Int} (hl : l.length < 2 ^ 40) (hnl : nl = true → l = []) {H : AHeap} {K : AV → AHeap → Prop} (h : K (.d (.sl nl (ints l))) H) : CallsA Try.prog 58 [.d (.sl nl (ints l))] H K := by
  apply C58
  unfold S58
  simp only [nilA_eql (nl2 := true), go_sem]
  cases nl with
  | true =>
    rw [hnl rfl] at h
    simp only [go_sem]
    exact ⟨H, le_refl', h⟩
  | false =>
    simp only [go_sem]
    intro n hn
    simp only [bs3_0, go_sem]
    refine (Gr.lit le_refl').app (ys := ints l) rfl (by decide) (by decide) ints_1 (by rw [ints_len]; simp [mostBytes]; omega) fun v' H3 hv' _ _ hn3 => ?_
    rw [List.nil_append] at hv'
    refine hv'.own.ret le_refl' ?_
    rw [hn3]
    exact h
/-- A new station. -/
def newSt (nl : Bool) (row : List Int) : St := ⟨nl, row, true, 0, 0, 0, 0⟩
theorem newSt_ok {nl : Bool} {row : List Int} (hw : ∀ x ∈ row, -9223372036854775808 ≤ x ∧ x ≤ 9223372036854775807) (hl : row.length < 2 ^ 40) : (newSt nl row).Ok :=
  ⟨⟨by simp [newSt], by simp [newSt]⟩, ⟨by simp [newSt], by simp [newSt]⟩, .inl rfl, ⟨by simp [newSt], by simp [newSt]⟩, (fun h => by cases h), hw, hl⟩
/-- A list of pointers that grows. -/
theorem bs65_1 {p i e o : Nat} {H : AHeap} {n : Nat} : bsA ti160 1 [0] [.ptr p i e o] H n = some (.rs n 0 1 0 1, [(n, .mem 0 0 1 [[.ptr p i e o]])]) := rfl
theorem bd162_eq {nl : Bool} {l : List (List Dat)} {H : AHeap} : bdA Try.prog ti162 [0, 1] [.d (.sl nl l), .d (.bool true)] H = some (.agg [.d (.sl nl l), .d (.bool true), .d (.int .i64 0), .d (.int .i64 0), .d (.int .i64 0), .d (.int .i64 0)], []) := by
  simp only [bdA, bd162, cell55, cell4, fillA, setCells, List.zip_cons_cons, List.zip_nil_right, Option.map_some, Nat.reduceLeDiff, List.cons_append, go_sem]
section
variable {H : AHeap} {k : Nat} {ln : Bool} {lost : List Int} {sv : AV} {ids : List Nat} {sts : List St} {f : Int} {K : AV → AHeap → Prop}
theorem rsOf_ptr' {i v e o : Nat} {b : AV} : apart (rsOf (.ptr i v e o)) b = True := by rw [rsOf_ptr, ap_nil]
/-- A slice of pointers gets one more. -/
theorem Sts.more (h : Sts H sv ids sts) (hn : sts.length < 40) {p : Nat} {s : St} (hp : H p = some (sObj s)) (hs : s.Ok) (hpn : p ∉ ids) {m : Nat} (hm : H m = some (.mem 0 0 1 [[.ptr p 0 0 0]])) {K : AV → AHeap → Prop}
    (hk : ∀ v' H', Sts H' v' (ids ++ [p]) (sts ++ [s]) → (∀ i, (H i).isSome → idOf sv ≠ some i → H' i = H i) → (∀ i, idOf v' = some i → idOf sv = some i ∨ H i = none) → K v' H') : newK H (fun n => apA 1 8 sv (.rs m 0 1 0 1) H n) K := by
  intro n hnn
  have hx : elemsA (.rs m 0 1 0 1) H = some [[.ptr p 0 0 0]] := by
    simp only [elemsA, hm, if_true]
    rfl
  have hnd : (ids ++ [p]).Nodup := List.nodup_append.2 ⟨h.nd, by simp, fun a ha b hb he => by rw [List.mem_singleton] at hb; subst hb; subst he; exact hpn ha⟩
  have objs : ∀ H' : AHeap, (∀ i ∈ ids, H' i = H i) → H' p = H p → ∀ j, j < (sts ++ [s]).length → H' ((ids ++ [p]).getD j 0) = some (sObj ((sts ++ [s]).getD j default)) := fun H' h1 h2 j hj => by
    rw [List.length_append, List.length_singleton] at hj
    by_cases hjl : j < sts.length
    · have e1 : (ids ++ [p]).getD j 0 = ids.getD j 0 := by rw [List.getD_eq_getElem?_getD, List.getElem?_append_left (by rw [h.len]; exact hjl), ← List.getD_eq_getElem?_getD]
      have e2 : (sts ++ [s]).getD j default = sts.getD j default := by rw [List.getD_eq_getElem?_getD, List.getElem?_append_left hjl, ← List.getD_eq_getElem?_getD]
      rw [e1, e2, h1 _ (h.mem hjl)]
      exact h.obj j hjl
    · have hje : j = sts.length := by omega
      subst hje
      have e1 : (ids ++ [p]).getD sts.length 0 = p := by rw [← h.len]; simp
      have e2 : (sts ++ [s]).getD sts.length default = s := by simp
      rw [e1, e2, h2, hp]
  have oks : ∀ x ∈ sts ++ [s], x.Ok := fun x hx => by
    rcases List.mem_append.1 hx with hx | hx
    · exact h.ok x hx
    · rw [List.mem_singleton] at hx; subst hx; exact hs
  have pne : p ≠ n := fun he => by rw [he, hnn] at hp; cases hp
  simp only [apA, hx]
  rcases h.sl with ⟨rfl, rfl⟩ | ⟨i, ver, L, rfl, h3, h4, h5⟩
  · have hids : ids = [] := List.eq_nil_of_length_eq_zero (by rw [h.len]; rfl)
    subst hids
    have e : appA 1 8 (.d (.sl true [])) [[.ptr p 0 0 0]] H n = some (.rs n 0 1 0 1, [(n, .mem 0 0 1 [[.ptr p 0 0 0]])]) := rfl
    simp only [List.all_cons, List.length_cons, List.length_nil, BEq.rfl, List.all_nil, Bool.and_self, Nat.reduceAdd, Nat.lt_irrefl, and_self, e, stepK, optA, AHeap.sets]
    rw [if_pos (by decide)]
    refine hk _ _ ⟨rfl, hnd, objs _ (fun i hi => by cases hi) (set_ne pne), .inr ⟨n, 0, _, rfl, set_self, rfl, Nat.le_refl _⟩, oks, by simp⟩ (fun i hi _ => set_ne fun he => by rw [he, hnn] at hi; cases hi) fun i hi => by cases hi; exact .inr hnn
  · have e : appA 1 8 (.rs i ver 1 0 sts.length) [[.ptr p 0 0 0]] H n = some (.rs i (ver + 1) 1 0 (sts.length + 1), [(i, .mem (ver + 1) 0 1 (ids.map (fun p => [.ptr p 0 0 0]) ++ [[.ptr p 0 0 0]]))]) := by
      simp only [appA, h3, Nat.zero_add, Nat.zero_le, h5, List.length_cons, List.length_nil, true_and, List.drop_zero, h4, Nat.sub_self]
      rw [if_pos (by unfold mostBytes; omega)]
    have hi : (H i).isSome := by rw [h3]; rfl
    have pni : p ≠ i := fun he => by rw [he, h3] at hp; cases hp
    rw [e, if_pos (show 0 < 1 ∧ 0 < 8 ∧ ([[AV.ptr p 0 0 0]].all fun y => y.length == 1) = true from ⟨by omega, by omega, rfl⟩)]
    simp only [stepK, optA, AHeap.sets]
    refine hk _ _ ⟨by simp [h.len], hnd, objs _ (fun j hj => set_ne fun he => h.sne (i := i) rfl (he ▸ hj)) (set_ne pni), .inr ⟨i, ver + 1, _, by rw [List.length_append, List.length_singleton], set_self, ?_, ?_⟩, oks, by rw [List.length_append, List.length_singleton]; omega⟩ (fun j hj hne => set_ne fun he => hne (by rw [he]; rfl)) fun j hj => .inl hj
    · rw [List.map_append, List.take_of_length_le (by simp [h.len])]
      rfl
    · simp [h.len]
theorem Add_c (h : BusAt H k ln lost sv ids sts f) {nl : Bool} {row : List Int} (hw : ∀ x ∈ row, -9223372036854775808 ≤ x ∧ x ≤ 9223372036854775807) (hl : row.length < 2 ^ 40) (hnl : nl = true → row = [])
    (hfull : sts.length = 40 → K (.tup [.d (.int .i64 0), .d (.int .i64 4)]) H) (hk : sts.length < 40 → ∀ H' sv' ids', BusAt H' k ln lost sv' ids' (sts ++ [newSt nl row]) f → (∀ i, (H i).isSome → ¬ foot k sv ids i → H' i = H i) → (∀ i, foot k sv' ids' i → foot k sv ids i ∨ H i = none) → K (.tup [.d (.int .i64 sts.length), .d (.int .i64 0)]) H') : CallsA Try.prog 26 [.ptr k 0 0 0, .d (.sl nl (ints row))] H K := by
  have hn := h.sts.n40
  have hagg := h.sts.aggs
  apply C26
  unfold S26
  simp only [go_sem]
  refine none_c h ?_
  simp only [nilCk_ptr, ti156_f2, getM_of h.node, h.sts.lenS, go_sem]
  split
  · rename_i h40
    exact ⟨H, le_refl', hfull (by omega)⟩
  rename_i h40
  have hlt : sts.length < 40 := by omega
  try simp only [nilCk_ptr, ti156_f2, getM_of h.node, rsOf_d, ap_nil, go_sem]
  refine ⟨_, clone_c hl hnl ⟨rfl, le_refl'⟩, ?_⟩
  simp only [rsOf_d, ap_nil, bd162_eq, go_sem]
  refine box_open rfl fun p G hG hle hp => ?_
  simp only [AV.cells, rsOf_ptr, ap_nil, go_sem] at hG ⊢
  intro m hm
  simp only [bs65_1, go_sem]
  have hB := h.le (le_trans' hle (le_set (o := .mem 0 0 1 [[.ptr p 0 0 0]]) le_refl' hm))
  have hpm : p ≠ m := le_ne hG hm
  have hpn : p ∉ ids := fun hh => by have := h.sts.isS (i := p) (.inr hh); rw [hp] at this; cases this
  have hGm : (G.set m (.mem 0 0 1 [[.ptr p 0 0 0]])) p = some (sObj (newSt nl row)) := by rw [set_ne hpm]; exact hG
  have hmn : H m = none := le_none hle hm
  refine hB.sts.more hlt hGm (newSt_ok hw hl) hpn set_self fun v' H' hS hO hI => ?_
  have kS : (H k).isSome := by rw [h.node]; rfl
  have hnode' : H' k = some (.mem 0 0 4 [[.d (.bool true), .d (.sl ln (ints lost)), sv, .d (.int .i64 f)]]) := by
    rw [hO k (by rw [hB.node]; rfl) (fun he => h.kne.1 k he rfl)]; exact hB.node
  have hv' : aggL v' = [] := hS.aggs
  have hst : v'.storable = true ∧ v'.cells = [v'] := by
    rcases hS.sl with ⟨h1, _⟩ | ⟨i, ver, L, rfl, _⟩
    · simp at h1
    · exact ⟨rfl, rfl⟩
  have kne' : (∀ i, idOf v' = some i → i ≠ k) ∧ k ∉ ids ++ [p] := by
    have hb : BusAt (H'.set k (.mem 0 0 4 [[.d (.bool true), .d (.sl ln (ints lost)), v', .d (.int .i64 f)]])) k ln lost v' (ids ++ [p]) (sts ++ [newSt nl row]) f ↔ True := by
      constructor
      · exact fun _ => trivial
      · intro _
        refine ⟨set_self, hS.keep (fun i hi => set_ne fun he => ?_) fun i hi => set_ne fun he => ?_⟩
        · subst he
          rcases hS.sl with ⟨h1, _⟩ | ⟨j, ver, L, rfl, h3, _⟩
          · simp at h1
          · cases hi; rw [hnode'] at h3; cases h3
        · subst he
          rcases List.mem_append.1 hi with hi | hi
          · exact h.kne.2 hi
          · rw [List.mem_singleton] at hi; subst hi; rw [hp] at kS; cases kS
    exact (hb.2 trivial).kne
  simp only [nilCk_ptr, ti156_f2, hv', getM_of hnode', hst.1, hst.2, stoA_agg, stoA_get, stoM, setCells, and_self, true_and, Nat.le_refl, Nat.reduceLeDiff, List.cons_append, List.set_cons_zero, List.getElem?_cons_zero, List.take_succ_cons, List.take_zero, List.drop_succ_cons, List.drop_zero, go_sem]
  have lenv : lenSl v' = some (.d (.int .i64 (sts ++ [newSt nl row]).length)) := hS.lenS
  simp only [lenv, List.length_append, List.length_singleton, go_sem]
  have e : IntKind.i64.wrap (((sts.length + 1 : Nat) : Int) - 1) = sts.length := by rw [wrap_i64 (by omega) (by omega)]; omega
  rw [e]
  refine ⟨_, le_refl', hk hlt _ v' (ids ++ [p]) ⟨set_self, hS.keep (fun i hi => set_ne (kne'.1 i hi)) fun i hi => set_ne fun he => kne'.2 (he ▸ hi)⟩ (fun i hi hnf => ?_) fun i hi => ?_⟩
  · rw [set_ne (fun he => hnf (.inl he)), hO i (by rw [set_ne (fun he => by rw [he, hmn] at hi; cases hi)]; cases hh : H i with | none => rw [hh] at hi; cases hi | some o => rw [hle i o hh]; rfl) (fun he => hnf (.inr (.inl he))), set_ne (fun he => by rw [he, hmn] at hi; cases hi)]
    cases hh : H i with
    | none => rw [hh] at hi; cases hi
    | some o => exact hle i o hh
  · rcases hi with rfl | hi | hi
    · exact .inl (.inl rfl)
    · rcases hI i hi with h1 | h1
      · exact .inl (.inr (.inl h1))
      · refine .inr ?_
        by_cases him : i = m
        · rw [him]; exact hmn
        · rw [set_ne him] at h1; exact le_none hle h1
    · rcases List.mem_append.1 hi with hi | hi
      · exact .inl (.inr (.inr hi))
      · rw [List.mem_singleton] at hi; rw [hi]; exact .inr hp
/-- A guess begun. -/
def St.begin (s : St) : St := if s.state = 1 then s else { s with state := 1, k := 0, sent := 0 }
theorem St.Ok.begin {s : St} (h : s.Ok) (ho : s.on = true) : s.begin.Ok := by
  unfold St.begin
  split
  · exact h
  · exact ⟨⟨by simp, by simp⟩, ⟨by simp, by simp⟩, .inr (.inl rfl), h.node, fun _ => ⟨by simp, by simp, ho⟩, h.wf, h.len⟩
theorem Guess_c (h : BusAt H k ln lost sv ids sts f) {i : Nat} (hi : i < sts.length) (hon : (sts.getD i default).on = true) (hk : ∀ H', BusAt H' k ln lost sv ids (sts.set i (sts.getD i default).begin) f → (∀ j, ¬ foot k sv ids j → H' j = H j) → K (.d (.int .i64 0)) H') : CallsA Try.prog 72 [.ptr k 0 0 0, .d (.int .i64 (i : Int))] H K := by
  apply C72
  unfold S72
  simp only [go_sem]
  refine asked_c h ?_
  rw [if_pos ⟨by omega, by omega⟩]
  obtain ⟨p, e1, e2⟩ := h.sts.ix hi
  have e3 := h.sts.obj i hi
  have hok := h.sts.okj hi
  have hput := h.put hi (hok.begin hon)
  have hmem := h.sts.mem hi
  simp only [not_true_eq_false, if_false, nilCk_ptr, ti156_f2, getM_of h.node, e1, e2, ti162_f1, getM_of e3, St.cells, hon, Bool.not_true, Bool.false_eq_true, go_sem]
  generalize ids.getD i 0 = q at *
  generalize hs : sts.getD i default = s at *
  simp only [nilCk_ptr, ti162_f1, ti162_f2, ti162_f3, ti162_f4, getM_of e3, St.cells, stoA_agg, stoA_get, stoM, setCells, and_self, true_and, Nat.le_refl, Nat.reduceLeDiff, List.cons_append, List.set_cons_zero, List.getElem?_cons_zero, List.take_succ_cons, List.take_zero, List.drop_succ_cons, List.drop_zero, go_sem]
  unfold St.begin at hput hk
  split
  · rename_i h1
    rw [if_neg h1] at hput hk
    try simp only [stoA_agg, stoA_get, stoM, setCells, and_self, true_and, Nat.le_refl, Nat.reduceLeDiff, List.cons_append, List.set_cons_zero, List.getElem?_cons_zero, List.take_succ_cons, List.take_zero, List.drop_succ_cons, List.drop_zero, go_sem]
    exact ⟨_, le_refl', hk _ hput fun j hj => set_ne fun he => hj (.inr (.inr (he ▸ hmem)))⟩
  · rename_i h1
    have h1 := Classical.not_not.1 h1
    rw [if_pos h1] at hput hk
    have e : sts.set i s = sts := by
      rw [← hs, List.getD_eq_getElem?_getD, List.getElem?_eq_getElem hi]
      exact List.set_getElem_self hi
    rw [e] at hk
    exact ⟨H, le_refl', hk H h fun j hj => rfl⟩
end
theorem bd156_eq {nl : Bool} {l : List (List Dat)} {H : AHeap} : bdA Try.prog ti156 [0, 1] [.d (.bool true), .d (.sl nl l)] H = some (.agg [.d (.bool true), .d (.sl nl l), .d (.sl true []), .d (.int .i64 0)], []) := by
  simp only [bdA, bd156, cell4, cell55, fillA, setCells, List.zip_cons_cons, List.zip_nil_right, Option.map_some, Nat.reduceLeDiff, List.cons_append, go_sem]
theorem newNil_c {H : AHeap} {K : AV → AHeap → Prop} (hk : ∀ k H', BusAt H' k true [] (.d (.sl true [])) [] [] 0 → AHeap.le H H' → H k = none → K (.ptr k 0 0 0) H') : CallsA Try.prog 24 [.d (.sl true [])] H K := by
  apply C24
  unfold S24
  simp only [go_sem]
  apply C75
  unfold S75
  refine box_open rfl fun k1 G hG hle hk1 => ?_
  simp only [AV.cells, go_sem] at hG ⊢
  refine ⟨G, le_refl', ?_⟩
  simp only [go_sem]
  refine sortedNil_c hG ?_
  simp only [bd156_eq, go_sem]
  refine box_open rfl fun k2 G2 hG2 hle2 hk2 => ?_
  simp only [AV.cells, go_sem] at hG2 ⊢
  exact ⟨G2, le_refl', hk k2 G2 ⟨hG2, ⟨rfl, .nil, fun j hj => by simp at hj, .inl ⟨rfl, rfl⟩, by simp, by simp⟩⟩ (le_trans' hle hle2) (le_none hle hk2)⟩

end
section
open Go Go.AM Go.Proofs
def run0 : Nat → List St × Int
  | 0 => (List.replicate 3 (newSt true []).begin, 0)
  | n + 1 => step (lostB []) (run0 n).1 (run0 n).2
theorem run0_q : ∀ i : Fin 11, quietB (run0 i.val).1 = decide (i.val = 10) ∧ 0 ≤ (run0 i.val).2 ∧ (run0 i.val).2 ≤ 100 := by decide +kernel
theorem run0_n : nodeB (run0 10).1 0 = 1 ∧ nodeB (run0 10).1 1 = 2 ∧ nodeB (run0 10).1 2 = 3 := by decide +kernel
theorem rising_nil : Rising [] := List.Pairwise.nil
theorem new_ok : (newSt true []).Ok := newSt_ok (by simp) (by simp)
theorem awake_c {H : AHeap} {K : AV → AHeap → Prop} (hk : ∀ H', K (.d (.bool true)) H') : CallsA Try.prog 23 [] H K := by
  apply C23
  unfold S23
  try simp only [frzLK_d, frzLK_nil]
  refine newNil_c fun k H1 hB hle hk1 => ?_
  simp only [go_sem]
  refine loop_ind (fun r vs G => ∃ (i : Nat) (sv : AV) (ids : List Nat), i ≤ 3 ∧ r = 3 - i ∧ BusAt G k true [] sv ids (List.replicate i (newSt true []).begin) 0 ∧ vs = [.ptr k 0 0 0, .d (.int .i64 i), .junk]) (n := 3) ⟨0, _, _, by omega, by omega, hB, rfl⟩ ?_
  rintro X r vs G ⟨i, sv, ids, hi, rfl, hG, rfl⟩ hX
  simp only [List.getD_cons_succ, List.getD_cons_zero, go_sem]
  split
  · rename_i hlt
    have hi' : i < 3 := by omega
    refine Add_c (row := []) hG (by simp) (by simp) (fun _ => rfl) (fun h => by rw [List.length_replicate] at h; omega) fun _ G1 sv1 ids1 hG1 _ _ => ?_
    simp only [List.length_replicate, not_true_eq_false, if_false, go_sem] at hG1 ⊢
    have hlen : (List.replicate i (newSt true []).begin ++ [newSt true []]).length = i + 1 := by simp
    have hget : (List.replicate i (newSt true []).begin ++ [newSt true []]).getD i default = newSt true [] := by
      rw [List.getD_eq_getElem?_getD, List.getElem?_append_right (by simp)]
      simp
    refine Guess_c (i := i) hG1 (by omega) (by rw [hget]; rfl) fun G2 hG2 _ => ?_
    rw [hget] at hG2
    have hset : (List.replicate i (newSt true []).begin ++ [newSt true []]).set i (newSt true []).begin = List.replicate (i + 1) (newSt true []).begin := by
      rw [List.set_append_right _ _ (by simp), List.length_replicate, Nat.sub_self, List.set_cons_zero, List.replicate_succ']
    rw [hset] at hG2
    simp only [not_true_eq_false, if_false, go_sem]
    rw [wrap_i64 (by omega) (by omega)]
    exact hX (3 - (i + 1)) _ _ (by omega) ⟨i + 1, sv1, ids1, by omega, rfl, hG2, by simp⟩
  · rename_i hge
    have : i = 3 := by omega
    subst this
    clear hX hB hle hk1
    refine loop_ind (fun r vs G => ∃ (t : Nat), t ≤ 10 ∧ r = 10 - t ∧ BusAt G k true [] sv ids (run0 t).1 (run0 t).2 ∧ vs = [.ptr k 0 0 0, .d (.int .i64 3), .d (.int .i64 t)]) (n := 10) ⟨0, by omega, by omega, hG, rfl⟩ ?_
    rintro X r vs G ⟨t, ht, rfl, hG, rfl⟩ hX
    obtain ⟨q1, q2, q3⟩ := run0_q ⟨t, by omega⟩
    simp only at q1 q2 q3
    simp only [List.getD_cons_succ, List.getD_cons_zero, go_sem]
    rw [if_pos (by omega)]
    try simp only [go_sem]
    refine Quiet_c hG ?_
    rw [q1]
    simp only [go_sem]
    by_cases h10 : t = 10
    · subst h10
      rw [if_neg (by simp)]
      refine Quiet_c hG ?_
      rw [q1]
      simp only [decide_true, if_true, go_sem]
      refine Node_c hG ?_
      rw [run0_n.1]
      simp only [if_true, go_sem]
      refine Node_c hG ?_
      rw [run0_n.2.1]
      simp only [if_true, go_sem]
      refine Node_c hG ?_
      rw [run0_n.2.2]
      simp only [decide_true, go_sem]
      exact ⟨_, le_refl', hk _⟩
    · rw [if_pos h10]
      refine Step_c hG rising_nil (by simp) (by omega) fun G2 hG2 _ => ?_
      rw [wrap_i64 (by omega) (by omega)]
      exact hX (10 - (t + 1)) _ _ (by omega) ⟨t + 1, by omega, rfl, hG2, by simp⟩
/-- No bus: nil, or a zero value. -/
def Nob (H : AHeap) (v : AV) : Prop := v = .nilptr ∨ ∃ k a b c, v = .ptr k 0 0 0 ∧ H k = some (.mem 0 0 4 [[.d (.bool false), a, b, c]])
theorem nilN_eql : nilA 3 .eql .nilptr .nilptr = some (.d (.bool true)) := rfl
theorem nilN_neq : nilA 3 .neq .nilptr .nilptr = some (.d (.bool false)) := rfl
theorem frzK_nob {H : AHeap} {v : AV} {l : List AV} {K : List AV → AHeap → Prop} (hv : Nob H v) : frzLK (v :: l) H K = frzLK l H fun l' H' => K (v :: l') H' := by
  rcases hv with rfl | ⟨k, a, b, c, rfl, _⟩
  · exact frzLK_nilptr
  · exact frzLK_ptr
section
variable {H : AHeap} {v : AV} {K : AV → AHeap → Prop}
theorem nobN_c (hv : Nob H v) (hk : K (.d (.bool true)) H) : CallsA Try.prog 76 [v] H K := by
  apply C76
  unfold S76
  rcases hv with rfl | ⟨k, a, b, c, rfl, h1⟩
  · simp only [nilN_eql, go_sem]
    exact ⟨H, le_refl', hk⟩
  · simp only [nilP_eql, nilCk_ptr, ti156_f0, getM_of h1, Bool.not_false, go_sem]
    exact ⟨H, le_refl', hk⟩
theorem nobAsked_c (hv : Nob H v) {x : Dat} (hk : K (.d (.int .i64 7)) H) : CallsA Try.prog 150 [v, .d x] H K := by
  apply C150
  unfold S150
  simp only [frzK_nob hv, go_sem]
  refine nobN_c hv ?_
  simp only [go_sem]
  exact ⟨H, le_refl', hk⟩
theorem nobAdd_c (hv : Nob H v) {x : Dat} (hk : K (.tup [.d (.int .i64 0), .d (.int .i64 7)]) H) : CallsA Try.prog 26 [v, .d x] H K := by
  apply C26
  unfold S26
  simp only [frzK_nob hv, go_sem]
  refine nobN_c hv ?_
  simp only [go_sem]
  exact ⟨H, le_refl', hk⟩
theorem nobTurn_c (hv : Nob H v) {x y : Dat} (hk : K (.d (.int .i64 7)) H) : CallsA Try.prog 79 [v, .d x, .d y] H K := by
  apply C79
  unfold S79
  simp only [frzK_nob hv, go_sem]
  refine nobAsked_c hv ?_
  simp only [Int.reduceEq, not_false_eq_true, if_true, go_sem]
  exact ⟨H, le_refl', hk⟩
theorem nobGuess_c (hv : Nob H v) {x : Dat} (hk : K (.d (.int .i64 7)) H) : CallsA Try.prog 72 [v, .d x] H K := by
  apply C72
  unfold S72
  simp only [frzK_nob hv, go_sem]
  refine nobAsked_c hv ?_
  simp only [Int.reduceEq, not_false_eq_true, if_true, go_sem]
  exact ⟨H, le_refl', hk⟩
theorem nobStep_c (hv : Nob H v) (hk : K (.d (.int .i64 7)) H) : CallsA Try.prog 32 [v] H K := by
  apply C32
  unfold S32
  simp only [frzK_nob hv, go_sem]
  refine nobN_c hv ?_
  simp only [go_sem]
  exact ⟨H, le_refl', hk⟩
theorem nobNode_c (hv : Nob H v) {x : Dat} (hk : K (.d (.int .i64 0)) H) : CallsA Try.prog 73 [v, .d x] H K := by
  apply C73
  unfold S73
  simp only [frzK_nob hv, go_sem]
  refine nobAsked_c hv ?_
  simp only [Int.reduceEq, not_false_eq_true, if_true, go_sem]
  exact ⟨H, le_refl', hk⟩
theorem nobClashes_c (hv : Nob H v) (hk : K (.d (.sl true [])) H) : CallsA Try.prog 29 [v] H K := by
  apply C29
  unfold S29
  simp only [frzK_nob hv, go_sem]
  refine nobN_c hv ?_
  simp only [go_sem]
  exact ⟨H, le_refl', hk⟩
theorem nobQuiet_c (hv : Nob H v) (hk : K (.d (.bool false)) H) : CallsA Try.prog 31 [v] H K := by
  apply C31
  unfold S31
  simp only [frzK_nob hv, go_sem]
  refine nobN_c hv ?_
  simp only [Bool.not_true, go_sem]
  exact ⟨H, le_refl', hk⟩
end
theorem awake_end {G : AHeap} : CallsA Try.prog 23 [] G fun v H => retF [v] H fun v _ => v = .d (.bool true) := awake_c fun H' => by simp only [go_sem]; exact ⟨_, le_refl', rfl⟩
end
section
theorem gD_set_self {α : Type} {d : α} {l : List α} {j : Nat} {s : α} (h : j < l.length) : (l.set j s).getD j d = s := by
  rw [List.getD_eq_getElem?_getD, List.getElem?_set_self h]; rfl
theorem gD_set_ne {α : Type} {d : α} {l : List α} {i j : Nat} {s : α} (h : j ≠ i) : (l.set j s).getD i d = l.getD i d := by
  rw [List.getD_eq_getElem?_getD, List.getElem?_set_ne h, ← List.getD_eq_getElem?_getD]
def never (f : Int) : Bool := false
theorem hear_never : ∀ {l : List Nat} {f : Int}, hearS never l f = l
  | [], f => rfl
  | i :: l, f => by simp [hearS, never, hear_never (l := l) (f := f + 1)]
theorem an1s_never {sts : List St} {i : Nat} {s : Int × List Bool} (hi : i < s.2.length) : ∀ {n : Nat} {j : Nat}, (an1s never sts i s n).2.getD j false = (s.2.getD j false || (decide (j = i) && decide (∃ k, k < n ∧ ans sts k i = true)))
  | 0, j => by simp [an1s]
  | n + 1, j => by
    have ih := an1s_never (sts := sts) (i := i) (s := s) hi (n := n) (j := j)
    have hl := (an1s_bd (lost := never) (sts := sts) (i := i) (s := s) (n := n)).2.2
    rw [an1s_succ]
    unfold an1
    have hex : (∃ k, k < n + 1 ∧ ans sts k i = true) ↔ (∃ k, k < n ∧ ans sts k i = true) ∨ ans sts n i = true := by
      constructor
      · rintro ⟨k, hk, ha⟩
        rcases Nat.lt_succ_iff_lt_or_eq.1 hk with hk | rfl
        · exact .inl ⟨k, hk, ha⟩
        · exact .inr ha
      · rintro (⟨k, hk, ha⟩ | ha)
        · exact ⟨k, by omega, ha⟩
        · exact ⟨n, by omega, ha⟩
    split
    · rename_i ha
      simp only [never, Bool.false_eq_true, if_false]
      by_cases hj : j = i
      · subst hj
        rw [gD_set_self (by omega)]
        have : ∃ k, k < n + 1 ∧ ans sts k j = true := ⟨n, by omega, ha⟩
        simp [this]
      · rw [gD_set_ne (Ne.symm hj), ih]
        simp [hj]
    · rename_i ha
      rw [ih]
      have : (∃ k, k < n + 1 ∧ ans sts k i = true) ↔ (∃ k, k < n ∧ ans sts k i = true) := by rw [hex]; simp [ha]
      simp only [this]
theorem an3_never {sts : List St} : ∀ {l : List Nat} {s : Int × List Bool} {j : Nat}, (∀ i ∈ l, i < s.2.length) → (an3 never sts s l).2.getD j false = (s.2.getD j false || (decide (j ∈ l) && decide (∃ k, k < sts.length ∧ ans sts k j = true)))
  | [], s, j, _ => by simp [an3]
  | i :: l, s, j, h => by
    have hi := h i (List.mem_cons_self ..)
    have hl := (an1s_bd (lost := never) (sts := sts) (i := i) (s := s) (n := sts.length)).2.2
    have e : an3 never sts s (i :: l) = an3 never sts (an1s never sts i s sts.length) l := rfl
    rw [e, an3_never (fun x hx => by rw [hl]; exact h x (List.mem_cons_of_mem _ hx)), an1s_never hi]
    by_cases hji : j = i
    · subst hji
      cases s.2.getD j false <;> simp
    · simp [hji]
theorem finS_at {A : List Bool} : ∀ {l : List Nat} {sts : List St} {j : Nat}, l.Nodup → (∀ i ∈ l, i < sts.length) → (finS A sts l).getD j default = if j ∈ l then (sts.getD j default).fin (A.getD j false) else sts.getD j default
  | [], sts, j, _, _ => by simp [finS]
  | i :: l, sts, j, hn, h => by
    have hi := h i (List.mem_cons_self ..)
    have hn' := List.nodup_cons.1 hn
    have e : finS A sts (i :: l) = finS A (sts.set i ((sts.getD i default).fin (A.getD i false))) l := rfl
    rw [e, finS_at hn'.2 (fun x hx => by rw [List.length_set]; exact h x (List.mem_cons_of_mem _ hx))]
    by_cases hji : j = i
    · subst hji
      rw [if_neg hn'.1, if_pos (List.mem_cons_self ..), gD_set_self hi]
    · rw [gD_set_ne (Ne.symm hji)]
      simp [hji]
theorem askS_mem {sts : List St} {i : Nat} : i ∈ askS sts sts.length ↔ i < sts.length ∧ (sts.getD i default).state = 1 := by
  simp [askS, List.mem_filter]
theorem askS_nodup {sts : List St} {n : Nat} : (askS sts n).Nodup := List.filter_sublist.nodup List.nodup_range
theorem step_len {lost : Int → Bool} {sts : List St} {f : Int} : (step lost sts f).1.length = sts.length := finS_len
theorem step_f {lost : Int → Bool} {sts : List St} {f : Int} (h : sts.length ≤ 40) : f ≤ (step lost sts f).2 ∧ (step lost sts f).2 ≤ f + 1640 := by
  unfold step
  have h1 := askS_len (sts := sts) (n := sts.length)
  have h2 := hearS_len (lost := lost) (l := askS sts sts.length) (f := f)
  have h3 := an3_bd (lost := lost) (sts := sts) (l := hearS lost (askS sts sts.length) f) (s := (f + (askS sts sts.length).length, List.replicate sts.length false))
  have hmul : (hearS lost (askS sts sts.length) f).length * sts.length ≤ 1600 := Nat.le_trans (Nat.mul_le_mul (show _ ≤ 40 by omega) h) (by omega)
  have hmul' : ((hearS lost (askS sts sts.length) f).length : Int) * (sts.length : Int) ≤ 1600 := by exact_mod_cast hmul
  simp only at h3 ⊢
  omega
/-- What a step does to a station, if no frame is lost. -/
theorem step_never {sts : List St} {f : Int} {j : Nat} (hj : j < sts.length) : ((step never sts f).1).getD j default = if (sts.getD j default).state = 1 then (sts.getD j default).fin (decide (∃ k, k < sts.length ∧ ans sts k j = true)) else sts.getD j default := by
  unfold step
  simp only [hear_never]
  rw [finS_at askS_nodup fun i hi => (askS_mem.1 hi).1]
  have hm : j ∈ askS sts sts.length ↔ (sts.getD j default).state = 1 := askS_mem.trans ⟨fun h => h.2, fun h => ⟨hj, h⟩⟩
  simp only [hm]
  split
  · rename_i h1
    rw [an3_never (fun i hi => by rw [List.length_replicate]; exact (askS_mem.1 hi).1)]
    have : (List.replicate sts.length false).getD j false = false := by rw [List.getD_eq_getElem?_getD, List.getElem?_replicate]; split <;> rfl
    simp only [this, hm.2 h1, decide_true, Bool.true_and, Bool.false_or]
  · rfl
/-- Stations with empty rows that search. -/
structure Fnd (sts : List St) (t : Int) : Prop where
  n : sts.length ≤ 40
  row : ∀ i, i < sts.length → (sts.getD i default).row = [] ∧ (sts.getD i default).on = true
  ok : ∀ i, i < sts.length → (sts.getD i default).Ok
  st : ∀ i, i < sts.length → (sts.getD i default).state = 1 ∨ ((sts.getD i default).state = 2 ∧ (sts.getD i default).sent = 8 ∧ (sts.getD i default).node = (sts.getD i default).k + 1)
  strong : ∀ i j, i < sts.length → j < sts.length → i ≠ j → 0 < (sts.getD i default).sent → 0 < (sts.getD j default).sent → (sts.getD i default).k ≠ (sts.getD j default).k
  held : ∀ i, i < sts.length → ∀ g : Int, 0 ≤ g → g < (sts.getD i default).k → ∃ j, j < sts.length ∧ (sts.getD j default).k = g ∧ 0 < (sts.getD j default).sent
  pot : ∀ i, i < sts.length → (sts.getD i default).state = 1 → t ≤ 8 * (sts.getD i default).k + (sts.getD i default).sent
theorem hold_le {n : Nat} {k : Nat → Int} {K : Nat} (h : ∀ g : Nat, g < K → ∃ j, j < n ∧ k j = g) : K ≤ n := by
  have key : ∀ g : Nat, ∃ j, g < K → j < n ∧ k j = g := fun g => by
    by_cases hg : g < K
    · obtain ⟨j, hj⟩ := h g hg; exact ⟨j, fun _ => hj⟩
    · exact ⟨0, fun h => absurd h hg⟩
  have := AM.nodup_le n ((List.range K).map fun g => Classical.choose (key g)) ?_ ?_
  · simpa using this
  · rw [List.Nodup, List.pairwise_map]
    refine List.nodup_range.imp_of_mem fun {a b} ha hb hne he => hne ?_
    have h1 := (Classical.choose_spec (key a) (List.mem_range.1 ha)).2
    have h2 := (Classical.choose_spec (key b) (List.mem_range.1 hb)).2
    rw [he, h2] at h1
    omega
  · intro x hx
    obtain ⟨g, hg, rfl⟩ := List.mem_map.1 hx
    exact (Classical.choose_spec (key g) (List.mem_range.1 hg)).1
theorem gs_nil {s : St} (h : s.row = []) (hk : 0 ≤ s.k ∧ s.k < 253) : s.gs = s.k + 1 := by
  unfold St.gs guess
  rw [if_pos h, Int.tmod_eq_of_lt hk.1 hk.2]
  omega
theorem Fnd.step {sts : List St} {t f : Int} (h : Fnd sts t) : Fnd (step never sts f).1 (t + 1) := by
  have hn := h.n
  -- who answers whom
  have at1 : ∀ i, i < sts.length → (sts.getD i default).state = 1 → (sts.getD i default).gs = (sts.getD i default).k + 1 := fun i hi h1 => gs_nil (h.row i hi).1 ⟨(h.ok i hi).k.1, ((h.ok i hi).go h1).1⟩
  have ansD : ∀ k j, k < sts.length → j < sts.length → (sts.getD j default).state = 1 → (ans sts k j = true ↔ k ≠ j ∧ (sts.getD k default).k = (sts.getD j default).k ∧ ((sts.getD k default).state = 2 ∨ ((sts.getD k default).state = 1 ∧ ((sts.getD j default).sent < (sts.getD k default).sent ∨ (sts.getD k default).sent = (sts.getD j default).sent ∧ k < j)))) := fun k j hk hj h1 => by
    have e1 := at1 j hj h1
    have e2 := (h.row k hk).2
    unfold ans
    simp only [e1]
    by_cases hkj : k = j
    · simp [hkj]
    · rcases h.st k hk with hs | ⟨hs, hs8, hsn⟩
      · have e3 := at1 k hk hs
        generalize sts.getD k default = s at *
        generalize sts.getD j default = u at *
        simp [hkj, e2, hs, e3]
      · generalize sts.getD k default = s at *
        generalize sts.getD j default = u at *
        simp [hkj, e2, hs, hsn]
  have small : ∀ i, i < sts.length → (sts.getD i default).k < 40 := fun i hi => by
    have hk0 := (h.ok i hi).k.1
    have := hold_le (n := sts.length) (k := fun j => (sts.getD j default).k) (K := (sts.getD i default).k.toNat) fun g hg => by
      obtain ⟨j, hj, e, _⟩ := h.held i hi g (by omega) (by omega)
      exact ⟨j, hj, e⟩
    by_cases hlt : (sts.getD i default).k < 40
    · exact hlt
    · exfalso
      -- i's own place: one more
      have := hold_le (n := sts.length) (k := fun j => (sts.getD j default).k) (K := (sts.getD i default).k.toNat + 1) fun g hg => by
        by_cases hgi : g = (sts.getD i default).k.toNat
        · exact ⟨i, hi, by omega⟩
        · obtain ⟨j, hj, e, _⟩ := h.held i hi g (by omega) (by omega)
          exact ⟨j, hj, e⟩
      omega
  have nx : ∀ i, i < sts.length → ((Ytgnnkpgceahjdaa.step never sts f).1).getD i default = if (sts.getD i default).state = 1 then (sts.getD i default).fin (decide (∃ k, k < sts.length ∧ ans sts k i = true)) else sts.getD i default := fun i hi => step_never hi
  -- a strong one is not answered
  have noans : ∀ i, i < sts.length → (sts.getD i default).state = 1 → 0 < (sts.getD i default).sent → ¬ ∃ k, k < sts.length ∧ ans sts k i = true := by
    rintro i hi h1 h2 ⟨k, hk, ha⟩
    obtain ⟨a1, a2, a3⟩ := (ansD k i hk hi h1).1 ha
    have hs : 0 < (sts.getD k default).sent := by
      rcases a3 with a3 | ⟨_, a3⟩
      · rcases h.st k hk with hs | ⟨_, hs8, _⟩
        · rw [hs] at a3; cases a3
        · omega
      · omega
    exact h.strong k i hk hi a1 hs h2 a2
  -- a station behind a step
  have beh : ∀ i, i < sts.length → ∃ s', ((Ytgnnkpgceahjdaa.step never sts f).1).getD i default = s' ∧
      ((0 < (sts.getD i default).sent ∧ s'.k = (sts.getD i default).k ∧ 0 < s'.sent) ∨ ((sts.getD i default).sent = 0 ∧ (sts.getD i default).state = 1 ∧ (¬ ∃ k, k < sts.length ∧ ans sts k i = true) ∧ s'.k = (sts.getD i default).k ∧ s'.sent = 1) ∨ ((sts.getD i default).sent = 0 ∧ (sts.getD i default).state = 1 ∧ (∃ k, k < sts.length ∧ ans sts k i = true) ∧ s'.k = (sts.getD i default).k + 1 ∧ s'.sent = 0)) ∧
      s'.row = [] ∧ s'.on = true ∧ s'.Ok ∧ (s'.state = 1 ∨ (s'.state = 2 ∧ s'.sent = 8 ∧ s'.node = s'.k + 1)) ∧ (s'.state = 1 → t + 1 ≤ 8 * s'.k + s'.sent) := fun i hi => by
    refine ⟨_, rfl, ?_⟩
    rw [nx i hi]
    have hrow := h.row i hi
    have hok := h.ok i hi
    have hsm := small i hi
    have hst := h.st i hi
    by_cases h1 : (sts.getD i default).state = 1
    · rw [if_pos h1]
      have hgs := at1 i hi h1
      have hpot := h.pot i hi h1
      have hgo := hok.go h1
      by_cases ha : ∃ k, k < sts.length ∧ ans sts k i = true
      · have hs0 : (sts.getD i default).sent = 0 := by
          by_cases hs : 0 < (sts.getD i default).sent
          · exact absurd ha (noans i hi h1 hs)
          · have := hok.sent; omega
        have hf := hok.fin h1 true
        rw [decide_eq_true ha]
        generalize sts.getD i default = s at *
        unfold St.fin at hf ⊢
        simp only [if_true] at hf ⊢
        rw [if_neg (show ¬ s.k + 1 = 253 by omega)] at hf ⊢
        exact ⟨.inr (.inr ⟨hs0, h1, ha, by first | rfl | trivial, by first | rfl | trivial⟩), hrow.1, hrow.2, hf, .inl h1, fun _ => by first | omega | (simp only; omega)⟩
      · have hf := hok.fin h1 false
        have hss := hok.sent
        rw [decide_eq_false ha]
        generalize sts.getD i default = s at *
        unfold St.fin at hf ⊢
        simp only [Bool.false_eq_true, if_false] at hf ⊢
        have c1 : ∀ s' : St, s'.k = s.k → s'.sent = s.sent + 1 → ((0 < s.sent ∧ s'.k = s.k ∧ 0 < s'.sent) ∨ (s.sent = 0 ∧ s.state = 1 ∧ (¬ ∃ k, k < sts.length ∧ ans sts k i = true) ∧ s'.k = s.k ∧ s'.sent = 1) ∨ (s.sent = 0 ∧ s.state = 1 ∧ (∃ k, k < sts.length ∧ ans sts k i = true) ∧ s'.k = s.k + 1 ∧ s'.sent = 0)) := fun s' e1 e2 => by
          by_cases hs : 0 < s.sent
          · exact .inl ⟨hs, e1, by omega⟩
          · exact .inr (.inl ⟨by omega, h1, ha, e1, by omega⟩)
        by_cases h8 : s.sent + 1 = 8
        · rw [if_pos h8] at hf ⊢
          exact ⟨c1 _ rfl (by first | omega | (simp only; omega)), hrow.1, hrow.2, hf, .inr ⟨rfl, rfl, hgs⟩, fun hh => by cases hh⟩
        · rw [if_neg h8] at hf ⊢
          exact ⟨c1 _ rfl rfl, hrow.1, hrow.2, hf, .inl h1, fun _ => by first | omega | (simp only; omega)⟩
    · rw [if_neg h1]
      rcases hst with hst | hst
      · exact absurd hst h1
      · exact ⟨.inl ⟨by omega, rfl, by omega⟩, hrow.1, hrow.2, hok, .inr hst, fun hh => absurd hh h1⟩
  refine ⟨by rw [step_len]; exact hn, fun i hi => ?_, fun i hi => ?_, fun i hi => ?_, fun i j hi hj hij s1 s2 => ?_, fun i hi g g0 g1 => ?_, fun i hi => ?_⟩
  all_goals rw [step_len] at hi
  · obtain ⟨s', e, _, h1, h2, _⟩ := beh i hi; rw [e]; exact ⟨h1, h2⟩
  · obtain ⟨s', e, _, _, _, h1, _⟩ := beh i hi; rw [e]; exact h1
  · obtain ⟨s', e, _, _, _, _, h1, _⟩ := beh i hi; rw [e]; exact h1
  · rw [step_len] at hj
    obtain ⟨a, ea, ca, _⟩ := beh i hi
    obtain ⟨b, eb, cb, _⟩ := beh j hj
    rw [ea] at s1 ⊢
    rw [eb] at s2 ⊢
    intro he
    have cross : ∀ i j, i < sts.length → j < sts.length → i ≠ j → 0 < (sts.getD i default).sent → (sts.getD j default).state = 1 → (sts.getD j default).sent = 0 → (sts.getD i default).k = (sts.getD j default).k → ∃ k, k < sts.length ∧ ans sts k j = true := fun i j hi hj hij hs h1 h0 hk => by
      refine ⟨i, hi, (ansD i j hi hj h1).2 ⟨hij, hk, ?_⟩⟩
      rcases h.st i hi with hs1 | ⟨hs2, _⟩
      · exact .inr ⟨hs1, .inl (by omega)⟩
      · exact .inl hs2
    rcases ca with ⟨a1, a2, _⟩ | ⟨a1, a2, a3, a4, _⟩ | ⟨_, _, _, _, a5⟩
    · rcases cb with ⟨b1, b2, _⟩ | ⟨b1, b2, b3, b4, _⟩ | ⟨_, _, _, _, b5⟩
      · exact h.strong i j hi hj hij a1 b1 (by rw [← a2, ← b2]; exact he)
      · exact b3 (cross i j hi hj hij a1 b2 b1 (by rw [← a2, ← b4]; exact he))
      · omega
    · rcases cb with ⟨b1, b2, _⟩ | ⟨b1, b2, b3, b4, _⟩ | ⟨_, _, _, _, b5⟩
      · exact a3 (cross j i hj hi (Ne.symm hij) b1 a2 a1 (by rw [← a4, ← b2]; exact he.symm))
      · have hkk : (sts.getD i default).k = (sts.getD j default).k := by rw [← a4, ← b4]; exact he
        rcases Nat.lt_or_gt_of_ne hij with hlt | hlt
        · exact b3 ⟨i, hi, (ansD i j hi hj b2).2 ⟨hij, hkk, .inr ⟨a2, .inr ⟨by omega, hlt⟩⟩⟩⟩
        · exact a3 ⟨j, hj, (ansD j i hj hi a2).2 ⟨Ne.symm hij, hkk.symm, .inr ⟨b2, .inr ⟨by omega, hlt⟩⟩⟩⟩
      · omega
    · omega
  · -- what is held stays so
    rw [step_len]
    have keep : ∀ j, j < sts.length → 0 < (sts.getD j default).sent → ∃ j', j' < sts.length ∧ (((Ytgnnkpgceahjdaa.step never sts f).1).getD j' default).k = (sts.getD j default).k ∧ 0 < (((Ytgnnkpgceahjdaa.step never sts f).1).getD j' default).sent := fun j hj hs => by
      obtain ⟨s', e, c, _⟩ := beh j hj
      refine ⟨j, hj, ?_⟩
      rw [e]
      rcases c with ⟨_, c1, c2⟩ | ⟨c0, _⟩ | ⟨c0, _⟩
      · exact ⟨c1, c2⟩
      · omega
      · omega
    obtain ⟨s', e, c, _⟩ := beh i hi
    rw [e] at g1
    by_cases hg : g < (sts.getD i default).k
    · obtain ⟨j, hj, h1, h2⟩ := h.held i hi g g0 hg
      obtain ⟨j', h3, h4, h5⟩ := keep j hj h2
      exact ⟨j', h3, by rw [h4, h1], h5⟩
    · rcases c with ⟨_, c1, _⟩ | ⟨_, _, _, c1, _⟩ | ⟨_, c0, ⟨k, hk, ha⟩, c1, _⟩
      · omega
      · omega
      · have hge : g = (sts.getD i default).k := by omega
        -- somebody at g is strong, or the first one becomes so
        by_cases hex : ∃ j, j < sts.length ∧ (sts.getD j default).k = g ∧ 0 < (sts.getD j default).sent
        · obtain ⟨j, hj, h1, h2⟩ := hex
          obtain ⟨j', h3, h4, h5⟩ := keep j hj h2
          exact ⟨j', h3, by rw [h4, h1], h5⟩
        · have weak : ∀ j, j < sts.length → (sts.getD j default).k = g → (sts.getD j default).sent = 0 ∧ (sts.getD j default).state = 1 := fun j hj hk => by
            have h0 : (sts.getD j default).sent = 0 := by
              by_cases hs : 0 < (sts.getD j default).sent
              · exact absurd ⟨j, hj, hk, hs⟩ hex
              · have := (h.ok j hj).sent; omega
            refine ⟨h0, ?_⟩
            rcases h.st j hj with h1 | ⟨_, h8, _⟩
            · exact h1
            · omega
          -- the least index at g
          have least : ∀ m, m < sts.length → (sts.getD m default).k = g → ∃ j, j < sts.length ∧ (sts.getD j default).k = g ∧ ∀ x, x < j → (sts.getD x default).k ≠ g := by
            intro m
            induction m using Nat.strongRecOn with
            | ind m ih =>
              intro hm hmk
              by_cases hx : ∃ x, x < m ∧ (sts.getD x default).k = g
              · obtain ⟨x, hx1, hx2⟩ := hx
                exact ih x hx1 (by omega) hx2
              · exact ⟨m, hm, hmk, fun x hx1 hx2 => hx ⟨x, hx1, hx2⟩⟩
          obtain ⟨j, hj, hjk, hjl⟩ := least i hi hge.symm
          obtain ⟨w1, w2⟩ := weak j hj hjk
          obtain ⟨s2, e2, d, _⟩ := beh j hj
          refine ⟨j, hj, ?_⟩
          rw [e2]
          rcases d with ⟨d0, _⟩ | ⟨_, _, _, d1, d2⟩ | ⟨_, _, ⟨y, hy, hya⟩, _⟩
          · omega
          · exact ⟨by rw [d1, hjk], by omega⟩
          · exfalso
            obtain ⟨y1, y2, y3⟩ := (ansD y j hy hj w2).1 hya
            obtain ⟨v1, v2⟩ := weak y hy (by rw [y2, hjk])
            rcases y3 with y3 | ⟨_, y3⟩
            · rw [v2] at y3; cases y3
            · rcases y3 with y3 | ⟨_, y3⟩
              · omega
              · exact hjl y y3 (by rw [y2, hjk])
  · obtain ⟨s', e, _, _, _, _, _, h1⟩ := beh i hi; rw [e]; exact h1

end
section
open Go Go.AM Go.Proofs
/-- No two are settled at one number; who is settled is on. -/
structure Alone (sts : List St) : Prop where
  on : ∀ j, j < sts.length → (sts.getD j default).state = 2 → (sts.getD j default).on = true
  ne : ∀ i j, i < sts.length → j < sts.length → i ≠ j → (sts.getD i default).state = 2 → (sts.getD j default).state = 2 → (sts.getD i default).node ≠ (sts.getD j default).node
theorem Alone.nil : Alone [] := ⟨fun j hj => by simp at hj, fun i j hi => by simp at hi⟩
theorem Alone.set {sts : List St} (h : Alone sts) {j : Nat} {s : St} (hj : j < sts.length) (hs : s = sts.getD j default ∨ s.state ≠ 2) : Alone (sts.set j s) := by
  rcases hs with rfl | hs
  · have e : sts.set j (sts.getD j default) = sts := by
      rw [List.getD_eq_getElem?_getD, List.getElem?_eq_getElem hj]
      exact List.set_getElem_self hj
    rw [e]; exact h
  · refine ⟨fun i hi h2 => ?_, fun a b ha hb hab h2 h3 => ?_⟩
    · rw [List.length_set] at hi
      by_cases hij : j = i
      · subst hij; rw [gD_set_self hj] at h2; exact absurd h2 hs
      · rw [gD_set_ne hij] at h2 ⊢; exact h.on i hi h2
    · rw [List.length_set] at ha hb
      by_cases h1 : j = a
      · subst h1; rw [gD_set_self hj] at h2; exact absurd h2 hs
      by_cases h4 : j = b
      · subst h4; rw [gD_set_self hj] at h3; exact absurd h3 hs
      rw [gD_set_ne h1] at h2 ⊢
      rw [gD_set_ne h4] at h3 ⊢
      exact h.ne a b ha hb hab h2 h3
theorem Alone.more {sts : List St} (h : Alone sts) {s : St} (hs : s.state ≠ 2) : Alone (sts ++ [s]) := by
  have g1 : ∀ j, j < sts.length → (sts ++ [s]).getD j default = sts.getD j default := fun j hj => by
    rw [List.getD_eq_getElem?_getD, List.getD_eq_getElem?_getD, List.getElem?_append_left hj]
  have g2 : ∀ j, j < (sts ++ [s]).length → ((sts ++ [s]).getD j default).state = 2 → j < sts.length := fun j hj h2 => by
    rw [List.length_append, List.length_singleton] at hj
    apply Classical.byContradiction
    intro hn
    have he : j = sts.length := by omega
    subst he
    rw [List.getD_eq_getElem?_getD, List.getElem?_append_right (Nat.le_refl _), Nat.sub_self] at h2
    exact hs h2
  refine ⟨fun j hj h2 => ?_, fun i j hi hj hij h2 h3 => ?_⟩
  · have := g2 j hj h2
    rw [g1 j this] at h2 ⊢
    exact h.on j this h2
  · have a := g2 i hi h2
    have b := g2 j hj h3
    rw [g1 i a] at h2 ⊢
    rw [g1 j b] at h3 ⊢
    exact h.ne i j a b hij h2 h3
theorem fin_on {s : St} {a : Bool} : (s.fin a).on = s.on := by
  unfold St.fin
  split
  · rfl
  · split <;> rfl
theorem fin_2 {s : St} {a : Bool} (h1 : s.state = 1) (h : (s.fin a).state = 2) : a = false ∧ (s.fin a).node = s.gs := by
  unfold St.fin at h ⊢
  cases a
  · refine ⟨rfl, ?_⟩
    simp only [Bool.false_eq_true, if_false] at h ⊢
    split at h
    · rename_i h8; rw [if_pos h8]
    · simp only at h; omega
  · simp only [if_true] at h
    split at h
    · cases h
    · omega
theorem Alone.stp {sts : List St} (h : Alone sts) (ok : ∀ s ∈ sts, s.Ok) {f : Int} : Alone (step never sts f).1 := by
  have okj : ∀ j, j < sts.length → (sts.getD j default).Ok := fun j hj => by
    rw [List.getD_eq_getElem?_getD, List.getElem?_eq_getElem hj]
    exact ok _ (List.getElem_mem hj)
  have hl := step_len (lost := never) (sts := sts) (f := f)
  have new : ∀ j, j < sts.length → ((step never sts f).1.getD j default).state = 2 → (sts.getD j default).on = true ∧ ((step never sts f).1.getD j default).on = true ∧ ((sts.getD j default).state = 2 ∧ (step never sts f).1.getD j default = sts.getD j default ∨ (sts.getD j default).state = 1 ∧ ((step never sts f).1.getD j default).node = (sts.getD j default).gs ∧ ∀ k, k < sts.length → ans sts k j = false) := fun j hj h2 => by
    rw [step_never hj] at h2 ⊢
    split at h2
    · rename_i h1
      rw [if_pos h1]
      obtain ⟨a, b⟩ := fin_2 h1 h2
      have hon := ((okj j hj).go h1).2.2
      refine ⟨hon, fin_on.trans hon, .inr ⟨h1, b, fun k hk => ?_⟩⟩
      have := of_decide_eq_false a
      cases hx : ans sts k j with
      | false => rfl
      | true => exact absurd ⟨k, hk, hx⟩ this
    · rename_i h1
      rw [if_neg h1]
      exact ⟨h.on j hj h2, h.on j hj h2, .inl ⟨h2, rfl⟩⟩
  refine ⟨fun j hj h2 => (new j (hl ▸ hj) h2).2.1, fun i j hi hj hij h2 h3 => ?_⟩
  rw [hl] at hi hj
  obtain ⟨a1, _, a2⟩ := new i hi h2
  obtain ⟨b1, _, b2⟩ := new j hj h3
  rcases a2 with ⟨a2, a3⟩ | ⟨a2, a3, a4⟩
  · rcases b2 with ⟨b2, b3⟩ | ⟨b2, b3, b4⟩
    · rw [a3, b3]; exact h.ne i j hi hj hij a2 b2
    · have := b4 i hi
      simp only [ans, hij, a1, a2, false_or, Bool.true_eq_false, if_false, if_true, decide_eq_false_iff_not] at this
      rw [a3, b3]; exact this
  · rcases b2 with ⟨b2, b3⟩ | ⟨b2, b3, b4⟩
    · have := a4 j hj
      simp only [ans, Ne.symm hij, b1, b2, false_or, Bool.true_eq_false, if_false, if_true, decide_eq_false_iff_not] at this
      rw [a3, b3]; exact fun he => this he.symm
    · have t1 := b4 i hi
      have t2 := a4 j hj
      have n1 : ¬ ((1 : Int) = 2) := by decide
      simp only [ans, hij, a1, a2, b1, b2, false_or, Bool.true_eq_false, if_false, if_true, n1, decide_eq_false_iff_not] at t1
      simp only [ans, Ne.symm hij, a1, a2, b1, b2, false_or, Bool.true_eq_false, if_false, if_true, n1, decide_eq_false_iff_not] at t2
      rw [a3, b3]
      intro he
      have u1 : ¬ ((sts.getD j default).sent < (sts.getD i default).sent ∨ (sts.getD i default).sent = (sts.getD j default).sent ∧ i < j) := fun hh => t1 ⟨he, hh⟩
      have u2 : ¬ ((sts.getD i default).sent < (sts.getD j default).sent ∨ (sts.getD j default).sent = (sts.getD i default).sent ∧ j < i) := fun hh => t2 ⟨he.symm, hh⟩
      omega
/-- A station that is turned on or off. -/
def St.turn (s : St) (o : Bool) : St := if s.on = o then s else { s with on := o, state := 0 }
theorem St.Ok.turn {s : St} (h : s.Ok) (o : Bool) : (s.turn o).Ok := by
  unfold St.turn
  split
  · exact h
  · exact ⟨h.k, h.sent, .inl rfl, h.node, (fun h1 => by cases h1), h.wf, h.len⟩
theorem turn_2 {s : St} {o : Bool} : s.turn o = s ∨ (s.turn o).state ≠ 2 := by
  unfold St.turn
  split
  · exact .inl rfl
  · exact .inr (by simp)

end
section
open Go Go.AM Go.Proofs
theorem ite_of {c : Prop} [Decidable c] {a b : Prop} (h1 : c → a) (h2 : ¬ c → b) : if c then a else b := by
  by_cases h : c
  · rw [if_pos h]; exact h1 h
  · rw [if_neg h]; exact h2 h
section
variable {H G : AHeap} {k w : Nat} {ln : Bool} {lost : List Int} {sv : AV} {ids : List Nat} {sts : List St} {f : Int} {K : AV → AHeap → Prop}
theorem ld68 {q : Nat} {s : St} (h : H q = some (sObj s)) : ldV false 1 (.ptr q 0 0 1) H = some (.d (.bool s.on)) ∧ ldV false 1 (.ptr q 0 0 2) H = some (.d (.int .i64 s.state)) ∧ ldV false 1 (.ptr q 0 0 5) H = some (.d (.int .i64 s.node)) :=
  ⟨ldV_at h rfl rfl, ldV_at h rfl rfl, ldV_at h rfl rfl⟩
theorem Turn_c (h : BusAt H k ln lost sv ids sts f) {i : Int} {o : Bool} (h1 : ¬ (0 ≤ i ∧ i < sts.length) → K (.d (.int .i64 2)) H) (h2 : ∀ j : Nat, j < sts.length → i = j → ∀ H', BusAt H' k ln lost sv ids (sts.set j ((sts.getD j default).turn o)) f → (∀ x, ¬ foot k sv ids x → H' x = H x) → K (.d (.int .i64 0)) H') : CallsA Try.prog 79 [.ptr k 0 0 0, .d (.int .i64 i), .d (.bool o)] H K := by
  apply C79
  unfold S79
  simp only [frzLK_ptr, frzLK_d, frzLK_nil]
  refine asked_c h ?_
  by_cases hi : 0 ≤ i ∧ i < sts.length
  · obtain ⟨j, rfl⟩ : ∃ j : Nat, i = j := ⟨i.toNat, by omega⟩
    have hj : j < sts.length := by omega
    obtain ⟨p, e1, e2⟩ := h.sts.ix hj
    have e3 := h.sts.obj j hj
    have hput := h.put hj ((h.sts.okj hj).turn o)
    have hmem := h.sts.mem hj
    have k2 := h2 j hj rfl
    clear h2
    have hid : sts.set j (sts.getD j default) = sts := by
      rw [List.getD_eq_getElem?_getD, List.getElem?_eq_getElem hj]
      exact List.set_getElem_self hj
    rw [if_pos hi]
    generalize ids.getD j 0 = q at *
    generalize hs : sts.getD j default = s at *
    have lv : ldV false 1 (.ptr k 0 0 2) H = some sv := ldV_at h.node rfl rfl
    obtain ⟨lo, _, _⟩ := ld68 e3
    simp only [intA_neq, Int.reduceEq, Int.reduceNe, Int.reduceLT, Int.reduceLE, not_true_eq_false, not_false_eq_true, decide_true, decide_false, Int.reduceAdd, Int.reduceSub, Int.reduceMul, optA_some, ifA_f, nilCk_ptr, ti156_f2, Nat.zero_add, lv, e1, e2, ti162_f1, ti162_f2, lo, boolA_neq, ne_eq]
    by_cases hb : s.on = o
    · have ht : s.turn o = s := by unfold St.turn; rw [if_pos hb]
      rw [ht, hid] at k2
      subst hb
      simp only [beq_self_eq_true, Bool.not_true, ifA_f, go_sem]
      exact ⟨_, le_refl', k2 H h fun _ _ => rfl⟩
    · have ht : s.turn o = { s with on := o, state := 0 } := by unfold St.turn; rw [if_neg hb]
      rw [ht] at k2 hput
      have hb' : (s.on == o) = false := by simpa using hb
      have st1 : stoA false 1 (.ptr q 0 0 1) (.d (.bool o)) H = some (.junk, [(q, sObj { s with on := o })]) := stoA_at e3 (Nat.le_refl 0) rfl (show 1 < 6 by decide) rfl rfl
      have st2 : stoA false 1 (.ptr q 0 0 2) (.d (.int .i64 0)) (H.set q (sObj { s with on := o })) = some (.junk, [(q, sObj { s with on := o, state := 0 })]) := stoA_at (l := [St.cells { s with on := o }]) (cs := St.cells { s with on := o }) (esz := 6) (fro := 0) set_self (Nat.le_refl 0) rfl (show 2 < 6 by decide) rfl rfl
      simp only [hb', Bool.not_false, ifA_t, st1, stepK_some, sets_cons, sets_nil', st2, set_set]
      simp only [go_sem]
      exact ⟨_, le_refl', k2 _ hput fun x hx => set_ne fun he => hx (.inr (.inr (he ▸ hmem)))⟩
  · rw [if_neg hi]
    simp only [intA_neq, Int.reduceEq, Int.reduceNe, Int.reduceLT, Int.reduceLE, not_true_eq_false, not_false_eq_true, decide_true, decide_false, Int.reduceAdd, Int.reduceSub, Int.reduceMul, go_sem]
    exact ⟨_, le_refl', h1 hi⟩
theorem GuessAny_c (h : BusAt H k ln lost sv ids sts f) {i : Int} (h1 : ∀ n : Int, K (.d (.int .i64 n)) H) (h2 : ∀ j : Nat, j < sts.length → (sts.getD j default).on = true → ∀ H', BusAt H' k ln lost sv ids (sts.set j (sts.getD j default).begin) f → (∀ x, ¬ foot k sv ids x → H' x = H x) → K (.d (.int .i64 0)) H') : CallsA Try.prog 72 [.ptr k 0 0 0, .d (.int .i64 i)] H K := by
  by_cases hi : 0 ≤ i ∧ i < sts.length
  · obtain ⟨j, rfl⟩ : ∃ j : Nat, i = j := ⟨i.toNat, by omega⟩
    have hj : j < sts.length := by omega
    cases hon : (sts.getD j default).on with
    | true => exact Guess_c h hj hon (h2 j hj hon)
    | false =>
      apply C72
      unfold S72
      simp only [frzLK_ptr, frzLK_d, frzLK_nil]
      refine asked_c h ?_
      obtain ⟨p, e1, e2⟩ := h.sts.ix hj
      have e3 := h.sts.obj j hj
      rw [if_pos hi]
      have lv : ldV false 1 (.ptr k 0 0 2) H = some sv := ldV_at h.node rfl rfl
      obtain ⟨lo, _, _⟩ := ld68 e3
      simp only [intA_neq, Int.reduceEq, Int.reduceNe, Int.reduceLT, Int.reduceLE, not_true_eq_false, not_false_eq_true, decide_true, decide_false, Int.reduceAdd, Int.reduceSub, Int.reduceMul, optA_some, ifA_f, nilCk_ptr, ti156_f2, Nat.zero_add, lv, e1, e2, ti162_f1, lo, hon, unA_not, Bool.not_false, ifA_t, ne_eq]
      simp only [go_sem]
      exact ⟨_, le_refl', h1 _⟩
  · apply C72
    unfold S72
    simp only [frzLK_ptr, frzLK_d, frzLK_nil]
    refine asked_c h ?_
    rw [if_neg hi]
    simp only [intA_neq, Int.reduceEq, Int.reduceNe, Int.reduceLT, Int.reduceLE, not_true_eq_false, not_false_eq_true, decide_true, decide_false, Int.reduceAdd, Int.reduceSub, Int.reduceMul, go_sem]
    exact ⟨_, le_refl', h1 _⟩
theorem Clashes_c (h : BusAt H k ln lost sv ids sts f) (hA : Alone sts) (hk : K (.d (.sl true [])) H) : CallsA Try.prog 29 [.ptr k 0 0 0] H K := by
  apply C29
  unfold S29
  simp only [frzLK_ptr, frzLK_nil]
  refine none_c h ?_
  have lv : ldV false 1 (.ptr k 0 0 2) H = some sv := ldV_at h.node rfl rfl
  have hn := h.sts.n40
  simp only [ifA_f, nilCk_ptr, ti156_f2, Nat.zero_add, lv, h.sts.lenS, optA_some]
  refine loop_ind (fun n vs G => ∃ (j : Nat) (a b c : AV), j ≤ sts.length ∧ n = sts.length - j ∧ vs = [.ptr k 0 0 0, .d (.sl true []), a, b, c, sv, .d (.int .i64 sts.length), .d (.int .i64 (j : Int))] ∧ G = H) (n := sts.length) ⟨0, _, _, _, Nat.zero_le _, rfl, rfl, rfl⟩ ?_
  rintro X n vs G ⟨j, a, b, c, hj, rfl, rfl, rfl⟩ hX
  by_cases hjl : j = sts.length
  · subst hjl
    simp only [List.getD_cons_succ, List.getD_cons_zero, intA_lss, Int.lt_irrefl, Int.reduceEq, Int.reduceNe, Int.reduceLT, Int.reduceLE, not_true_eq_false, not_false_eq_true, decide_true, decide_false, Int.reduceAdd, Int.reduceSub, Int.reduceMul, go_sem]
    exact ⟨_, le_refl', hk⟩
  · have hj' : j < sts.length := by omega
    have hlt : (j : Int) < (sts.length : Int) := by omega
    obtain ⟨p, e1, e2⟩ := h.sts.ix hj'
    have e3 := h.sts.obj j hj'
    have hw : IntKind.i64.wrap ((j : Int) + 1) = ((j + 1 : Nat) : Int) := by rw [wrap_i64 (by omega) (by omega)]; omega
    obtain ⟨_, m2, m5⟩ := ld68 e3
    simp only [List.getD_cons_succ, List.getD_cons_zero, intA_lss, optA_some, hlt, decide_true, ifA_t, e1, e2, intA_add, hw]
    refine loop_ind (fun n vs G' => ∃ (i : Nat), j < i ∧ i ≤ sts.length ∧ n = sts.length - i ∧ vs = [.ptr k 0 0 0, .d (.sl true []), .d (.int .i64 (j : Int)), .ptr (ids.getD j 0) 0 0 0, .d (.int .i64 (i : Int)), sv, .d (.int .i64 sts.length), .d (.int .i64 (j : Int))] ∧ G' = G) (n := sts.length - (j + 1)) ⟨j + 1, by omega, by omega, rfl, rfl, rfl⟩ ?_
    rintro X' n vs G' ⟨i, hji, hi, rfl, rfl, rfl⟩ hX'
    by_cases hil : i = sts.length
    · have hni : ¬ ((i : Int) < (sts.length : Int)) := by omega
      simp only [List.getD_cons_succ, List.getD_cons_zero, nilCk_ptr, ti156_f2, Nat.zero_add, lv, h.sts.lenS, intA_lss, optA_some, hni, decide_false, ifA_f, intA_add, hw]
      exact hX (sts.length - (j + 1)) _ _ (by omega) ⟨j + 1, _, _, _, by omega, rfl, rfl, rfl⟩
    · have hi' : i < sts.length := by omega
      have hlt2 : (i : Int) < (sts.length : Int) := by omega
      obtain ⟨p2, g1, g2⟩ := h.sts.ix hi'
      have g3 := h.sts.obj i hi'
      obtain ⟨_, n2, n5⟩ := ld68 g3
      have hw2 : IntKind.i64.wrap ((i : Int) + 1) = ((i + 1 : Nat) : Int) := by rw [wrap_i64 (by omega) (by omega)]; omega
      have next := hX' (sts.length - (i + 1)) _ G' (by omega) ⟨i + 1, by omega, by omega, rfl, rfl, rfl⟩
      simp only [List.getD_cons_succ, List.getD_cons_zero, nilCk_ptr, ti156_f2, Nat.zero_add, lv, h.sts.lenS, intA_lss, optA_some, hlt2, decide_true, ifA_t, g1, g2, drA_true, ti162_f2, ti162_f5, m2, n2, m5, n5, intA_eql, intA_add, hw2, ifA_ite]
      refine ite_of (fun h1 => ?_) fun h1 => next
      refine ite_of (fun h2 => ?_) fun h2 => next
      exact ite_of (fun h3 => absurd h3 (hA.ne j i hj' hi' (by omega) h1 h2)) fun h3 => next
/-! ### an empty bus of the document -/
abbrev rObj0 : AObj := .mem 0 0 3 [[.d (.sl false []), .d (.sl true []), .d (.int .i64 0)]]
theorem bs3_0' {H : AHeap} {n : Nat} : bsA ti3 0 [] [] H n = some (.lit [], []) := rfl
theorem ap_0 {H : AHeap} {n : Nat} : apA 1 8 (.lit []) (.d (.sl true [])) H n = some (.lit [], []) := rfl
end

end
end Go.Proofs.Ytgnnkpgceahjdaa

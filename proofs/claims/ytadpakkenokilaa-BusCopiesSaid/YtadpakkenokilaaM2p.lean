/- A bus, told in plain Lean. -/
import Derived.Test.YtadpakkenokilaaA26
set_option autoImplicit false
set_option linter.unusedVariables false
set_option linter.unusedSimpArgs false
namespace Go.Proofs.Ytadpakkenokilaa
/-- A station: the program's. -/
structure St where
  rn : Bool
  row : List Int
  on : Bool
  state : Int
  k : Int
  sent : Int
  node : Int
instance : Inhabited St := ⟨⟨true, [], false, 0, 0, 0, 0⟩⟩
/-- The k-th guess of a row. -/
def guess (row : List Int) (k : Int) : Int := if row = [] then 1 + k.tmod 253 else 1 + ((row.getD (k.tmod row.length).toNat 0).tmod 253 + 253).tmod 253
def St.gs (s : St) : Int := guess s.row s.k
theorem tmod_bd (n : Int) : -253 < n.tmod 253 ∧ n.tmod 253 < 253 := by
  constructor
  · have := Int.tmod_lt_of_pos (-n) (show (0 : Int) < 253 by omega)
    rw [Int.neg_tmod] at this
    omega
  · exact Int.tmod_lt_of_pos n (by omega)
theorem guess_bd {row : List Int} {k : Int} (h : 0 ≤ k) : 1 ≤ guess row k ∧ guess row k ≤ 253 := by
  unfold guess
  split
  · have h1 := tmod_bd k
    have h2 : 0 ≤ k.tmod 253 := Int.tmod_nonneg _ h
    omega
  · generalize row.getD _ _ = x
    have h1 := tmod_bd x
    have h2 := tmod_bd (x.tmod 253 + 253)
    have h3 : 0 ≤ (x.tmod 253 + 253).tmod 253 := Int.tmod_nonneg _ (by omega)
    omega
/-- Does station i answer an enquiry of station o? -/
def ans (sts : List St) (i o : Nat) : Bool :=
  let s := sts.getD i default
  let t := sts.getD o default
  if i = o ∨ s.on = false then false
  else if s.state = 2 then decide (s.node = t.gs)
  else if s.state = 1 then decide (s.gs = t.gs ∧ (t.sent < s.sent ∨ s.sent = t.sent ∧ i < o))
  else false
def askS (sts : List St) (n : Nat) : List Nat := (List.range n).filter fun i => decide ((sts.getD i default).state = 1)
theorem askS_succ {sts : List St} {n : Nat} : askS sts (n + 1) = askS sts n ++ if (sts.getD n default).state = 1 then [n] else [] := by
  simp only [askS, List.range_succ, List.filter_append, List.filter_cons, List.filter_nil, decide_eq_true_eq]
theorem askS_lt {sts : List St} {n i : Nat} (h : i ∈ askS sts n) : i < n := by
  simp only [askS, List.mem_filter, List.mem_range] at h
  exact h.1
theorem askS_len {sts : List St} {n : Nat} : (askS sts n).length ≤ n := by
  have := List.length_filter_le (fun i => decide ((sts.getD i default).state = 1)) (List.range n)
  simpa [askS] using this
/-- Those whose enquiries come; f: the number of the first frame. -/
def hearS (lost : Int → Bool) : List Nat → Int → List Nat
  | [], _ => []
  | i :: l, f => if lost f then hearS lost l (f + 1) else i :: hearS lost l (f + 1)
theorem hearS_snoc {lost : Int → Bool} {x : Nat} : ∀ {l : List Nat} {f : Int}, hearS lost (l ++ [x]) f = hearS lost l f ++ if lost (f + (l.length : Int)) then [] else [x]
  | [], f => by simp [hearS]
  | i :: l, f => by
    have ih := hearS_snoc (lost := lost) (x := x) (l := l) (f := f + 1)
    have e : f + 1 + (l.length : Int) = f + ((i :: l).length : Int) := by simp; omega
    rw [e] at ih
    simp only [List.cons_append, hearS, ih]
    split <;> simp
theorem hearS_sub {lost : Int → Bool} {i : Nat} : ∀ {l : List Nat} {f : Int}, i ∈ hearS lost l f → i ∈ l
  | [], f, h => by simp [hearS] at h
  | j :: l, f, h => by
    simp only [hearS] at h
    split at h
    · exact List.mem_cons_of_mem _ (hearS_sub h)
    · rcases List.mem_cons.1 h with rfl | h
      · exact List.mem_cons_self ..
      · exact List.mem_cons_of_mem _ (hearS_sub h)
theorem hearS_len {lost : Int → Bool} : ∀ {l : List Nat} {f : Int}, (hearS lost l f).length ≤ l.length
  | [], f => by simp [hearS]
  | j :: l, f => by
    have := hearS_len (lost := lost) (l := l) (f := f + 1)
    simp only [hearS]
    split <;> simp <;> omega
/-- Station k is asked by i: the frames, and who was answered. -/
def an1 (lost : Int → Bool) (sts : List St) (i : Nat) (s : Int × List Bool) (k : Nat) : Int × List Bool :=
  if ans sts k i then (s.1 + 1, if lost s.1 then s.2 else s.2.set i true) else s
def an2 (lost : Int → Bool) (sts : List St) (s : Int × List Bool) (i : Nat) : Int × List Bool := (List.range sts.length).foldl (an1 lost sts i) s
def an3 (lost : Int → Bool) (sts : List St) (s : Int × List Bool) (heard : List Nat) : Int × List Bool := heard.foldl (an2 lost sts) s
theorem an1_bd {lost : Int → Bool} {sts : List St} {i k : Nat} {s : Int × List Bool} : s.1 ≤ (an1 lost sts i s k).1 ∧ (an1 lost sts i s k).1 ≤ s.1 + 1 ∧ (an1 lost sts i s k).2.length = s.2.length := by
  unfold an1
  split
  · refine ⟨by simp only; omega, by simp, ?_⟩
    simp only
    split
    · rfl
    · rw [List.length_set]
  · exact ⟨by omega, by omega, rfl⟩
def an1s (lost : Int → Bool) (sts : List St) (i : Nat) (s : Int × List Bool) (n : Nat) : Int × List Bool := (List.range n).foldl (an1 lost sts i) s
theorem an1s_succ {lost : Int → Bool} {sts : List St} {i n : Nat} {s : Int × List Bool} : an1s lost sts i s (n + 1) = an1 lost sts i (an1s lost sts i s n) n := by
  simp only [an1s, List.range_succ, List.foldl_append, List.foldl_cons, List.foldl_nil]
theorem an1s_bd {lost : Int → Bool} {sts : List St} {i : Nat} {s : Int × List Bool} : ∀ {n : Nat}, s.1 ≤ (an1s lost sts i s n).1 ∧ (an1s lost sts i s n).1 ≤ s.1 + n ∧ (an1s lost sts i s n).2.length = s.2.length
  | 0 => ⟨Int.le_refl _, by simp [an1s], rfl⟩
  | n + 1 => by
    have h1 := an1s_bd (lost := lost) (sts := sts) (i := i) (s := s) (n := n)
    have h2 := an1_bd (lost := lost) (sts := sts) (i := i) (k := n) (s := an1s lost sts i s n)
    rw [an1s_succ]
    refine ⟨by omega, by omega, h2.2.2.trans h1.2.2⟩
theorem an3_take {lost : Int → Bool} {sts : List St} {s : Int × List Bool} {l : List Nat} {j : Nat} (h : j < l.length) : an3 lost sts s (l.take (j + 1)) = an2 lost sts (an3 lost sts s (l.take j)) l[j] := by
  simp only [an3]
  rw [List.take_add_one, List.getElem?_eq_getElem h]
  simp only [List.foldl_append, Option.toList_some, List.foldl_cons, List.foldl_nil]
theorem an3_bd {lost : Int → Bool} {sts : List St} : ∀ {l : List Nat} {s : Int × List Bool}, s.1 ≤ (an3 lost sts s l).1 ∧ (an3 lost sts s l).1 ≤ s.1 + l.length * sts.length ∧ (an3 lost sts s l).2.length = s.2.length
  | [], s => ⟨Int.le_refl _, by simp [an3], rfl⟩
  | i :: l, s => by
    have h1 := an1s_bd (lost := lost) (sts := sts) (i := i) (s := s) (n := sts.length)
    have h2 := an3_bd (lost := lost) (sts := sts) (l := l) (s := an1s lost sts i s sts.length)
    have e : an3 lost sts s (i :: l) = an3 lost sts (an1s lost sts i s sts.length) l := rfl
    rw [e]
    have e2 : ((i :: l).length : Int) * (sts.length : Int) = (l.length : Int) * sts.length + sts.length := by
      rw [List.length_cons]; push_cast; rw [Int.add_mul, Int.one_mul]
    rw [e2]
    exact ⟨by omega, by omega, h2.2.2.trans h1.2.2⟩
/-- The end of a step of a station that guesses. -/
def St.fin (s : St) (a : Bool) : St :=
  if a then { s with k := s.k + 1, sent := 0, state := if s.k + 1 = 253 then 0 else s.state }
  else if s.sent + 1 = 8 then { s with sent := 8, state := 2, node := s.gs } else { s with sent := s.sent + 1 }
def finS (A : List Bool) (sts : List St) (l : List Nat) : List St := l.foldl (fun ss i => ss.set i ((ss.getD i default).fin (A.getD i false))) sts
theorem finS_take {A : List Bool} {sts : List St} {l : List Nat} {j : Nat} (h : j < l.length) : finS A sts (l.take (j + 1)) = (finS A sts (l.take j)).set l[j] (((finS A sts (l.take j)).getD l[j] default).fin (A.getD l[j] false)) := by
  simp only [finS]
  rw [List.take_add_one, List.getElem?_eq_getElem h]
  simp only [List.foldl_append, Option.toList_some, List.foldl_cons, List.foldl_nil]
theorem finS_len {A : List Bool} : ∀ {l : List Nat} {sts : List St}, (finS A sts l).length = sts.length
  | [], sts => rfl
  | i :: l, sts => by
    have e : finS A sts (i :: l) = finS A (sts.set i ((sts.getD i default).fin (A.getD i false))) l := rfl
    rw [e, finS_len, List.length_set]
/-- A step: the stations, and how many frames have been sent. -/
def step (lost : Int → Bool) (sts : List St) (f : Int) : List St × Int :=
  let ask := askS sts sts.length
  let s := an3 lost sts (f + ask.length, List.replicate sts.length false) (hearS lost ask f)
  (finS s.2 sts ask, s.1)
/-- What holds of a station at all times. -/
structure St.Ok (s : St) : Prop where
  k : 0 ≤ s.k ∧ s.k ≤ 253
  sent : 0 ≤ s.sent ∧ s.sent ≤ 8
  state : s.state = 0 ∨ s.state = 1 ∨ s.state = 2
  node : 0 ≤ s.node ∧ s.node ≤ 253
  go : s.state = 1 → s.k < 253 ∧ s.sent < 8 ∧ s.on = true
  wf : ∀ x ∈ s.row, -9223372036854775808 ≤ x ∧ x ≤ 9223372036854775807
  len : s.row.length < 2 ^ 40
theorem St.Ok.fin {s : St} (h : s.Ok) (h1 : s.state = 1) (a : Bool) : (s.fin a).Ok := by
  have h2 := h.go h1
  have h3 := guess_bd (row := s.row) h.k.1
  unfold St.fin
  split
  · have hk := h.k
    refine ⟨⟨by simp only; omega, by simp only; omega⟩, ⟨by simp, by simp⟩, ?_, h.node, ?_, h.wf, h.len⟩
    · simp only; split
      · exact .inl rfl
      · exact h.state
    · simp only
      split
      · intro h; cases h
      · intro _; exact ⟨by omega, by omega, h2.2.2⟩
  · have hs := h.sent
    split
    · exact ⟨h.k, ⟨by simp, by simp⟩, .inr (.inr rfl), ⟨by simp only [St.gs]; omega, by simp only [St.gs]; omega⟩, (fun hh => by cases hh), h.wf, h.len⟩
    · exact ⟨h.k, ⟨by simp only; omega, by simp only; omega⟩, h.state, h.node, fun _ => ⟨h2.1, by simp only; omega, h2.2.2⟩, h.wf, h.len⟩
end Go.Proofs.Ytadpakkenokilaa

/- A region that draws, told in one order: it can be told in each order that the edges allow. -/
import Derived.Test.YtmciomkibklokaaA18
set_option autoImplicit false
set_option linter.unusedVariables false
set_option linter.unusedSimpArgs false
namespace Go.AM
open Go.RowKit Go.MapKept

variable {P : Program} {γ : Calld} {all : List Oper} {H H' : AHeap} {e e' : Env}

/-! ### updates -/
theorem sets_out : ∀ {us : Ups} {H : AHeap} {i : Nat}, (∀ o, (i, o) ∉ us) → H.sets us i = H i
  | [], H, i, _ => rfl
  | (j, o) :: us, H, i, h => by
    have h1 : j ≠ i := fun hj => h o (by simp [hj])
    simp only [AHeap.sets]
    rw [sets_out fun o' ho => h o' (by simp [ho])]
    simp [AHeap.set, Ne.symm h1]
theorem sets_in : ∀ {us : Ups} {H H' : AHeap} {i : Nat} {o : AObj}, (i, o) ∈ us → H.sets us i = H'.sets us i
  | [], H, H', i, o, h => by simp at h
  | (j, p) :: us, H, H', i, o, h => by
    simp only [AHeap.sets]
    by_cases hm : ∃ o', (i, o') ∈ us
    · obtain ⟨o', ho⟩ := hm; exact sets_in ho
    · have hm' : ∀ o', (i, o') ∉ us := fun o' ho => hm ⟨o', ho⟩
      rw [sets_out hm', sets_out hm']
      have : i = j := by simp only [List.mem_cons, Prod.mk.injEq] at h; rcases h with h | h; exact h.1; exact absurd h (hm' o)
      simp [AHeap.set, this]
theorem sets_comm {us vs : Ups} (h : ∀ i o o', (i, o) ∈ us → (i, o') ∉ vs) : (H.sets us).sets vs = (H.sets vs).sets us := by
  funext i
  by_cases h1 : ∃ o, (i, o) ∈ us
  · obtain ⟨o, ho⟩ := h1
    rw [sets_out (us := vs) (h i o · ho)]
    exact sets_in ho
  · have h1' : ∀ o, (i, o) ∉ us := fun o ho => h1 ⟨o, ho⟩
    rw [sets_out (us := us) (H := H.sets vs) h1']
    by_cases h2 : ∃ o, (i, o) ∈ vs
    · obtain ⟨o, ho⟩ := h2; exact sets_in ho
    · have h2' : ∀ o, (i, o) ∉ vs := fun o ho => h2 ⟨o, ho⟩
      rw [sets_out h2', sets_out h2', sets_out h1']
theorem sets_some : ∀ {us : Ups} {H : AHeap} {i : Nat}, (H i).isSome → (H.sets us i).isSome
  | [], H, i, h => h
  | (j, o) :: us, H, i, h => by
    simp only [AHeap.sets]
    refine sets_some ?_
    unfold AHeap.set
    split
    · rfl
    · exact h
theorem sets_none {us : Ups} {i : Nat} (h : H.sets us i = none) : H i = none := by
  cases hi : H i with
  | none => rfl
  | some o => have := sets_some (us := us) (H := H) (i := i) (by rw [hi]; rfl); rw [h] at this; cases this
theorem upd_comm {d d' : Option Nat} {v v' : AV} (h : ∀ x, d = some x → d' ≠ some x) : upd (upd e d v) d' v' = upd (upd e d' v') d v := by
  cases d with
  | none => rfl
  | some d =>
    cases d' with
    | none => rfl
    | some d' =>
      have hne : d ≠ d' := fun he => h d rfl (by rw [he])
      funext i
      simp only [upd]
      by_cases h1 : i = d
      · subst h1; simp [hne]
      · simp [h1]
theorem upd_ev {d : Option Nat} {v : AV} {x : Operand} (h : ∀ t, d = some t → x ≠ .tmp t) : ev (upd e d v) x = ev e x := by
  cases d with
  | none => rfl
  | some d => cases x with
    | tmp t => simp only [ev, upd]; rw [if_neg fun ht => h d rfl (by rw [ht])]
    | _ => rfl

/-! ### events -/
structure Ev where
  ix : Nat
  o : Oper
  off : Bool
  n : Nat
  v : AV
  us : Ups
  rd : List AV
  wr : List AV

/-- A guard's answer. -/
def guardIs (all : List Oper) (o : Oper) (e : Env) (b : Bool) : Prop := match o.guard with
  | none => b = true
  | some (g, want) => ∃ s, guardSlot all g = some s ∧ ((∃ c, e s = .d (.bool c) ∧ (decide (c = want)) = b) ∨ (e s = .tup [] ∧ b = false))
/-- A call that leaves the heap alone, but for slices that it gets by content, here and wherever more lies there. -/
def callD (γ : Calld) (f : AV) (as : List AV) (H : AHeap) (v : AV) (us : Ups) : Prop :=
  ∃ g first caps l, f = .func g first caps ∧ (∀ x ∈ first ++ caps, noRs x = true) ∧ (∀ x ∈ first ++ as ++ caps, ∀ c ∈ aggL x, noRs c = true) ∧ frzAL (first ++ as ++ caps) H = some (l, us) ∧ ∃ H0, AHeap.le H0 (H.sets us) ∧ γ g l H0 (fun v' H' => v' = v ∧ AHeap.le H0 H')
def opC (P : Program) (γ : Calld) (ρ : Operand → AV) (op : Op) (H : AHeap) (n : Nat) (v : AV) (us : Ups) : Prop :=
  match isCall op with
  | some (f, as) => callD γ (ρ f) (as.toList.map ρ) H v us
  | none => (∀ l ∈ plainA ρ op, ∀ x ∈ l, noRs x = true) ∧ (makes op = true → H n = none) ∧ gen1 P ρ op H n = some (v, us)
theorem rsOf_id {x : AV} {i : Nat} (h : idOf (rsOf x) = some i) : rsOf x = x := by
  cases x <;> simp only [rsOf] at h ⊢ <;> cases h
theorem rsOf_no {x : AV} (h : noRs x = true) : rsOf x = .nilptr := by
  cases x <;> first | rfl | cases h
theorem rsOf_junk {x : AV} : rsOf x ≠ .junk := by
  cases x <;> simp [rsOf]
theorem touch_args {first as caps : List AV} {i : Nat} (hn : ∀ x ∈ first ++ caps, noRs x = true) (h : touch ((first ++ as ++ caps).map rsOf) i) : touch (as.map rsOf) i := by
  obtain ⟨v, hv, hi⟩ := h
  obtain ⟨x, hx, rfl⟩ := List.mem_map.1 hv
  have hno : noRs x = true → False := fun hn' => by
    rw [rsOf_no hn'] at hi
    rcases hi with hi | hi <;> cases hi
  simp only [List.mem_append] at hx hn
  rcases hx with (hx | hx) | hx
  · exact (hno (hn x (.inl hx))).elim
  · exact ⟨_, List.mem_map.2 ⟨x, hx, rfl⟩, hi⟩
  · exact (hno (hn x (.inr hx))).elim
theorem isCall_wr {ρ : Operand → AV} {op : Op} {f : Operand} {as : Array Operand} (h : isCall op = some (f, as)) : readsA ρ op = [.junk] ∧ writesA ρ op = (as.toList.map ρ).map rsOf ∧ makes op = false := by
  cases op <;> simp only [isCall, reduceCtorEq] at h
  rename_i c
  obtain ⟨callee, as', ats⟩ := c
  cases callee <;> simp only [reduceCtorEq, Option.some.injEq, Prod.mk.injEq] at h
  obtain ⟨rfl, rfl⟩ := h
  exact ⟨rfl, by simp only [writesA, List.map_map]; rfl, rfl⟩
def Ev.can (P : Program) (γ : Calld) (all : List Oper) (x : Ev) (e : Env) (H : AHeap) : Prop :=
  guardIs all x.o e (!x.off) ∧
  if x.off then x.v = .tup [] ∧ x.us = [] ∧ x.rd = [] ∧ x.wr = []
  else x.rd = readsA (ev e) x.o.op ∧ x.wr = writesA (ev e) x.o.op ∧ opC P γ (ev e) x.o.op H x.n x.v x.us
def Ev.wr' (x : Ev) : List AV := if x.off then x.wr else x.wr ++ newOf x.o.op x.v
def Tr (P : Program) (γ : Calld) (all : List Oper) : List Ev → Env → AHeap → (Env → AHeap → Prop) → Prop
  | [], e, H, K => K e H
  | x :: xs, e, H, K => x.can P γ all e H ∧ Tr P γ all xs (upd e x.o.dst x.v) (H.sets x.us) K
def sepL (as bs : List AV) : Prop := ∀ a ∈ as, ∀ b ∈ bs, apart a b
/-- The objects of x, told first, and y. -/
def IndH (x y : Ev) : Prop := sepL y.wr (x.rd ++ x.wr') ∧ sepL x.wr' y.rd
def IndS (all : List Oper) (x y : Ev) : Prop :=
  (∀ d, x.o.dst = some d → d ∉ y.o.looksAt all.toArray ∧ y.o.dst ≠ some d) ∧ (∀ d, y.o.dst = some d → d ∉ x.o.looksAt all.toArray)

theorem looks_op {o : Oper} {t : Nat} (h : Operand.tmp t ∈ o.op.operands) : t ∈ o.looksAt all.toArray :=
  List.mem_append_left _ (List.mem_filterMap.2 ⟨.tmp t, by simpa using h, rfl⟩)
theorem looks_guard {o : Oper} {g s : Nat} {b : Bool} (hg : o.guard = some (g, b)) (hs : guardSlot all g = some s) : s ∈ o.looksAt all.toArray := by
  refine List.mem_append_right _ ?_
  rw [hg]
  unfold guardSlot at hs
  simp only [List.getElem?_toArray, hs, Option.toList_some, List.mem_singleton]
theorem guardIs_upd {o : Oper} {d : Option Nat} {v : AV} {b : Bool} (h : ∀ t, d = some t → t ∉ o.looksAt all.toArray) : guardIs all o (upd e d v) b ↔ guardIs all o e b := by
  unfold guardIs
  cases hg : o.guard with
  | none => simp
  | some gw =>
    obtain ⟨g, want⟩ := gw
    simp only
    have key : ∀ s, guardSlot all g = some s → upd e d v s = e s := fun s h1 => by
      have := upd_ev (e := e) (v := v) (x := .tmp s) (d := d) fun t ht hx => h t ht (by cases hx; exact looks_guard hg h1)
      simpa [ev] using this
    constructor
    · rintro ⟨s, h1, h2⟩
      rw [key s h1] at h2
      exact ⟨s, h1, h2⟩
    · rintro ⟨s, h1, h2⟩
      refine ⟨s, h1, ?_⟩
      rw [key s h1]
      exact h2
theorem call_ops {op : Op} {f : Operand} {as : Array Operand} (h : isCall op = some (f, as)) : f ∈ op.operands ∧ ∀ x ∈ as.toList, x ∈ op.operands := by
  cases op <;> simp only [isCall, reduceCtorEq] at h
  rename_i c
  obtain ⟨callee, as', ats⟩ := c
  cases callee <;> simp only [reduceCtorEq, Option.some.injEq, Prod.mk.injEq] at h
  obtain ⟨rfl, rfl⟩ := h
  simp only [Op.operands, Call.operands]
  exact ⟨Array.mem_append_left _ (by simp), fun x hx => Array.mem_append_right _ (by simpa using hx)⟩
theorem opC_congr {ρ ρ' : Operand → AV} {op : Op} (h : ∀ x ∈ op.operands, ρ x = ρ' x) {n : Nat} {v : AV} {us : Ups} : opC P γ ρ op H n v us ↔ opC P γ ρ' op H n v us := by
  unfold opC
  split
  · rename_i f as hc
    obtain ⟨h1, h2⟩ := call_ops hc
    rw [h f h1, map_congr' (l := as.toList) fun x hx => h x (h2 x hx)]
  · obtain ⟨h1, h2, h3, h4⟩ := op_congr (P := P) (H := H) h n
    rw [h1, h4]
theorem can_upd {x : Ev} {d : Option Nat} {v : AV} (h : ∀ t, d = some t → t ∉ x.o.looksAt all.toArray) : x.can P γ all (upd e d v) H ↔ x.can P γ all e H := by
  have ho : ∀ y ∈ x.o.op.operands, ev (upd e d v) y = ev e y := fun y hy => upd_ev fun t ht hx => h t ht (by rw [hx] at hy; exact looks_op hy)
  obtain ⟨h1, h2, h3, h4⟩ := op_congr (P := P) (H := H) ho x.n
  unfold Ev.can
  rw [guardIs_upd h, h2, h3, opC_congr ho]

/-- What an operation's updates name. -/
theorem opC_ups {ρ : Operand → AV} {op : Op} {n : Nat} {v : AV} {us : Ups} (h : opC P γ ρ op H n v us) : UpsG (makes op) (writesA ρ op) v n H us ∧ (makes op = true → H n = none) := by
  unfold opC at h
  split at h
  · rename_i f as hc
    obtain ⟨h1, h2, h3⟩ := isCall_wr (ρ := ρ) hc
    obtain ⟨g, first, caps, l, g1, g2, g3, g4, _⟩ := h
    refine ⟨fun i o hi => .inl ?_, fun hm => by rw [h3] at hm; cases hm⟩
    obtain ⟨g5, g6⟩ := (frzAL_loc (H' := H) g3 (fun _ _ _ h => h) g4).2 i o hi
    rw [h2]
    exact ⟨touch_args g2 g5, g6⟩
  · obtain ⟨h1, h2, h3⟩ := h
    exact ⟨(gen1_loc (H' := H) h1 (fun _ _ _ h => h) h3).2, h2⟩
theorem can_ups {x : Ev} (h : x.can P γ all e H) : ∀ i o, (i, o) ∈ x.us → (touch x.wr i ∧ (H i).isSome) ∨ (i = x.n ∧ H x.n = none ∧ touch x.wr' i) := by
  intro i o hi
  obtain ⟨h1, h2⟩ := h
  split at h2
  · rw [h2.2.1] at hi; simp at hi
  · rename_i hoff
    obtain ⟨h3, h4, h5⟩ := h2
    obtain ⟨h6, h7⟩ := opC_ups h5
    rcases h6 i o hi with ⟨h8, h9⟩ | ⟨h8, h9, h10⟩
    · exact .inl ⟨by rw [h4]; exact h8, h9⟩
    · refine .inr ⟨h9, h7 h8, x.v, ?_, .inr (by rw [h9]; exact h10)⟩
      unfold Ev.wr'
      rw [if_neg hoff]
      exact List.mem_append_right _ (by simp [newOf, h8])
theorem touch.left {l l' : List AV} {i : Nat} (h : touch l i) : touch (l ++ l') i := by obtain ⟨v, h1, h2⟩ := h; exact ⟨v, List.mem_append_left _ h1, h2⟩
theorem touch.right {l l' : List AV} {i : Nat} (h : touch l' i) : touch (l ++ l') i := by obtain ⟨v, h1, h2⟩ := h; exact ⟨v, List.mem_append_right _ h1, h2⟩
theorem touch.wr {x : Ev} {i : Nat} (h : touch x.wr i) : touch x.wr' i := by unfold Ev.wr'; split; exact h; exact h.left
theorem apart_no {a b : AV} {i : Nat} (h : apart a b) (ha : a = .junk ∨ idOf a = some i) (hb : b = .junk ∨ idOf b = some i) : False := by
  have hna : a ≠ .nilptr := by rintro rfl; rcases ha with ha | ha <;> cases ha
  have hnb : b ≠ .nilptr := by rintro rfl; rcases hb with hb | hb <;> cases hb
  unfold apart at h
  split at h
  · exact hna rfl
  · exact hnb rfl
  · exact h
  · exact h
  · rename_i h1 h2 h3 h4
    have ha' : idOf a = some i := by rcases ha with ha | ha; exact absurd ha (by first | exact h1 | exact h2 | exact h3 | exact h4); exact ha
    have hb' : idOf b = some i := by rcases hb with hb | hb; exact absurd hb (by first | exact h1 | exact h2 | exact h3 | exact h4); exact hb
    simp only [ha', hb'] at h
    exact h rfl
theorem sep_no {as bs : List AV} {i : Nat} (h : sepL as bs) (ha : touch as i) (hb : touch bs i) : False := by
  obtain ⟨a, h1, h2⟩ := ha
  obtain ⟨b, h3, h4⟩ := hb
  exact apart_no (h a h1 b h3) h2 h4
theorem touch_junk {i : Nat} : touch [.junk] i := ⟨_, List.mem_singleton.2 rfl, .inl rfl⟩
/-- The later one, first. -/
theorem opC_back {ρ : Operand → AV} {op : Op} {n : Nat} {v : AV} {us vs : Ups} (h : opC P γ ρ op (H.sets vs) n v us) (hd : ∀ i o, (i, o) ∈ vs → ¬ touch (readsA ρ op ++ writesA ρ op) i) : opC P γ ρ op H n v us := by
  unfold opC at h ⊢
  split at h
  · rename_i f as hc
    obtain ⟨h1, h2, _⟩ := isCall_wr (ρ := ρ) hc
    rw [h1] at hd
    have hv : vs = [] := by
      cases vs with
      | nil => rfl
      | cons p vs => exact absurd touch_junk.left (hd p.1 p.2 (by simp))
    subst hv
    exact h
  · obtain ⟨h1, h2, h3⟩ := h
    refine ⟨h1, fun hm => sets_none (h2 hm), (gen1_loc h1 (fun i o hi ho => ?_) h3).1⟩
    rw [sets_out fun o' ho' => hd i o' ho' hi] at ho
    exact ho
/-- The earlier one, later. -/
theorem opC_forth {ρ : Operand → AV} {op : Op} {n : Nat} {v : AV} {us vs : Ups} (h : opC P γ ρ op H n v us) (hd : ∀ i o, (i, o) ∈ vs → (H i).isSome → ¬ touch (readsA ρ op ++ writesA ρ op) i) (hn : ∀ o, makes op = true → (n, o) ∉ vs) : opC P γ ρ op (H.sets vs) n v us := by
  unfold opC at h ⊢
  split at h
  · rename_i f as hc
    obtain ⟨h1, h2, _⟩ := isCall_wr (ρ := ρ) hc
    rw [h1] at hd
    obtain ⟨g, first, caps, l, g2, g3, g4, g5, H0, g6, g7⟩ := h
    have hout : ∀ i, (H i).isSome → H.sets vs i = H i := fun i hi => sets_out fun o' ho' => hd i o' ho' hi touch_junk.left
    have g5' := (frzAL_loc (H' := H.sets vs) g4 (fun i o _ ho => by rw [hout i (by rw [ho]; rfl)]; exact ho) g5)
    refine ⟨g, first, caps, l, g2, g3, g4, g5'.1, H0, fun i o ho => ?_, g7⟩
    have hs := g6 i o ho
    by_cases hin : ∃ o', (i, o') ∈ us
    · obtain ⟨o', ho'⟩ := hin
      rw [sets_in (H' := H) ho']
      exact hs
    · have hin' : ∀ o', (i, o') ∉ us := fun o' ho' => hin ⟨o', ho'⟩
      rw [sets_out hin'] at hs ⊢
      rw [hout i (by rw [hs]; rfl)]
      exact hs
  · obtain ⟨h1, h2, h3⟩ := h
    refine ⟨h1, fun hm => ?_, (gen1_loc h1 (fun i o hi ho => ?_) h3).1⟩
    · rw [sets_out fun o ho => hn o hm ho]; exact h2 hm
    · rw [sets_out fun o' ho' => hd i o' ho' (by rw [ho]; rfl) hi]; exact ho
theorem can_back {x y : Ev} (hx : x.can P γ all e H) (hy : y.can P γ all (upd e x.o.dst x.v) (H.sets x.us)) (hs : IndS all x y) (hi : IndH x y) : y.can P γ all e H := by
  rw [can_upd fun t ht => (hs.1 t ht).1] at hy
  unfold Ev.can at hy ⊢
  refine ⟨hy.1, ?_⟩
  have hy2 := hy.2
  split at hy2
  · rename_i hoff; rw [if_pos hoff]; exact hy2
  · rename_i hoff
    rw [if_neg hoff]
    obtain ⟨h3, h4, h5⟩ := hy2
    refine ⟨h3, h4, opC_back h5 fun i o ho ht => ?_⟩
    rw [← h3, ← h4] at ht
    have hw : touch x.wr' i := by
      rcases can_ups hx i o ho with ⟨h6, _⟩ | ⟨_, _, h6⟩
      · exact h6.wr
      · exact h6
    obtain ⟨b, hb, hb2⟩ := ht
    rcases List.mem_append.1 hb with hb | hb
    · exact sep_no hi.2 hw ⟨b, hb, hb2⟩
    · exact sep_no hi.1 ⟨b, hb, hb2⟩ hw.right
theorem can_forth {x y : Ev} (hx : x.can P γ all e H) (hy : y.can P γ all e H) (hs : IndS all x y) (hi : IndH x y) (hn : x.n ≠ y.n) : x.can P γ all (upd e y.o.dst y.v) (H.sets y.us) := by
  rw [can_upd hs.2]
  unfold Ev.can at hx ⊢
  refine ⟨hx.1, ?_⟩
  have hx2 := hx.2
  split at hx2
  · rename_i hoff; rw [if_pos hoff]; exact hx2
  · rename_i hoff
    rw [if_neg hoff]
    obtain ⟨h3, h4, h5⟩ := hx2
    refine ⟨h3, h4, opC_forth h5 (fun i o ho hsome ht => ?_) fun o hm ho => ?_⟩
    · rw [← h3, ← h4] at ht
      rcases can_ups hy i o ho with ⟨h6, _⟩ | ⟨h6, h7, _⟩
      · refine sep_no hi.1 h6 ?_
        obtain ⟨b, hb, hb2⟩ := ht
        rcases List.mem_append.1 hb with hb | hb
        · exact touch.left ⟨b, hb, hb2⟩
        · exact touch.right (touch.wr ⟨b, hb, hb2⟩)
      · rw [h6, h7] at hsome; cases hsome
    · have hnone := (opC_ups h5).2 hm
      rcases can_ups hy x.n o ho with ⟨h6, h7⟩ | ⟨h6, h7, _⟩
      · rw [hnone] at h7; cases h7
      · exact hn h6
theorem Tr.swap {x y : Ev} {xs : List Ev} {K : Env → AHeap → Prop} (h : Tr P γ all (x :: y :: xs) e H K) (hs : IndS all x y) (hi : IndH x y) (hn : x.n ≠ y.n) : Tr P γ all (y :: x :: xs) e H K := by
  obtain ⟨hx, hy, hr⟩ := h
  have hy' := can_back hx hy hs hi
  refine ⟨hy', can_forth hx hy' hs hi hn, ?_⟩
  rw [upd_comm (d := y.o.dst) (d' := x.o.dst) fun d hd hxd => (hs.1 d hxd).2 hd]
  rw [sets_comm (us := y.us) (vs := x.us)]
  · exact hr
  · intro i o o' h1 h2
    rcases can_ups hx i o' h2 with ⟨h3, h4⟩ | ⟨h3, h4, h5⟩
    · rcases can_ups hy' i o h1 with ⟨h6, h7⟩ | ⟨h6, h7, h8⟩
      · exact sep_no hi.1 h6 h3.wr.right
      · rw [h6, h7] at h4; cases h4
    · rcases can_ups hy' i o h1 with ⟨h6, h7⟩ | ⟨h6, h7, h8⟩
      · rw [h3, h4] at h7; cases h7
      · exact hn (h3.symm.trans h6)
theorem Tr.front {y : Ev} {t2 : List Ev} {K : Env → AHeap → Prop} : ∀ (t1 : List Ev) {e : Env} {H : AHeap}, Tr P γ all (t1 ++ y :: t2) e H K → (∀ x ∈ t1, IndS all x y ∧ IndH x y ∧ x.n ≠ y.n) → Tr P γ all (y :: (t1 ++ t2)) e H K
  | [], e, H, h, _ => h
  | x :: t1, e, H, h, hi => by
    obtain ⟨hx, hr⟩ := h
    have h1 := Tr.front t1 hr fun z hz => hi z (by simp [hz])
    obtain ⟨h2, h3, h4⟩ := hi x (by simp)
    exact Tr.swap ⟨hx, h1⟩ h2 h3 h4
end Go.AM

/- Regions that draw their order, with calls that change things: sound. -/
import Derived.Test.YtmciomkibklokaaA20a
set_option autoImplicit false
set_option linter.unusedVariables false
set_option linter.unusedSimpArgs false
namespace Go.AM
open Go.RowKit Go.MapKept

variable {P : Program} {L L' : Lo} {w w' : World} {base : Nat} {H H' : AHeap} {γ : Calld} {e : Env}

theorem Tr.app {all : List Oper} {K : Env → AHeap → Prop} : ∀ {a b : List Ev} {e : Env} {H : AHeap}, Tr P γ all a e H (fun e' H' => Tr P γ all b e' H' K) → Tr P γ all (a ++ b) e H K
  | [], b, e, H, h => h
  | x :: a, b, e, H, h => ⟨h.1, Tr.app h.2⟩
theorem Tr.mono {all : List Oper} {K K' : Env → AHeap → Prop} : ∀ {a : List Ev} {e : Env} {H : AHeap}, (∀ e H, K e H → K' e H) → Tr P γ all a e H K → Tr P γ all a e H K'
  | [], e, H, hk, h => hk _ _ h
  | x :: a, e, H, hk, h => ⟨h.1, Tr.mono hk h.2⟩
/-- Events' answers in their slots. -/
def upds : List Ev → Env → Env
  | [], e => e
  | x :: xs, e => upds xs (upd e x.o.dst x.v)
theorem upds_app : ∀ {a b : List Ev} {e : Env}, upds (a ++ b) e = upds b (upds a e)
  | [], b, e => rfl
  | x :: a, b, e => upds_app (a := a)
theorem quietW_iff : ∀ {l : List AV} {X : Prop}, quietW l X ↔ (∀ v ∈ l, qt v) ∧ X
  | [], X => by simp [quietW]
  | v :: l, X => by simp [quietW, quietW_iff (l := l), and_assoc]
theorem keepA_iff : ∀ {l : List AV} {X : Prop}, keepA H H' l X ↔ (∀ v ∈ l, kp v H H') ∧ X
  | [], X => by simp [keepA]
  | v :: l, X => by simp [keepA, keepA_iff (l := l), and_assoc]
theorem noL_elim {X : Prop} : ∀ {N : List AV}, (∀ v ∈ N, noV v H H') → noL N H H' X → X
  | [], _, h => h
  | v :: N, hn, h => noL_elim (fun x hx => hn x (List.mem_cons_of_mem _ hx)) (h (hn v (List.mem_cons_self ..)))
theorem kp_ag {v : AV} (h : kp v H H') : Ag v H H' := by
  intro i o hi ho
  unfold kp at h
  split at h
  · exact h.elim
  · rename_i hj
    rcases hi with hi | hi
    · exact absurd hi hj
    · rw [hi] at h
      simp only at h
      rw [h]; exact ho
theorem mem_openRd {bf : List Nat} {j : Nat} {v : AV} : ∀ {log : List LogE} {l : LogE}, l ∈ log → waitsT bf j l.ix = false → v ∈ l.rd → v ∈ openRd bf j log
  | x :: log, l, hl, hw, hv => by
    simp only [openRd, List.mem_append]
    rcases List.mem_cons.1 hl with rfl | hl
    · left; rw [hw]; exact hv
    · right; exact mem_openRd hl hw hv
theorem mem_openWr {all : List Oper} {bf : List Nat} {j : Nat} {v : AV} : ∀ {log : List LogE} {l : LogE}, l ∈ log → waitsT bf j l.ix = false → isNew all l = false → v ∈ l.wr → v ∈ openWr all bf j log
  | x :: log, l, hl, hw, hi, hv => by
    simp only [openWr, List.mem_append]
    rcases List.mem_cons.1 hl with rfl | hl
    · left; rw [hw, hi]; exact hv
    · right; exact mem_openWr hl hw hi hv
theorem mem_openNew {all : List Oper} {bf : List Nat} {j : Nat} {v : AV} : ∀ {log : List LogE} {l : LogE}, l ∈ log → waitsT bf j l.ix = false → isNew all l = true → v ∈ l.wr → v ∈ openNew all bf j log
  | x :: log, l, hl, hw, hi, hv => by
    simp only [openNew, List.mem_append]
    rcases List.mem_cons.1 hl with rfl | hl
    · left; rw [hw, hi]; exact hv
    · right; exact mem_openNew hl hw hi hv
/-- The names that are left out. -/
def outV (v : AV) (i : Nat) : Prop := match v with | .ptr n _ _ _ => i = n | _ => False
def outL (N : List AV) (i : Nat) : Prop := ∃ v ∈ N, outV v i
theorem delV_in {v : AV} {i : Nat} (h : outV v i) : delV v H i = none := by
  unfold outV at h; unfold delV
  split at h
  · simp [h]
  · exact h.elim
theorem delV_out {v : AV} {i : Nat} (h : ¬ outV v i) : delV v H i = H i := by
  unfold outV at h; unfold delV
  split at h
  · simp [h]
  · rename_i hne
    split
    · rename_i n _ _ _ ; exact absurd rfl (hne _ _ _ _)
    · rfl
theorem putV_in {v : AV} {i : Nat} (h : outV v i) : putV v H H' i = H i := by
  unfold outV at h; unfold putV
  split at h
  · simp [h]
  · exact h.elim
theorem putV_out {v : AV} {i : Nat} (h : ¬ outV v i) : putV v H H' i = H' i := by
  unfold outV at h; unfold putV
  split at h
  · simp [h]
  · rename_i hne
    split
    · rename_i n _ _ _ ; exact absurd rfl (hne _ _ _ _)
    · rfl
theorem delL_out {i : Nat} : ∀ {N : List AV} {H : AHeap}, ¬ outL N i → delL N H i = H i
  | [], H, _ => rfl
  | v :: N, H, h => by
    simp only [delL]
    rw [delL_out fun ⟨x, hx, hi⟩ => h ⟨x, List.mem_cons_of_mem _ hx, hi⟩, delV_out fun hv => h ⟨v, List.mem_cons_self .., hv⟩]
theorem delL_none {i : Nat} : ∀ {N : List AV} {H : AHeap}, H i = none → delL N H i = none
  | [], H, h => h
  | v :: N, H, h => by
    simp only [delL]
    refine delL_none ?_
    by_cases hv : outV v i
    · exact delV_in hv
    · rw [delV_out hv]; exact h
theorem delL_in {i : Nat} : ∀ {N : List AV} {H : AHeap}, outL N i → delL N H i = none
  | [], H, ⟨v, hv, _⟩ => by cases hv
  | v :: N, H, ⟨x, hx, hi⟩ => by
    simp only [delL]
    rcases List.mem_cons.1 hx with rfl | hx
    · exact delL_none (delV_in hi)
    · exact delL_in ⟨x, hx, hi⟩
theorem putL_out {i : Nat} : ∀ {N : List AV} {H H' : AHeap}, ¬ outL N i → putL N H H' i = H' i
  | [], H, H', _ => rfl
  | v :: N, H, H', h => by
    simp only [putL]
    rw [putL_out fun ⟨x, hx, hi⟩ => h ⟨x, List.mem_cons_of_mem _ hx, hi⟩, putV_out fun hv => h ⟨v, List.mem_cons_self .., hv⟩]
theorem putL_same {i : Nat} : ∀ {N : List AV} {H H' : AHeap}, H' i = H i → putL N H H' i = H i
  | [], H, H', h => h
  | v :: N, H, H', h => by
    simp only [putL]
    refine putL_same ?_
    by_cases hv : outV v i
    · exact putV_in hv
    · rw [putV_out hv]; exact h
theorem putL_in {i : Nat} : ∀ {N : List AV} {H H' : AHeap}, outL N i → putL N H H' i = H i
  | [], H, H', ⟨v, hv, _⟩ => by cases hv
  | v :: N, H, H', ⟨x, hx, hi⟩ => by
    simp only [putL]
    rcases List.mem_cons.1 hx with rfl | hx
    · exact putL_same (putV_in hi)
    · exact putL_in ⟨x, hx, hi⟩
/-- Events that write nothing. -/
def Quiet (x : Ev) : Prop := ∀ v ∈ x.wr', qt v
theorem touch_quiet {l : List AV} {i : Nat} (h : ∀ v ∈ l, qt v) (ht : touch l i) : False := by
  obtain ⟨v, hv, hi⟩ := ht
  have h1 := h v hv
  unfold qt at h1
  split at h1
  · exact h1
  · rename_i hj
    rcases hi with hi | hi
    · exact hj hi
    · rw [hi] at h1; exact h1
theorem quiet_us {all : List Oper} {x : Ev} (hq : Quiet x) (h : x.can P γ all e H) : x.us = [] := by
  cases hu : x.us with
  | nil => rfl
  | cons p us =>
    exfalso
    rcases can_ups h p.1 p.2 (by rw [hu]; simp) with ⟨h1, _⟩ | ⟨_, _, h1⟩
    · exact touch_quiet hq h1.wr
    · exact touch_quiet hq h1
/-- An event that makes an object. -/
def NewE (x : Ev) : Prop := x.off = false ∧ ∃ t, x.o.op = .alloc t
theorem new_can {all : List Oper} {x : Ev} (hn : NewE x) (h : x.can P γ all e H) : x.v = .ptr x.n 0 0 0 ∧ x.rd = [] ∧ x.wr = [] ∧ ∃ o, x.us = [(x.n, o)] := by
  obtain ⟨hoff, t, ht⟩ := hn
  have h2 := h.2
  rw [hoff] at h2
  simp only [Bool.false_eq_true, if_false] at h2
  obtain ⟨h3, h4, h5⟩ := h2
  rw [ht] at h3 h4 h5
  unfold opC at h5
  simp only [isCall] at h5
  obtain ⟨_, _, h6⟩ := h5
  cases hti : tiOf P t with
  | none => simp [gen1, stepA, hti, pureOp] at h6
  | some ti =>
    simp only [gen1, stepA, hti, makes, pureOp, Bool.false_eq_true, if_false, if_true, Option.some.injEq, Prod.mk.injEq] at h6
    exact ⟨h6.1.symm, h3, h4, _, h6.2.symm⟩
/-- What events make of a heap. -/
def adds : List Ev → AHeap → AHeap
  | [], H => H
  | x :: a, H => adds a (H.sets x.us)
theorem Tr.adds_end {all : List Oper} {K : Env → AHeap → Prop} : ∀ {a : List Ev} {e : Env} {H : AHeap}, Tr P γ all a e H K → K (upds a e) (adds a H)
  | [], e, H, h => h
  | x :: a, e, H, h => Tr.adds_end (a := a) h.2
theorem adds_ptw {all : List Oper} {K : Env → AHeap → Prop} {i : Nat} : ∀ {a : List Ev} {e : Env} {H : AHeap}, (∀ x ∈ a, Quiet x ∨ NewE x) → Tr P γ all a e H K →
    (∀ X : AHeap, adds a X i = X i) ∨ ∃ o, (∀ X : AHeap, adds a X i = some o) ∧ ∃ x ∈ a, NewE x ∧ x.v = .ptr x.n 0 0 0 ∧ x.wr = [] ∧ x.n = i
  | [], e, H, _, _ => .inl fun _ => rfl
  | x :: a, e, H, hq, h => by
    have tl := adds_ptw (i := i) (fun y hy => hq y (List.mem_cons_of_mem _ hy)) h.2
    rcases tl with tl | ⟨o, t1, y, t2, t3⟩
    · rcases hq x (List.mem_cons_self ..) with h1 | h1
      · left
        intro X
        simp only [adds]
        rw [tl, quiet_us h1 h.1]; rfl
      · obtain ⟨c1, c2, c3, o, c4⟩ := new_can h1 h.1
        by_cases hi : x.n = i
        · right
          refine ⟨o, fun X => ?_, x, List.mem_cons_self .., h1, c1, c3, hi⟩
          simp only [adds]
          rw [tl, c4, ← hi]
          simp [AHeap.sets, AHeap.set]
        · left
          intro X
          simp only [adds]
          rw [tl, c4]
          have : i ≠ x.n := Ne.symm hi
          simp [AHeap.sets, AHeap.set, this]
    · exact .inr ⟨o, fun X => by simp only [adds]; exact t1 _, y, List.mem_cons_of_mem _ t2, t3⟩
theorem Tr.quiet_end {all : List Oper} {K : Env → AHeap → Prop} : ∀ {a : List Ev} {e : Env} {H : AHeap}, (∀ x ∈ a, Quiet x) → Tr P γ all a e H K → K (upds a e) H
  | [], e, H, hq, h => h
  | x :: a, e, H, hq, h => by
    obtain ⟨h1, h2⟩ := h
    rw [quiet_us (hq x (by simp)) h1] at h2
    exact Tr.quiet_end (a := a) (e := upd e x.o.dst x.v) (fun y hy => hq y (by simp [hy])) h2
/-- What stands at the end of a list of events, whatever they write. -/
theorem Tr.some_end {all : List Oper} {K : Env → AHeap → Prop} : ∀ {a : List Ev} {e : Env} {H : AHeap}, Tr P γ all a e H K → ∃ H', K (upds a e) H'
  | [], e, H, h => ⟨H, h⟩
  | x :: a, e, H, h => Tr.some_end (a := a) h.2
theorem opC_keep {ρ : Operand → AV} {op : Op} {n : Nat} {v : AV} (hc : isCall op = none) (h : opC P γ ρ op H n v []) (hr : Agree (readsA ρ op) H H') (hw : ∀ x ∈ writesA ρ op, qt x) (hn : H' n = none) : opC P γ ρ op H' n v [] := by
  unfold opC at h ⊢
  rw [hc] at h ⊢
  obtain ⟨h1, h2, h3⟩ := h
  refine ⟨h1, fun _ => hn, (gen1_loc h1 (fun i o hi ho => ?_) h3).1⟩
  obtain ⟨x, hx, hx2⟩ := hi
  rcases List.mem_append.1 hx with hx | hx
  · exact hr i o ⟨x, hx, hx2⟩ ho
  · exact (touch_quiet hw ⟨x, hx, hx2⟩).elim
theorem upd_upds {d : Option Nat} {v : AV} : ∀ {a : List Ev} {e : Env}, (∀ x ∈ a, ∀ t, d = some t → x.o.dst ≠ some t) → upds a (upd e d v) = upd (upds a e) d v
  | [], e, h => rfl
  | x :: a, e, h => by
    simp only [upds]
    rw [upd_comm (d := d) (d' := x.o.dst) fun t ht => h x (by simp) t ht]
    exact upd_upds fun y hy => h y (by simp [hy])
theorem kp_iff {u : AV} : kp u H H' ↔ u ≠ .junk ∧ ∀ i, idOf u = some i → H' i = H i := by
  cases u <;> simp [kp, idOf]
theorem kp_set {u : AV} {n : Nat} {o : AObj} (h : kp u H H') : kp u (H.set n o) (H'.set n o) := by
  rw [kp_iff] at h ⊢
  refine ⟨h.1, fun i hi => ?_⟩
  unfold AHeap.set
  split
  · rfl
  · exact h.2 i hi
/-- Quiet events, and such as make an object, behind a call instead of ahead of it. -/
theorem Tr.later {all : List Oper} {K : Env → AHeap → Prop} {d : Option Nat} {v : AV} : ∀ {a : List Ev} {e : Env} {H H' : AHeap}, (a.map Ev.n).Nodup → (∀ x ∈ a, (Quiet x ∨ NewE x) ∧ (x.off = false → isCall x.o.op = none) ∧ (∀ u ∈ x.rd, kp u H H') ∧ H' x.n = none ∧ (∀ t, d = some t → t ∉ x.o.looksAt all.toArray ∧ x.o.dst ≠ some t)) →
    Tr P γ all a e H (fun _ _ => True) → K (upd (upds a e) d v) (adds a H') → Tr P γ all a (upd e d v) H' K
  | [], e, H, H', _, _, _, h => h
  | x :: a, e, H, H', hnd, hq, h, hk => by
    obtain ⟨h1, h2⟩ := h
    obtain ⟨q1, q2, q3, q4, q5⟩ := hq x (by simp)
    rw [List.map_cons, List.nodup_cons] at hnd
    rcases q1 with q1 | q1
    · have hus := quiet_us q1 h1
      rw [hus] at h2
      refine ⟨?_, ?_⟩
      · rw [can_upd fun t ht => (q5 t ht).1]
        unfold Ev.can at h1 ⊢
        refine ⟨h1.1, ?_⟩
        have h3 := h1.2
        split at h3
        · rename_i hoff; rw [if_pos hoff]; exact h3
        · rename_i hoff
          rw [if_neg hoff]
          obtain ⟨h4, h5, h6⟩ := h3
          refine ⟨h4, h5, ?_⟩
          rw [hus] at h6 ⊢
          refine opC_keep (q2 (by simpa using hoff)) h6 (fun i o hi ho => ?_) (fun y hy => ?_) q4
          · rw [← h4] at hi
            obtain ⟨u, hu, hu2⟩ := hi
            exact kp_ag (q3 u hu) i o hu2 ho
          · rw [← h5] at hy
            refine q1 y ?_
            unfold Ev.wr'
            split
            · exact hy
            · exact List.mem_append_left _ hy
      · rw [hus, upd_comm (d := d) (d' := x.o.dst) fun t ht => (q5 t ht).2]
        refine Tr.later (a := a) hnd.2 (fun y hy => hq y (by simp [hy])) h2 ?_
        simp only [upds, adds, hus] at hk
        exact hk
    · obtain ⟨c1, c2, c3, o, c4⟩ := new_can q1 h1
      rw [c4] at h2
      refine ⟨?_, ?_⟩
      · rw [can_upd fun t ht => (q5 t ht).1]
        obtain ⟨hoff, t, ht⟩ := q1
        unfold Ev.can at h1 ⊢
        refine ⟨h1.1, ?_⟩
        have h3 := h1.2
        rw [if_neg (by rw [hoff]; decide)] at h3 ⊢
        obtain ⟨h4, h5, h6⟩ := h3
        refine ⟨h4, h5, ?_⟩
        rw [ht] at h6 ⊢
        unfold opC at h6 ⊢
        simp only [isCall] at h6 ⊢
        exact ⟨h6.1, fun _ => q4, h6.2.2⟩
      · rw [c4, upd_comm (d := d) (d' := x.o.dst) fun t ht => (q5 t ht).2]
        refine Tr.later (a := a) hnd.2 (fun y hy => ?_) h2 ?_
        · obtain ⟨r1, r2, r3, r4, r5⟩ := hq y (by simp [hy])
          refine ⟨r1, r2, fun u hu => kp_set (r3 u hu), ?_, r5⟩
          have hne : y.n ≠ x.n := fun he => hnd.1 (he ▸ List.mem_map.2 ⟨y, hy, rfl⟩)
          simp only [AHeap.sets, AHeap.set, hne, if_false]
          exact r4
        · simp only [upds, adds, c4] at hk
          exact hk
def logOf (x : Ev) : LogE := ⟨x.ix, x.rd, x.wr'⟩
/-- What is told up to the next call, as a list of events. -/
theorem opsE_tr {pol : Pol} {all : List Oper} {bf : List Nat} (c : Nat) {K : Env → AHeap → Prop} : ∀ (perm : List Nat) (log : List LogE) (e : Env) (H : AHeap), perm.Nodup → (∀ j ∈ perm, H (c + j) = none) → opsE P γ pol all bf perm log e H K →
    ∃ (tr : List Ev) (rest : List Nat) (log' : List LogE), tr.map Ev.ix ++ rest = perm ∧ (∀ x ∈ tr, x.n = c + x.ix ∧ all[x.ix]? = some x.o ∧ (x.off = false → isCall x.o.op = none)) ∧ (∀ l ∈ log, l ∈ log') ∧ (∀ x ∈ tr, x.off = false → logOf x ∈ log') ∧
      Tr P γ all tr e H (fun e' H' => opsE P γ pol all bf rest log' e' H' K ∧ ∀ j js, rest = j :: js → ∃ o f as, all[j]? = some o ∧ isCall o.op = some (f, as) ∧ guardIs all o e' true ∧
        quietW (openWr all bf j log') (callA γ pol (ev e' f) (as.toList.map (ev e')) (delL (openNew all bf j log') H') fun v H2 => noL (openNew all bf j log') H' H2 (keepA (delL (openNew all bf j log') H') H2 (openRd bf j log') (splitK (isG all j) v fun v => opsE P γ pol all bf js log' (upd e' o.dst v) (putL (openNew all bf j log') H' H2) K)))) ∧
      (tr.Pairwise fun x y => waitsT bf y.ix x.ix = false → IndH x y) ∧ (∀ y ∈ tr, ∀ l ∈ log, waitsT bf y.ix l.ix = false → sepL y.wr (l.rd ++ l.wr) ∧ sepL l.wr y.rd)
  | [], log, e, H, _, _, h => ⟨[], [], log, rfl, by simp, fun _ h => h, by simp, ⟨h, fun j js hj => by cases hj⟩, by simp, by simp⟩
  | j :: js, log, e, H, hnd, hn, h => by
    have hnd' := List.nodup_cons.1 hnd
    have h0 := h
    simp only [opsE] at h
    split at h
    · exact h.elim
    · rename_i o ho
      -- an event that is not done
      have skip : guardIs all o e false → opsE P γ pol all bf js log (upd e o.dst (.tup [])) H K →
          ∃ (tr : List Ev) (rest : List Nat) (log' : List LogE), tr.map Ev.ix ++ rest = j :: js ∧ (∀ x ∈ tr, x.n = c + x.ix ∧ all[x.ix]? = some x.o ∧ (x.off = false → isCall x.o.op = none)) ∧ (∀ l ∈ log, l ∈ log') ∧ (∀ x ∈ tr, x.off = false → logOf x ∈ log') ∧
            Tr P γ all tr e H (fun e' H' => opsE P γ pol all bf rest log' e' H' K ∧ ∀ j js, rest = j :: js → ∃ o f as, all[j]? = some o ∧ isCall o.op = some (f, as) ∧ guardIs all o e' true ∧
              quietW (openWr all bf j log') (callA γ pol (ev e' f) (as.toList.map (ev e')) (delL (openNew all bf j log') H') fun v H2 => noL (openNew all bf j log') H' H2 (keepA (delL (openNew all bf j log') H') H2 (openRd bf j log') (splitK (isG all j) v fun v => opsE P γ pol all bf js log' (upd e' o.dst v) (putL (openNew all bf j log') H' H2) K)))) ∧
            (tr.Pairwise fun x y => waitsT bf y.ix x.ix = false → IndH x y) ∧ (∀ y ∈ tr, ∀ l ∈ log, waitsT bf y.ix l.ix = false → sepL y.wr (l.rd ++ l.wr) ∧ sepL l.wr y.rd) := by
        intro hg h
        let x : Ev := ⟨j, o, true, c + j, .tup [], [], [], []⟩
        have hcan : x.can P γ all e H := ⟨hg, by rw [if_pos rfl]; exact ⟨rfl, rfl, rfl, rfl⟩⟩
        obtain ⟨tr, rest, log', k1, k2, k0, k0', k3, k4, k5⟩ := opsE_tr c js _ _ _ hnd'.2 (fun j' hj' => hn j' (by simp [hj'])) h
        refine ⟨x :: tr, rest, log', by simp [x, k1], ?_, k0, ?_, ⟨hcan, k3⟩, ?_, ?_⟩
        · intro y hy
          rcases List.mem_cons.1 hy with rfl | hy
          · exact ⟨rfl, ho, fun h => by cases h⟩
          · exact k2 y hy
        · intro y hy hoff
          rcases List.mem_cons.1 hy with rfl | hy
          · cases hoff
          · exact k0' y hy hoff
        · refine List.pairwise_cons.2 ⟨fun y hy hw => ?_, k4⟩
          exact ⟨fun a _ b hb => by simp [x, Ev.wr'] at hb, fun a ha => by simp [x, Ev.wr'] at ha⟩
        · intro y hy l hl hw
          rcases List.mem_cons.1 hy with rfl | hy
          · exact ⟨fun a ha => by simp [x] at ha, fun a _ b hb => by simp [x] at hb⟩
          · exact k5 y hy l hl hw
      -- an event that is done
      have act : guardIs all o e true → (match isCall o.op with
        | some (f, as) => quietW (openWr all bf j log) (callA γ pol (ev e f) (as.toList.map (ev e)) (delL (openNew all bf j log) H) fun v H' => noL (openNew all bf j log) H H' (keepA (delL (openNew all bf j log) H) H' (openRd bf j log) (splitK (isG all j) v fun v =>
            opsE P γ pol all bf js log (upd e o.dst v) (putL (openNew all bf j log) H H') K)))
        | none => obA (clash bf j (readsA (ev e) o.op) (writesA (ev e) o.op) log) (noRsAA (plainA (ev e) o.op) (genX P (ev e) o.op H fun v H' => splitK (isG all j) v fun v =>
            opsE P γ pol all bf js (⟨j, readsA (ev e) o.op, writesA (ev e) o.op ++ newOf o.op v⟩ :: log) (upd e o.dst v) H' K))) →
          ∃ (tr : List Ev) (rest : List Nat) (log' : List LogE), tr.map Ev.ix ++ rest = j :: js ∧ (∀ x ∈ tr, x.n = c + x.ix ∧ all[x.ix]? = some x.o ∧ (x.off = false → isCall x.o.op = none)) ∧ (∀ l ∈ log, l ∈ log') ∧ (∀ x ∈ tr, x.off = false → logOf x ∈ log') ∧
            Tr P γ all tr e H (fun e' H' => opsE P γ pol all bf rest log' e' H' K ∧ ∀ j js, rest = j :: js → ∃ o f as, all[j]? = some o ∧ isCall o.op = some (f, as) ∧ guardIs all o e' true ∧
              quietW (openWr all bf j log') (callA γ pol (ev e' f) (as.toList.map (ev e')) (delL (openNew all bf j log') H') fun v H2 => noL (openNew all bf j log') H' H2 (keepA (delL (openNew all bf j log') H') H2 (openRd bf j log') (splitK (isG all j) v fun v => opsE P γ pol all bf js log' (upd e' o.dst v) (putL (openNew all bf j log') H' H2) K)))) ∧
            (tr.Pairwise fun x y => waitsT bf y.ix x.ix = false → IndH x y) ∧ (∀ y ∈ tr, ∀ l ∈ log, waitsT bf y.ix l.ix = false → sepL y.wr (l.rd ++ l.wr) ∧ sepL l.wr y.rd) := by
        intro hg hx
        cases hc : isCall o.op with
        | some fa =>
          obtain ⟨f, as⟩ := fa
          rw [hc] at hx
          refine ⟨[], j :: js, log, rfl, by simp, fun _ h => h, by simp, ⟨h0, fun j' js' hj => ?_⟩, by simp, by simp⟩
          obtain ⟨rfl, rfl⟩ := List.cons.inj hj
          exact ⟨o, f, as, ho, hc, hg, hx⟩
        | none =>
          rw [hc] at hx
          obtain ⟨hcl, hx⟩ := obA_iff.1 hx
          have hop : ∃ v us, opC P γ (ev e) o.op H (c + j) v us ∧ splitK (isG all j) v (fun v => opsE P γ pol all bf js (⟨j, readsA (ev e) o.op, writesA (ev e) o.op ++ newOf o.op v⟩ :: log) (upd e o.dst v) (H.sets us) K) := by
            obtain ⟨h1, h2⟩ := noRsAA_iff.1 hx
            obtain ⟨v, us, h3, h4⟩ := genX_gen1 (hn j (by simp)) h2
            refine ⟨v, us, ?_, h4⟩
            unfold opC
            rw [hc]
            exact ⟨h1, fun _ => hn j (by simp), h3⟩
          obtain ⟨v, us, h1, h2⟩ := hop
          have h2 := splitK_self h2
          let x : Ev := ⟨j, o, false, c + j, v, us, readsA (ev e) o.op, writesA (ev e) o.op⟩
          have hcan : x.can P γ all e H := ⟨hg, by rw [if_neg (by simp [x])]; exact ⟨rfl, rfl, h1⟩⟩
          have hups := can_ups hcan
          obtain ⟨tr, rest, log', k1, k2, k0, k0', k3, k4, k5⟩ := opsE_tr c js _ _ _ hnd'.2 (fun j' hj' => by
            have hne : j' ≠ j := fun he => hnd'.1 (he ▸ hj')
            rw [sets_out (us := us)]
            · exact hn j' (by simp [hj'])
            · intro o' ho'
              rcases hups _ _ ho' with ⟨_, h3⟩ | ⟨h3, _⟩
              · rw [hn j' (by simp [hj'])] at h3; cases h3
              · simp only [x] at h3; omega) h2
          refine ⟨x :: tr, rest, log', by simp [x, k1], ?_, fun l hl => k0 l (List.mem_cons_of_mem _ hl), ?_, ⟨hcan, k3⟩, ?_, ?_⟩
          · intro y hy
            rcases List.mem_cons.1 hy with rfl | hy
            · exact ⟨rfl, ho, fun _ => hc⟩
            · exact k2 y hy
          · intro y hy hoff
            rcases List.mem_cons.1 hy with rfl | hy
            · exact k0 _ (List.mem_cons_self ..)
            · exact k0' y hy hoff
          · refine List.pairwise_cons.2 ⟨fun y hy hw => ?_, k4⟩
            have := k5 y hy _ (List.mem_cons_self ..) hw
            exact this
          · intro y hy l hl hw
            rcases List.mem_cons.1 hy with rfl | hy
            · exact clash_mem hl hw hcl
            · exact k5 y hy l (List.mem_cons_of_mem _ hl) hw
      split at h
      · rename_i hg
        exact act (by unfold guardIs; rw [hg]) h
      · rename_i g want hg
        split at h
        · exact h.elim
        · rename_i s hs
          split at h
          · rename_i b hb
            split at h
            · rename_i hbw
              exact act (by unfold guardIs; rw [hg]; exact ⟨s, hs, .inl ⟨b, hb, by simp [hbw]⟩⟩) h
            · rename_i hbw
              exact skip (by unfold guardIs; rw [hg]; exact ⟨s, hs, .inl ⟨b, hb, by simp [hbw]⟩⟩) h
          · rename_i hb
            exact skip (by unfold guardIs; rw [hg]; exact ⟨s, hs, .inr ⟨hb, rfl⟩⟩) h
          · exact h.elim

theorem Tr.offs {all : List Oper} {K : Env → AHeap → Prop} : ∀ {a : List Ev} {e : Env} {H : AHeap}, Tr P γ all a e H K → ∀ x ∈ a, x.off = true → x.rd = [] ∧ x.wr = []
  | [], e, H, _, x, hx, _ => by simp at hx
  | y :: a, e, H, h, x, hx, ho => by
    rcases List.mem_cons.1 hx with rfl | hx
    · have := h.1.2
      rw [if_pos ho] at this
      exact ⟨this.2.2.1, this.2.2.2⟩
    · exact Tr.offs h.2 x hx ho
theorem effOk_pairs {all : List Oper} {bf : List Nat} : ∀ {perm : List Nat}, effOk all bf perm = true → perm.Pairwise fun j i => ∀ o, all[j]? = some o → (isCall o.op).isSome = true → waitsT bf i j = true
  | [], _ => .nil
  | j :: js, h => by
    simp only [effOk, Bool.and_eq_true] at h
    refine .cons (fun i hi o ho hc => ?_) (effOk_pairs h.2)
    have h1 := h.1
    rw [ho] at h1
    simp only [hc, Bool.not_true, Bool.false_or, List.all_eq_true] at h1
    exact h1 i hi
theorem wpAny_done {ops : Array Oper} {Q : Exit → Act → World → Prop} {fuel : Nat} {listed : Array Bool} {a : Act} (hs : listed.size = ops.size) (hl : ∀ j, j < ops.size → listed.getD j true ≠ false) (hq : Q .normal a w) : wpAny P .any ops Q fuel listed a w := by
  have hr : Region.ready .any ops listed = [] := by
    rw [List.eq_nil_iff_forall_not_mem]
    intro i hi
    obtain ⟨h0, o, ho, _⟩ := mem_ready.1 hi
    exact hl _ (Array.getElem?_eq_some_iff.1 ho).1 h0
  cases fuel with
  | zero => exact ⟨hr, hq⟩
  | succ n => exact ⟨fun _ => hq, fun i hi => by rw [hr] at hi; cases hi⟩
theorem Fresh.next {n : Nat} {fr : Nat → Prop} (R : Rel base L H w) (h : Fresh L n) (hx : Nx base fr L H w L' H' w') (hn : ¬ fr n) : Fresh L' n := by
  refine ⟨fun v => ?_, ?_, Nat.lt_of_lt_of_le h.lt hx.le.cnt⟩
  · cases hm : L'.mem n v with
    | none => rfl
    | some z =>
      rcases hx.nm _ _ _ hm with h1 | h1 | h1
      · rw [h.mem] at h1; cases h1
      · rw [h.dom R] at h1; cases h1
      · exact absurd h1 hn
  · cases hm : L'.obj n with
    | none => rfl
    | some z =>
      rcases hx.no _ _ hm with h1 | h1
      · rw [h.obj] at h1; cases h1
      · exact absurd h1 hn
/-- What stands at a call's place. -/
def AtCall (P : Program) (γ : Calld) (pol : Pol) (all : List Oper) (bf : List Nat) (log : List LogE) (K : Env → AHeap → Prop) (rest : List Nat) (e' : Env) (H' : AHeap) : Prop :=
  opsE P γ pol all bf rest log e' H' K ∧ ∀ j js, rest = j :: js → ∃ o f as, all[j]? = some o ∧ isCall o.op = some (f, as) ∧ guardIs all o e' true ∧
    quietW (openWr all bf j log) (callA γ pol (ev e' f) (as.toList.map (ev e')) (delL (openNew all bf j log) H') fun v H2 => noL (openNew all bf j log) H' H2 (keepA (delL (openNew all bf j log) H') H2 (openRd bf j log) (splitK (isG all j) v fun v => opsE P γ pol all bf js log (upd e' o.dst v) (putL (openNew all bf j log) H' H2) K)))
theorem eff_wp (hγ : SoundG P γ) {pol : Pol} {ops : Array Oper} {N c : Nat} {bf perm : List Nat} (hd : DrawOk ops.toList bf perm) (hef : effOk ops.toList bf perm = true) (hN : ∀ o ∈ ops.toList, dstOk N o.dst = true) {K : Env → AHeap → Prop} {Q : Exit → Act → World → Prop} :
    ∀ (fuel : Nat) (listed : Array Bool) (tr : List Ev) (rest : List Nat) (log : List LogE) (L : Lo) (H : AHeap) (w : World) (e : Env) (a : Act),
      listed.size = ops.size → (tr.map Ev.ix ++ rest).Sublist perm → (∀ j, j < ops.size → (listed.getD j true = false ↔ j ∈ tr.map Ev.ix ++ rest)) →
      (∀ i x, i < ops.size → x < ops.size → i ∉ tr.map Ev.ix ++ rest → waitsT bf i x = true → x ∉ tr.map Ev.ix ++ rest) →
      (∀ x ∈ tr, x.n = c + x.ix ∧ ops.toList[x.ix]? = some x.o ∧ (x.off = false → isCall x.o.op = none)) → (∀ x ∈ tr, x.off = false → logOf x ∈ log) → (tr.Pairwise fun x y => waitsT bf y.ix x.ix = false → IndH x y) →
      (tr.map Ev.ix ++ rest).length ≤ fuel → Rel base L H w → VE N L e a → c ≤ L.cnt → (∀ j ∈ tr.map Ev.ix ++ rest, Fresh L (c + j)) →
      Tr P γ ops.toList tr e H (AtCall P γ pol ops.toList bf log K rest) →
      (∀ L' e' H' a' w', VE N L' e' a' → Nx base (fun i => c ≤ i) L H w L' H' w' → K e' H' → Q .normal a' w') →
      wpAny P .any ops Q fuel listed a w := by
  intro fuel
  induction fuel with
  | zero =>
    intro listed tr rest log L H w e a hsz hsub hl hcl hn hlog hpw hlen R hv hcc hfr htr hQ
    have hq0 : tr.map Ev.ix ++ rest = [] := List.length_eq_zero_iff.1 (Nat.le_zero.1 hlen)
    obtain ⟨h1, rfl⟩ := List.append_eq_nil_iff.1 hq0
    have htr0 : tr = [] := by simpa using h1
    subst htr0
    exact wpAny_done hsz (fun j hj hf => by have := (hl j hj).1 hf; simp at this) (hQ L e H a w hv (Nx.refl R) htr.1)
  | succ fuel ih =>
    intro listed tr rest log L H w e a hsz hsub hl hcl hn hlog hpw hlen R hv hcc hfr htr hQ
    by_cases hq0 : tr.map Ev.ix ++ rest = []
    · obtain ⟨h1, rfl⟩ := List.append_eq_nil_iff.1 hq0
      have htr0 : tr = [] := by simpa using h1
      subst htr0
      exact wpAny_done hsz (fun j hj hf => by have := (hl j hj).1 hf; simp at this) (hQ L e H a w hv (Nx.refl R) htr.1)
    have hqlt : ∀ j ∈ tr.map Ev.ix ++ rest, j < ops.size := fun j hj => by have := hd.lt j (hsub.subset hj); simpa using this
    have hpairs := hd.pairs.sublist hsub
    have hnd := hsub.nodup hd.nodup
    have hcalls := (effOk_pairs hef).sublist hsub
    have tolist : ∀ {i : Nat}, i < ops.size → ops.toList[i]? = ops[i]? := fun _ => Array.getElem?_toList
    refine ⟨fun hnil => ?_, fun i hi => ?_⟩
    · -- the first one is ready
      exfalso
      cases hq : tr.map Ev.ix ++ rest with
      | nil => exact hq0 hq
      | cons j q =>
        have hjm : j ∈ tr.map Ev.ix ++ rest := by rw [hq]; simp
        have hlt := hqlt j hjm
        have ho : ops[j]? = some ops[j] := Array.getElem?_eq_getElem hlt
        have : j ∈ Region.ready .any ops listed := by
          refine mem_ready.2 ⟨(hl _ hlt).2 hjm, ops[j], ho, fun ed hed hb => ?_⟩
          have hon : ed.on < ops.size := by
            have := hd.edges j _ (by rw [Array.getElem?_toList]; exact ho) ed (by simpa using hed) hb; simpa using this
          cases hl' : listed.getD ed.on false with
          | true => rfl
          | false =>
            exfalso
            have hlf : listed.getD ed.on true = false := by
              rw [Array.getD_eq_getD_getElem?] at hl' ⊢
              rw [Array.getElem?_eq_getElem (by omega)] at hl' ⊢
              simpa using hl'
            have hm := (hl _ hon).1 hlf
            have hedge : hasEdge ops.toList j ed.on = true := by
              unfold hasEdge
              rw [Array.getElem?_toList, ho]
              simp only [List.any_eq_true, Bool.and_eq_true, beq_iff_eq]
              exact ⟨ed, by simpa using hed, hb, rfl⟩
            rw [hq] at hm hpairs
            rcases List.mem_cons.1 hm with hm | hm
            · rw [hm, hd.self j (by simpa using hlt)] at hedge
              cases hedge
            · have := (List.pairwise_cons.1 hpairs).1 _ hm
              rw [hedge] at this
              exact absurd this.2 (by simp)
        rw [hnil] at this
        cases this
    · obtain ⟨h0, o, ho, hall⟩ := mem_ready.1 hi
      have hlt : i < ops.size := (Array.getElem?_eq_some_iff.1 ho).1
      have him := (hl i hlt).1 h0
      have lis : ∀ ed ∈ o.after.toList, Region.binds .any ed = true → ed.on < ops.size ∧ ed.on ∉ tr.map Ev.ix ++ rest := by
        intro ed hed hb
        have hli := hall ed (by simpa using hed) hb
        have hon : ed.on < ops.size := by have := hd.edges i _ (by rw [Array.getElem?_toList]; exact ho) ed hed hb; simpa using this
        refine ⟨hon, fun hm => ?_⟩
        have := (hl _ hon).2 hm
        rw [Array.getD_eq_getD_getElem?, Array.getElem?_eq_getElem (by omega)] at this hli
        simp at this hli
        rw [this] at hli; cases hli
      have nowait : ∀ x ∈ tr.map Ev.ix ++ rest, waitsT bf i x = false := by
        intro x hx
        cases hw : waitsT bf i x with
        | false => rfl
        | true =>
          exfalso
          have hxlt := hqlt x hx
          have h1 := hd.waits i x (by simpa using hlt) (by simpa using hxlt)
          unfold waitsOk at h1
          rw [hw, Array.getElem?_toList, ho] at h1
          simp only [Bool.not_true, Bool.false_or, List.any_eq_true, Bool.and_eq_true, Bool.or_eq_true, beq_iff_eq] at h1
          obtain ⟨ed, hed, hb, h1⟩ := h1
          obtain ⟨hon, hnot⟩ := lis ed hed hb
          rcases h1 with h1 | h1
          · exact hnot (h1 ▸ hx)
          · exact hcl _ _ hon hxlt hnot h1 hx
      -- what is left open stays closed
      have closed : ∀ (q : List Nat), (∀ j, j ∈ q ↔ j ∈ tr.map Ev.ix ++ rest ∧ j ≠ i) → ∀ i' x, i' < ops.size → x < ops.size → i' ∉ q → waitsT bf i' x = true → x ∉ q := by
        intro q hin i' x hi' hx' hni hw hxq
        have hx1 := (hin x).1 hxq
        by_cases hii : i' = i
        · subst hii
          rw [nowait x hx1.1] at hw; cases hw
        · exact hcl i' x hi' hx' (fun hm => hni ((hin i').2 ⟨hm, hii⟩)) hw hx1.1
      have setl : ∀ (q : List Nat), (∀ j, j ∈ q ↔ j ∈ tr.map Ev.ix ++ rest ∧ j ≠ i) → ∀ j, j < ops.size → ((listed.setIfInBounds i true).getD j true = false ↔ j ∈ q) := by
        intro q hin j hj
        rw [hin]
        by_cases hji : i = j
        · subst hji
          simp only [ne_eq, not_true_eq_false, and_false, iff_false, Bool.not_eq_false]
          rw [Array.getD_eq_getD_getElem?, Array.getElem?_setIfInBounds_self_of_lt (by omega)]
          rfl
        · rw [getD_set_ne true hji, hl j hj]
          exact ⟨fun h => ⟨h, Ne.symm hji⟩, fun h => h.1⟩
      have slot : ∀ {x y : Nat} {ox oy : Oper}, x < ops.size → y < ops.size → x ≠ y → ops.toList[x]? = some ox → ops.toList[y]? = some oy → waitsT bf x y = false → waitsT bf y x = false → ∀ d, ox.dst = some d → d ∉ oy.looksAt ops.toList.toArray ∧ oy.dst ≠ some d := by
        intro x y ox oy hx hy hne h1 h2 w1 w2 d hdst
        have s1 := hd.slots y x (by simpa using hy) (by simpa using hx) (Ne.symm hne)
        unfold slotsOk at s1
        rw [h1, h2] at s1
        dsimp only at s1
        rw [hdst] at s1
        simp only [w1, w2, Bool.or_false, Bool.and_eq_true, decide_eq_true_eq, Bool.not_eq_true', List.contains_eq_mem, decide_eq_false_iff_not] at s1
        exact ⟨s1.2, s1.1⟩
      rcases List.mem_append.1 him with him' | him'
      · -- an operation that is no call
        obtain ⟨y, hy, hyi⟩ := List.mem_map.1 him'
        obtain ⟨t1, t2, rfl⟩ := List.append_of_mem hy
        have hyo := (hn y hy).2.1
        rw [hyi, Array.getElem?_toList, ho] at hyo
        have hoy : o = y.o := by simpa using hyo
        subst hoy
        have hmem : ∀ x ∈ t1 ++ t2, x ∈ t1 ++ y :: t2 := fun x hx => by
          rcases List.mem_append.1 hx with h | h
          · exact List.mem_append_left _ h
          · exact List.mem_append_right _ (List.mem_cons_of_mem _ h)
        have hsub2 : (t1 ++ t2).Sublist (t1 ++ y :: t2) := List.Sublist.append (List.Sublist.refl _) (List.sublist_cons_self _ _)
        have hsubq : ((t1 ++ t2).map Ev.ix ++ rest).Sublist ((t1 ++ y :: t2).map Ev.ix ++ rest) := (hsub2.map _).append (List.Sublist.refl _)
        have hnd1 : ∀ x ∈ t1 ++ t2, x.ix ≠ y.ix := by
          intro x hx he
          have hnd' := (List.nodup_append.1 hnd).1
          rw [List.map_append, List.map_cons, List.nodup_append] at hnd'
          obtain ⟨q1, q2, q3⟩ := hnd'
          rcases List.mem_append.1 hx with hx | hx
          · exact q3 x.ix (List.mem_map.2 ⟨x, hx, rfl⟩) y.ix (by simp) he
          · exact (List.nodup_cons.1 q2).1 (List.mem_map.2 ⟨x, hx, he⟩)
        have hin : ∀ j, j ∈ (t1 ++ t2).map Ev.ix ++ rest ↔ j ∈ (t1 ++ y :: t2).map Ev.ix ++ rest ∧ j ≠ i := by
          intro j
          constructor
          · intro hj
            refine ⟨hsubq.subset hj, ?_⟩
            rintro rfl
            rcases List.mem_append.1 hj with hj | hj
            · obtain ⟨x, hx, hxe⟩ := List.mem_map.1 hj
              exact hnd1 x hx (hxe.trans hyi.symm)
            · exact (List.nodup_append.1 hnd).2.2 j him' j hj rfl
          · rintro ⟨hj, hne⟩
            rcases List.mem_append.1 hj with hj | hj
            · obtain ⟨x, hx, rfl⟩ := List.mem_map.1 hj
              refine List.mem_append_left _ (List.mem_map.2 ⟨x, ?_, rfl⟩)
              rcases List.mem_append.1 hx with h | h
              · exact List.mem_append_left _ h
              · rcases List.mem_cons.1 h with rfl | h
                · exact absurd hyi hne
                · exact List.mem_append_right _ h
            · exact List.mem_append_right _ hj
        have hpp : ((t1 ++ y :: t2).map Ev.ix).Pairwise fun j j' => waitsT bf j j' = false ∧ hasEdge ops.toList j j' = false := (List.pairwise_append.1 hpairs).1
        rw [List.pairwise_map] at hpp
        have hind : ∀ x ∈ t1, IndS ops.toList x y ∧ IndH x y ∧ x.n ≠ y.n := by
          intro x hx
          have hxm : x ∈ t1 ++ y :: t2 := List.mem_append_left _ hx
          have hxn := hn x hxm
          have hyn := hn y hy
          have hne : x.ix ≠ y.ix := hnd1 x (List.mem_append_left _ hx)
          have hxlt : x.ix < ops.size := hqlt _ (List.mem_append_left _ (List.mem_map.2 ⟨x, hxm, rfl⟩))
          have hwyx : waitsT bf y.ix x.ix = false := by rw [hyi]; exact nowait _ (List.mem_append_left _ (List.mem_map.2 ⟨x, hxm, rfl⟩))
          have pw1 := (List.pairwise_append.1 hpw).2.2 x hx y (by simp)
          have pw2 := (List.pairwise_append.1 hpp).2.2 x hx y (by simp)
          have hylt : y.ix < ops.size := by rw [hyi]; exact hlt
          exact ⟨⟨slot hxlt hylt hne hxn.2.1 hyn.2.1 pw2.1 hwyx, fun d hdst => (slot hylt hxlt (Ne.symm hne) hyn.2.1 hxn.2.1 hwyx pw2.1 d hdst).1⟩, pw1 hwyx, by have := hxn.1; have := hyn.1; omega⟩
        obtain ⟨hcan, hrest⟩ := Tr.front t1 htr hind
        have hyN : dstOk N y.o.dst = true := hN _ (List.mem_of_getElem? (hn y hy).2.1)
        have hyfr : Fresh L y.n := by rw [(hn y hy).1]; exact hfr _ (List.mem_append_left _ (List.mem_map.2 ⟨y, hy, rfl⟩))
        have next : ∀ L' u w', VR L' y.v u → Nx base (fun i => i = y.n ∨ L.cnt ≤ i) L H w L' (H.sets y.us) w' → wpAny P .any ops Q fuel (listed.setIfInBounds i true) (a.put y.o.dst u) w' := by
          intro L' u w' hu hx
          refine ih _ (t1 ++ t2) rest log L' _ w' (upd e y.o.dst y.v) _ (by simpa using hsz) (hsubq.trans hsub) (setl _ hin) (closed _ hin) (fun x hx => hn x (hmem x hx)) (fun x hx => hlog x (hmem x hx)) (hpw.sublist hsub2) ?_ hx.rel ((hv.mono hx.le).put hyN hu) (Nat.le_trans hcc hx.le.cnt) ?_ hrest ?_
          · simp only [List.length_append, List.length_map, List.length_cons] at hlen ⊢; omega
          · intro j hj
            have hjf := hfr j (hsubq.subset hj)
            refine hjf.next R hx ?_
            rintro (h1 | h1)
            · have h2 := (hn y hy).1
              have h3 := ((hin j).1 hj).2
              omega
            · have := hjf.lt; omega
          · intro L2 e2 H2 a2 w2 q1 q2 q3
            refine hQ L2 e2 H2 a2 w2 q1 ((hx.imp (fr' := fun i => c ≤ i) fun i hi => ?_).trans q2 fun i hi => hi) q3
            rcases hi with h1 | h1
            · have h2 := (hn y hy).1; omega
            · omega
        unfold wpOp
        rw [ho]
        simp only
        have hwant := guard_wanted hv hN hcan.1
        rw [hwant]
        have h2 := hcan.2
        split at h2
        · rename_i hoff
          rw [hoff]
          simp only [Bool.not_true, Bool.false_eq_true, if_false]
          refine next L undef w ?_ ?_
          · rw [h2.1]; exact VR_undef
          · rw [h2.2.1]; exact Nx.refl R
        · rename_i hoff
          simp only [Bool.not_eq_true] at hoff
          rw [hoff]
          simp only [Bool.not_false, if_true]
          exact .inl (opC_wp hγ R hv hyfr h2.2.2 fun u w' L' k1 k2 => next L' u w' k1 k2)
      · -- a call
        cases rest with
        | nil => simp at him'
        | cons j js =>
          -- what stands at the end of the open events
          obtain ⟨Hx, hend⟩ := Tr.some_end htr
          obtain ⟨oc, f, as, hoc, hcall, hg, hqw⟩ := hend.2 j js rfl
          have hij : i = j := by
            rcases List.mem_cons.1 him' with h | h
            · exact h
            · exfalso
              have h1 := (List.pairwise_append.1 hcalls).2.1
              have h2 := (List.pairwise_cons.1 h1).1 i h oc hoc (by rw [hcall]; rfl)
              rw [nowait j (by simp)] at h2
              cases h2
          subst hij
          have hoo : o = oc := by rw [Array.getElem?_toList, ho] at hoc; simpa using hoc
          subst hoo
          clear hoc hg hqw hend Hx
          have hiq : i ∉ tr.map Ev.ix := fun h => (List.nodup_append.1 hnd).2.2 i h i (by simp) rfl
          have hndr : i ∉ js := by have := (List.nodup_append.1 hnd).2.1; exact (List.nodup_cons.1 this).1
          have hin : ∀ j, j ∈ tr.map Ev.ix ++ js ↔ j ∈ tr.map Ev.ix ++ i :: js ∧ j ≠ i := by
            intro j
            simp only [List.mem_append, List.mem_cons]
            constructor
            · rintro (h | h)
              · exact ⟨.inl h, fun he => hiq (he ▸ h)⟩
              · exact ⟨.inr (.inr h), fun he => hndr (he ▸ h)⟩
            · rintro ⟨h | h | h, hne⟩
              · exact .inl h
              · exact absurd h hne
              · exact .inr h
          have hoN : dstOk N o.dst = true := hN _ (by rw [← Array.getElem?_toList] at ho; exact List.mem_of_getElem? ho)
          have hpend : ∀ x ∈ tr, x.ix < ops.size ∧ x.ix ≠ i ∧ waitsT bf i x.ix = false ∧ waitsT bf x.ix i = false := by
            intro x hx
            have hxm : x.ix ∈ tr.map Ev.ix := List.mem_map.2 ⟨x, hx, rfl⟩
            refine ⟨hqlt _ (List.mem_append_left _ hxm), fun he => hiq (he ▸ hxm), nowait _ (List.mem_append_left _ hxm), ?_⟩
            exact ((List.pairwise_append.1 hpairs).2.2 x.ix hxm i (by simp)).1
          have hslot : ∀ x ∈ tr, (∀ d, o.dst = some d → d ∉ x.o.looksAt ops.toList.toArray ∧ x.o.dst ≠ some d) ∧ (∀ d, x.o.dst = some d → d ∉ o.looksAt ops.toList.toArray ∧ o.dst ≠ some d) := by
            intro x hx
            obtain ⟨p1, p2, p3, p4⟩ := hpend x hx
            have hoi : ops.toList[i]? = some o := by rw [Array.getElem?_toList]; exact ho
            exact ⟨slot hlt p1 (Ne.symm p2) hoi (hn x hx).2.1 p3 p4, slot p1 hlt p2 (hn x hx).2.1 hoi p4 p3⟩
          -- they are quiet, or make an object
          have hoffs := Tr.offs htr
          have hlogn : ∀ x ∈ tr, x.off = false → (isNew ops.toList (logOf x) = true ↔ ∃ t, x.o.op = .alloc t) := by
            intro x hx _
            unfold isNew logOf
            simp only [(hn x hx).2.1]
            constructor
            · intro h; split at h
              · rename_i t ht; exact ⟨_, ht⟩
              · cases h
            · rintro ⟨t, ht⟩; rw [ht]
          have hquiet : ∀ x ∈ tr, Quiet x ∨ NewE x := by
            intro x hx
            by_cases hoff : x.off = true
            · left
              intro v hv'
              have h1 := (hoffs x hx hoff).2
              unfold Ev.wr' at hv'
              rw [if_pos hoff, h1] at hv'
              simp at hv'
            · have hoff : x.off = false := by simpa using hoff
              by_cases hnw : isNew ops.toList (logOf x) = true
              · exact .inr ⟨hoff, (hlogn x hx hoff).1 hnw⟩
              · left
                intro v hv'
                obtain ⟨Hx, hend⟩ := Tr.some_end htr
                obtain ⟨oc, f', as', _, _, _, hqw⟩ := hend.2 i js rfl
                exact (quietW_iff.1 hqw).1 v (mem_openWr (hlog x hx hoff) (hpend x hx).2.2.1 (by simpa using hnw) hv')
          have hend := Tr.adds_end htr
          obtain ⟨oc, f', as', hoc, hcall', hg, hqw⟩ := hend.2 i js rfl
          have hoo : o = oc := by rw [Array.getElem?_toList, ho] at hoc; simpa using hoc
          subst hoo
          rw [hcall] at hcall'
          simp only [Option.some.injEq, Prod.mk.injEq] at hcall'
          obtain ⟨rfl, rfl⟩ := hcall'
          have hcl2 := (quietW_iff.1 hqw).2
          generalize hN' : openNew ops.toList bf i log = N' at hcl2
          have hout : ∀ x ∈ tr, NewE x → x.v = .ptr x.n 0 0 0 → x.wr = [] → outL N' x.n := by
            intro x hx hnw hv' hw'
            refine ⟨x.v, ?_, by rw [hv']; rfl⟩
            rw [← hN']
            refine mem_openNew (hlog x hx hnw.1) (hpend x hx).2.2.1 ((hlogn x hx hnw.1).2 hnw.2) ?_
            obtain ⟨t, ht⟩ := hnw.2
            show x.v ∈ x.wr'
            unfold Ev.wr'
            rw [hnw.1, ht, hw']
            simp [newOf, makes]
          have hptw := fun i => adds_ptw (i := i) hquiet htr
          have hdel : delL N' (adds tr H) = delL N' H := by
            funext k
            by_cases hk : outL N' k
            · rw [delL_in hk, delL_in hk]
            · rw [delL_out hk, delL_out hk]
              rcases hptw k with h1 | ⟨o', h1, x, hx, hx2, hx3, hx4, hx5⟩
              · exact h1 H
              · exact absurd (hx5 ▸ hout x hx hx2 hx3 hx4) hk
          rw [hdel] at hcl2
          have hdle : AHeap.le (delL N' H) H := fun k o' hk => by
            by_cases hk2 : outL N' k
            · rw [delL_in hk2] at hk; cases hk
            · rw [delL_out hk2] at hk; exact hk
          have hlooks : ∀ (b : List Ev) (e : Env), (∀ x ∈ b, x ∈ tr) → (∀ y ∈ o.op.operands, ev (upds b e) y = ev e y) ∧ (guardIs ops.toList o (upds b e) true ↔ guardIs ops.toList o e true) := by
            intro b
            induction b with
            | nil => intro e _; exact ⟨fun _ _ => rfl, Iff.rfl⟩
            | cons x b ihb =>
              intro e hb
              obtain ⟨i1, i2⟩ := ihb (upd e x.o.dst x.v) fun z hz => hb z (by simp [hz])
              have hx := (hslot x (hb x (by simp))).2
              refine ⟨fun y hy => ?_, ?_⟩
              · simp only [upds]
                rw [i1 y hy]
                exact upd_ev fun t ht hyt => (hx t ht).1 (looks_op (by rw [hyt] at hy; exact hy))
              · simp only [upds]
                rw [i2]
                exact guardIs_upd fun t ht => (hx t ht).1
          obtain ⟨l1, l2⟩ := hlooks tr e fun _ h => h
          obtain ⟨c1, c2⟩ := call_ops hcall
          rw [l1 f c1, map_congr' (l := as.toList) fun x hx => l1 x (c2 x hx)] at hcl2
          unfold wpOp
          rw [ho]
          simp only
          rw [guard_wanted hv hN (l2.1 hg), if_pos rfl]
          refine .inl (Oper.wp_mono (fun a2 w2 hp => ?_) (callA_wp hγ (R.weaken hdle) hv hcall hcl2))
          obtain ⟨L2, H2, av, u, rfl, p1, p2', p3⟩ := hp
          have hput : ∀ k, putL N' (adds tr H) H2 k = adds tr (putL N' H H2) k := by
            intro k
            rcases hptw k with h1 | ⟨o', h1, x, hx, hx2, hx3, hx4, hx5⟩
            · rw [h1]
              by_cases hk : outL N' k
              · rw [putL_in hk, putL_in hk, h1]
              · rw [putL_out hk, putL_out hk]
            · rw [h1, putL_in (hx5 ▸ hout x hx hx2 hx3 hx4), h1]
          have hput := funext hput
          have hon : delL N' H = H.only fun k => ¬ outL N' k := by
            funext k
            by_cases hk : outL N' k
            · rw [delL_in hk, only_out (fun h => h hk)]
            · rw [delL_out hk, only_in (D := fun k => ¬ outL N' k) hk]
          have p2 : Nx base (fun i => L.cnt ≤ i) L H w L2 (putL N' H H2) w2 := by
            rw [hon] at p2'
            obtain ⟨g1, g2⟩ := Nx.framed R p2'
            refine g1.weaken fun k o' hk => ?_
            by_cases hk2 : outL N' k
            · rw [putL_in hk2] at hk
              rw [both_r (g2 k (by rw [hk]; rfl) (fun h => h hk2)), only_in (D := fun i => ¬ ¬ outL N' i) (fun h => h hk2)]
              exact hk
            · rw [putL_out hk2] at hk
              exact both_l hk
          have p3 := noL_elim (fun v hv' => by
            unfold noV
            split
            · rename_i n _ _ _
              intro hsome
              have hon' : outL N' n := ⟨_, hv', rfl⟩
              rcases hptw n with h1 | ⟨o', h1, x, hx, hx2, hx3, hx4, hx5⟩
              · rw [h1] at hsome
                rw [hon] at p2'
                exact (Nx.framed R p2').2 n hsome (fun h => h hon')
              · have h6 := hfr x.ix (List.mem_append_left _ (List.mem_map.2 ⟨x, hx, rfl⟩))
                rw [← (hn x hx).1, hx5] at h6
                exact ((h6.next (R.weaken hdle) p2') (fun h => by have := h6.lt; omega)).dom p2'.rel
            · trivial) p3
          obtain ⟨p4, p5⟩ := keepA_iff.1 p3
          have p5 := splitK_self p5
          rw [hput] at p5
          have hfr2 : ∀ j ∈ tr.map Ev.ix ++ js, Fresh L2 (c + j) := fun j hj => by
            have hjf := hfr j ((hin j).1 hj).1
            exact hjf.next R p2 fun h1 => by have := hjf.lt; omega
          have hnone : ∀ j ∈ js, adds tr (putL N' H H2) (c + j) = none := fun j hj => by
            rcases hptw (c + j) with h1 | ⟨o', h1, x, hx, hx2, hx3, hx4, hx5⟩
            · rw [h1]; exact (hfr2 j (by simp [hj])).dom p2.rel
            · exfalso
              have h3 := (hn x hx).1
              have h4 : x.ix = j := by omega
              exact (List.nodup_append.1 hnd).2.2 x.ix (List.mem_map.2 ⟨x, hx, rfl⟩) j (List.mem_cons_of_mem _ hj) h4
          have hndn : (tr.map Ev.n).Nodup := by
            have h1 := (List.nodup_append.1 hnd).1
            rw [List.Nodup, List.pairwise_map] at h1 ⊢
            refine h1.imp_of_mem fun {x y} hx hy hne he => hne ?_
            have h2 := (hn x hx).1
            have h3 := (hn y hy).1
            omega
          obtain ⟨tr2, rest2, log2, k1, k2, k0, k0', k3, k4, k5⟩ := opsE_tr c js log _ _ (List.nodup_cons.1 (List.nodup_append.1 hnd).2.1).2 hnone p5
          have hq2 : (tr ++ tr2).map Ev.ix ++ rest2 = tr.map Ev.ix ++ js := by rw [List.map_append, List.append_assoc, k1]
          have hsub2 : (tr.map Ev.ix ++ js).Sublist (tr.map Ev.ix ++ i :: js) := List.Sublist.append (List.Sublist.refl _) (List.sublist_cons_self _ _)
          refine ih _ (tr ++ tr2) rest2 log2 L2 (putL N' H H2) w2 (upd e o.dst av) _ (by simpa using hsz) (by rw [hq2]; exact hsub2.trans hsub) (by rw [hq2]; exact setl _ hin) (by rw [hq2]; exact closed _ hin) ?_ ?_ ?_ ?_ p2.rel ((hv.mono p2.le).put hoN p1) (Nat.le_trans hcc p2.le.cnt) (by rw [hq2]; exact hfr2) ?_ ?_
          · intro x hx
            rcases List.mem_append.1 hx with hx | hx
            · exact hn x hx
            · exact k2 x hx
          · intro x hx hoff
            rcases List.mem_append.1 hx with hx | hx
            · exact k0 _ (hlog x hx hoff)
            · exact k0' x hx hoff
          · refine List.pairwise_append.2 ⟨hpw, k4, fun x hx y hy hw => ?_⟩
            by_cases hoff : x.off = true
            · have h1 := hoffs x hx hoff
              refine ⟨fun a _ b hb => ?_, fun a ha => ?_⟩
              · unfold Ev.wr' at hb; rw [h1.1, if_pos hoff, h1.2] at hb; simp at hb
              · unfold Ev.wr' at ha; rw [if_pos hoff, h1.2] at ha; simp at ha
            · exact k5 y hy _ (hlog x hx (by simpa using hoff)) hw
          · rw [hq2]
            simp only [List.length_append, List.length_map, List.length_cons] at hlen ⊢; omega
          · refine Tr.app (Tr.later (H := H) hndn (fun x hx => ?_) (Tr.mono (fun _ _ _ => trivial) htr) k3)
            obtain ⟨q1, q2, q3, q4⟩ := hpend x hx
            refine ⟨hquiet x hx, (hn x hx).2.2, fun v hv' => ?_, ?_, (hslot x hx).1⟩
            · by_cases hoff : x.off = true
              · rw [(hoffs x hx hoff).1] at hv'; simp at hv'
              · have h1 := p4 v (mem_openRd (hlog x hx (by simpa using hoff)) q3 hv')
                rw [kp_iff] at h1 ⊢
                refine ⟨h1.1, fun k hk => ?_⟩
                have h2 := h1.2 k hk
                by_cases hk2 : outL N' k
                · exact putL_in hk2
                · rw [putL_out hk2, h2, delL_out hk2]
            · rw [(hn x hx).1]
              exact (hfr2 x.ix (List.mem_append_left _ (List.mem_map.2 ⟨x, hx, rfl⟩))).dom p2.rel
          · intro L3 e3 H3 a3 w3 q1 q2 q3
            exact hQ L3 e3 H3 a3 w3 q1 ((p2.imp (fr' := fun i => c ≤ i) fun i hi => by omega).trans q2 fun i hi => hi) q3
theorem drawS (hγ : SoundG P γ) (pol : Pol) : DrawS P γ pol := by
  intro N id ops base Q L H w e a hN R hv h
  simp only [regX, if_true, drA, Bool.and_eq_true] at h
  obtain ⟨⟨⟨⟨hok, hmix⟩, htail⟩, heff⟩, h⟩ := h
  have hd := drawOk_spec hok
  obtain ⟨L1, e1, H1, hv1, hx1, h⟩ := frzSlots_sound _ R hv h
  have R1 := hx1.rel
  have hfre : ∀ j, H1 (L1.cnt + j) = none := fun j => by
    cases hj : H1 (L1.cnt + j) with
    | none => rfl
    | some o => have := dom_lt R1 hj; omega
  have hsz : (pol.perm id).length = ops.size := by simpa using hd.len
  have hall : ∀ j, j < ops.size → j ∈ pol.perm id := fun j hj => nodup_all hd.nodup (fun x hx => by have := hd.lt x hx; simpa using this) hsz hj
  have hx2 : Nx base (fun i => L.cnt ≤ i) L H w (L1.bump ops.size) H1 { w with drawn := w.drawn + 1 } :=
    ((hx1.imp (fr' := fun i => L.cnt ≤ i) fun i hi => hi.elim).trans (Nx.bump R1 ops.size) (fun _ h => h)).trans (Nx.heap (R1.bump _) rfl rfl rfl rfl) (fun _ h => h)
  have R2 := hx2.rel
  have frs : ∀ tr : List Ev, (∀ x ∈ tr, x.n = L1.cnt + x.ix ∧ ops.toList[x.ix]? = some x.o) → ∀ x ∈ tr, Fresh (L1.bump ops.size) x.n := fun tr k2 x hx => by
    have h1 := (k2 x hx).1
    have h2 : x.ix < ops.size := by have := (List.getElem?_eq_some_iff.1 (k2 x hx).2).1; simpa using this
    refine ⟨fun v => ?_, ?_, by simp only [Lo.bump]; omega⟩
    · cases hm : (L1.bump ops.size).mem x.n v with
      | none => rfl
      | some z => have := R1.fm _ _ _ hm; omega
    · cases hm : (L1.bump ops.size).obj x.n with
      | none => rfl
      | some z => have := R1.fo _ _ hm; omega
  have nxs : ∀ tr : List Ev, (∀ x ∈ tr, x.n = L1.cnt + x.ix ∧ ops.toList[x.ix]? = some x.o) → ∀ {L' : Lo} {H' : AHeap} {w' : World}, Nx base (fun i => (∃ x ∈ tr, i = x.n) ∨ (L1.bump ops.size).cnt ≤ i) (L1.bump ops.size) H1 { w with drawn := w.drawn + 1 } L' H' w' → Nx base (fun i => L.cnt ≤ i) L H w L' H' w' := fun tr k2 _ _ _ q2 => by
    refine hx2.trans q2 fun i hi => ?_
    rcases hi with ⟨x, hx, rfl⟩ | hi
    · have h1 := (k2 x hx).1
      have := hx1.le.cnt
      omega
    · exact Nat.le_trans hx2.le.cnt hi
  have unl : ∀ {listed : Array Bool} {jl : Option Nat} {i : Nat}, listed.size = ops.size → (∀ j, j < ops.size → (listed.getD j true = false ↔ jl = some j)) → i ∈ Region.ready .any ops listed → jl = some i := fun hs hl hi => by
    obtain ⟨h0, o, ho, _⟩ := mem_ready.1 hi
    have hlt := (Array.getElem?_eq_some_iff.1 ho).1
    exact (hl _ hlt).1 h0
  have done : ∀ {fuel : Nat} {listed : Array Bool} {a' : Act} {w' : World} {Q' : Exit → Act → World → Prop}, listed.size = ops.size → (∀ j, j < ops.size → (listed.getD j true = false ↔ (none : Option Nat) = some j)) → Q' .normal a' w' → wpAny P .any ops Q' fuel listed a' w' := fun {fuel listed a' w' Q'} hs hl hq => by
    have hr : Region.ready .any ops listed = [] := by
      rw [List.eq_nil_iff_forall_not_mem]
      intro i hi
      cases unl hs hl hi
    cases fuel with
    | zero => exact ⟨hr, hq⟩
    | succ n => exact ⟨fun _ => hq, fun i hi => by rw [hr] at hi; cases hi⟩
  by_cases hef : pol.eff id = true
  · rw [if_pos hef] at h
    rw [hef] at heff
    simp only [Bool.not_true, Bool.false_or] at heff
    obtain ⟨tr, rest, log, k1, k2, _, k0', k3, k4, _⟩ := opsE_tr L1.cnt _ [] e1 H1 hd.nodup (fun j _ => hfre j) h
    have hq : ∀ j, j ∈ tr.map Ev.ix ++ rest ↔ j < ops.size := fun j => by
      rw [k1]
      exact ⟨fun hj => by have := hd.lt j hj; simpa using this, hall j⟩
    have hfr0 : ∀ j, j < ops.size → Fresh (L1.bump ops.size) (L1.cnt + j) := fun j hj => by
      refine ⟨fun v => ?_, ?_, by simp only [Lo.bump]; omega⟩
      · cases hm : (L1.bump ops.size).mem (L1.cnt + j) v with
        | none => rfl
        | some z => have := R1.fm _ _ _ hm; omega
      · cases hm : (L1.bump ops.size).obj (L1.cnt + j) with
        | none => rfl
        | some z => have := R1.fo _ _ hm; omega
    refine wp_region_any hmix (eff_wp (c := L1.cnt) hγ hd heff hN ops.size _ tr rest log (L1.bump ops.size) H1 _ e1 a (by simp) (by rw [k1]; exact List.Sublist.refl _) ?_ ?_ k2 k0' k4 (by rw [k1, hsz]; exact Nat.le_refl _) R2 (hv1.mono (L1.le_bump _)) (by simp [Lo.bump]) (fun j hj => hfr0 j ((hq j).1 hj)) k3 ?_)
    · intro j hj
      have hlt : j < ops.size := hj
      simp [hq, hlt]
    · intro i x hi hx hni
      exact absurd ((hq i).2 hi) hni
    · intro L' e' H' a' w' q1 q2 q3
      exact ⟨L', e', H', q1, hx2.trans q2 fun i hi => Nat.le_trans hx1.le.cnt hi, q3⟩
  rw [if_neg hef] at h
  by_cases ht : pol.tail id = true
  · rw [if_pos ht] at h
    rw [ht] at htail
    simp only [Bool.not_true, Bool.false_or, tailOk] at htail
    unfold opsT at h
    cases hgl : (pol.perm id).getLast? with
    | none => rw [hgl] at htail; cases htail
    | some jl =>
      rw [hgl] at htail h
      simp only [List.all_eq_true] at htail
      have hsplit : pol.perm id = (pol.perm id).dropLast ++ [jl] := by
        rcases List.eq_nil_or_concat (pol.perm id) with hp | ⟨o, x, hp⟩
        · rw [hp] at hgl; cases hgl
        · rw [List.concat_eq_append] at hp
          rw [hp] at hgl ⊢
          simp at hgl
          rw [List.dropLast_concat, hgl]
      generalize hI : (pol.perm id).dropLast = init at *
      have hnd := hd.nodup
      rw [hsplit, List.nodup_append] at hnd
      obtain ⟨nd1, _, nd3⟩ := hnd
      have hjlt : jl < ops.size := by have := hd.lt jl (by rw [hsplit]; simp); simpa using this
      obtain ⟨tr, k1, k2, k3, k4, _⟩ := opsD_tr L1.cnt _ [] e1 H1 nd1 (fun j _ => hfre j) h
      have hpw := hd.pairs
      rw [hsplit] at hpw
      have hpw1 := (List.pairwise_append.1 hpw).1
      have hpw2 := (List.pairwise_append.1 hpw).2.2
      have hmem : ∀ j, j < ops.size → (j ∈ tr.map Ev.ix ∨ j = jl) := fun j hj => by
        have := hall j hj
        rw [hsplit] at this
        rw [k1]
        simpa using this
      refine wp_region_any hmix (tr_wp (c := L1.cnt) hγ hd hN (some jl) ops.size _ tr (L1.bump ops.size) H1 _ e1 a (by simp) ?_ ?_ ?_ (by rw [k1]; exact nd1) k2 k4 ?_ ?_ R2 (hv1.mono (L1.le_bump _)) (frs tr k2) k3 ?_)
      · intro j hj
        have hlt : j < ops.size := hj
        rcases hmem j hj with hp | hp
        · simp [hp, hlt]
        · subst hp; simp [hlt]
      · intro i x hi hx hnj hni
        exfalso
        rcases hmem i hi with hp | hp
        · exact hni hp
        · exact hnj (by rw [hp])
      · intro j hj
        cases hj
        refine ⟨hjlt, fun x hx => ?_⟩
        have hxi : x.ix ∈ init := by rw [← k1]; exact List.mem_map.2 ⟨x, hx, rfl⟩
        exact ⟨fun he => nd3 _ hxi jl (by simp) he, htail _ hxi, (hpw2 _ hxi jl (by simp)).2⟩
      · rw [← k1, List.pairwise_map] at hpw1
        exact hpw1
      · have h1 : tr.length = (tr.map Ev.ix).length := by simp
        have h2 := congrArg List.length hsplit
        rw [List.length_append, List.length_singleton] at h2
        rw [h1, k1, if_neg (by simp)]
        omega
      · intro L' e' H' a' w' q1 q2 q3 fuel listed hs hl hf
        rw [if_neg (by simp)] at hf
        obtain ⟨fuel, rfl⟩ : ∃ n, fuel = n + 1 := ⟨fuel - 1, by omega⟩
        have hoj : ops[jl]? = some ops[jl] := Array.getElem?_eq_getElem hjlt
        have q3' := q3
        simp only [Array.getElem?_toList, hoj] at q3'
        have hx3 := nxs tr k2 q2
        split at q3'
        · rename_i hg
          refine ⟨fun hnil => ?_, fun i hi => ?_⟩
          · exfalso
            have : jl ∈ Region.ready .any ops listed := by
              refine mem_ready.2 ⟨(hl _ hjlt).2 rfl, ops[jl], hoj, fun ed hed hb => ?_⟩
              have hon : ed.on < ops.size := by have := hd.edges jl _ (by rw [Array.getElem?_toList]; exact hoj) ed (by simpa using hed) hb; simpa using this
              cases hl' : listed.getD ed.on false with
              | true => rfl
              | false =>
                exfalso
                have hlf : listed.getD ed.on true = false := by
                  rw [Array.getD_eq_getD_getElem?] at hl' ⊢
                  rw [Array.getElem?_eq_getElem (by omega)] at hl' ⊢
                  simpa using hl'
                have he := (hl _ hon).1 hlf
                simp only [Option.some.injEq] at he
                have hs := hd.self jl (by simpa using hjlt)
                unfold hasEdge at hs
                rw [Array.getElem?_toList, hoj] at hs
                simp only [List.any_eq_false] at hs
                have := hs ed (by simpa using hed)
                simp [hb, he] at this
            rw [hnil] at this
            cases this
          · have hij := unl hs hl hi
            simp only [Option.some.injEq] at hij
            subst hij
            unfold wpOp
            rw [hoj]
            simp only
            rw [if_pos (by simp [Region.wanted, hg])]
            refine .inl (Oper.wp_mono (fun a2 w2 hp => ?_) (opX_wp hγ q2.rel q1 q3'))
            obtain ⟨L3, H3, av, u, rfl, p1, p2, p3⟩ := hp
            refine done (by simpa using hs) (fun j hj => ?_) ⟨L3, _, H3, (q1.mono p2.le).put (hN _ (by simp)) p1, hx3.trans p2 fun i hi => Nat.le_trans (hx3.le.cnt) hi, p3⟩
            simp only [reduceCtorEq, iff_false, Bool.not_eq_false]
            by_cases hji : jl = j
            · subst hji
              rw [Array.getD_eq_getD_getElem?, Array.getElem?_setIfInBounds_self_of_lt (by omega)]
              rfl
            · rw [getD_set_ne true hji]
              cases hh : listed.getD j true with
              | true => rfl
              | false => exact absurd (Option.some.inj ((hl j hj).1 hh)) hji
        · exact q3'.elim
  · rw [if_neg ht] at h
    obtain ⟨tr, k1, k2, k3, k4, _⟩ := opsD_tr L1.cnt _ [] e1 H1 hd.nodup (fun j _ => hfre j) h
    refine wp_region_any hmix (tr_wp (c := L1.cnt) hγ hd hN none ops.size _ tr (L1.bump ops.size) H1 _ e1 a (by simp) ?_ ?_ (fun j hj => by cases hj) (by rw [k1]; exact hd.nodup) k2 k4 ?_ ?_ R2 (hv1.mono (L1.le_bump _)) (frs tr k2) k3 ?_)
    · intro j hj
      have hlt : j < ops.size := hj
      have hp : j ∈ tr.map Ev.ix := by rw [k1]; exact hall j hj
      simp [hp, hlt]
    · intro i x hi hx _ hni
      exfalso
      apply hni
      rw [k1]
      exact hall i hi
    · have := hd.pairs
      rw [← k1, List.pairwise_map] at this
      exact this
    · have : tr.length = (tr.map Ev.ix).length := by simp
      rw [this, k1, hsz, if_pos rfl]; exact Nat.le_refl _
    · intro L' e' H' a' w' q1 q2 q3 fuel listed hs hl _
      exact done hs hl ⟨L', e', H', q1, nxs tr k2 q2, q3⟩
theorem calls_of {f : FuncId} {fn : Func} {c : Code} {pol : Pol} (hf : P.funcs[f]? = some fn) (hn : fn.name ≠ "runtime.NumGoroutine") (hb : fn.body = some c) (hok : okCode fn.ntmps c = true)
    {as : List AV} {K : AV → AHeap → Prop} (h : execC P (CallsA P) pol fn c as H K) : CallsA P f as H K :=
  callsA_of (fun _ _ _ _ h => h) (drawS (fun _ _ _ _ h => h) pol) hf hn hb hok h
end Go.AM

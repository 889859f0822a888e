/- Sorted keys of a map, and a sorted slice: out of the library's contracts, as calls over abstract heaps. -/
import Derived.Test.YtmciomkibklokaaA26
import Derived.Shelf.SlIterI.Sorted
set_option autoImplicit false
set_option linter.unusedVariables false
set_option linter.unusedSimpArgs false
namespace Go.AM
open Go.RowKit Go.Proofs Go.Sort Go.WideShapes

variable {P : Program} {L L' : Lo} {w w' : World} {base : Nat} {H H' : AHeap}

/-- Nothing that lay before has turned; new blocks of data that nobody writes. -/
theorem Nx.below {p : Nat → Nat → Option Value} (R : Rel base L H w) (hb : Below w.heap.size w w') (hcell : ∀ b k v, p b k = some v → w.heap.size ≤ b ∧ w'.cell? ⟨b, k, none⟩ = some v) :
    Nx base (fun _ => False) L H w (L.addImm p) H w' := by
  have himm : ∀ b k v, (L.addImm p).imm b k = some v → L.imm b k = some v ∨ p b k = some v := by
    intro b k v hv
    simp only [Lo.addImm] at hv
    split at hv
    · rename_i h; rw [h]; exact .inl hv
    · exact .inr hv
  have hnone : H L.cnt = none := by
    cases h : H L.cnt with
    | none => rfl
    | some o => have := dom_lt R h; omega
  have old : ∀ b k v, L.imm b k = some v → w'.cell? ⟨b, k, none⟩ = some v := fun b k v h => by
    have hlt := imm_lt R h
    have h0 := R.imm _ _ _ h
    unfold World.cell? at h0 ⊢
    simp only at h0 ⊢
    rw [hb.block b hlt]; exact h0
  refine Nx.change R (n := L.cnt) ⟨L.le_addImm, ⟨hb.size, hb.os, hb.tape, hb.output, fun b h _ => hb.block b h⟩, ?_, fun _ _ => rfl, ?_, ?_, ?_, fun i v x h => .inl h, fun i x h => .inl h, ?_⟩
  · intro b k v hv
    rcases himm b k v hv with h | h
    · exact old b k v h
    · exact (hcell b k v h).2
  · intro i o' b hi ho hb'
    have hlt := R.own_lt ⟨i, o', ho, hb'⟩
    refine ⟨hb.block b hlt, fun k hk => ?_⟩
    cases hx : (L.addImm p).imm b k with
    | none => rfl
    | some v =>
      rcases himm b k v hx with h | h
      · rw [hk] at h; cases h
      · have := (hcell b k v h).1; omega
  · intro o' ho; rw [hnone] at ho; cases ho
  · intro h; rw [hnone] at h; cases h
  · intro b k v hv
    rcases himm b k v hv with h | h
    · exact .inl h
    · exact .inr (.inr (hcell b k v h).1)
def intsD (l : List Int) : List (List Dat) := l.map fun n => [.int .i64 n]
theorem DRE_ints {L : Lo} {b : Nat} : ∀ (l : List Int) (o : Nat), (∀ j x, l[j]? = some x → L.imm b (o + j) = some (.int .i64 x)) → DRE L b o 1 (intsD l)
  | [], _, _ => by simp [intsD, DRE]
  | x :: l, o, h => by
    have h0 := h 0 x rfl
    have ht := DRE_ints l (o + 1) fun j y hj => by
      have := h (j + 1) y (by simpa using hj)
      rwa [show o + 1 + j = o + (j + 1) by omega]
    simp only [intsD, List.map_cons, DRE, DRC, List.length_cons, List.length_nil, and_true] at ht ⊢
    exact ⟨trivial, ⟨_, h0, by simp [DR]⟩, ht⟩
/-- A new slice that holds numbers, as data. -/
theorem ints_back {e : TypeId} {v : Value} {l : List Int} {K : AV → AHeap → Prop} (R : Rel base L H w) (hb : Below w.heap.size w w') (hrow : w'.ownsRow w.heap.size e 1 v l.length (l.map encZ)) (hnil : v = .slice none 0 0 ↔ l = []) (hK : K (.d (.sl l.isEmpty (intsD l))) H) :
    ∃ av L' H', VR L' av v ∧ Nx base (fun i => L.cnt ≤ i) L H w L' H' w' ∧ K av H' := by
  by_cases hl : l = []
  · refine ⟨_, L.addImm (fun _ _ => none), H, ?_, (Nx.below R hb fun b k v h => by cases h).imp (fun _ h => h.elim), hK⟩
    have hv := hnil.2 hl
    subst hl
    subst hv
    simp only [VR, DR, intsD, List.map_nil, List.isEmpty_nil]
    exact ⟨none, 0, rfl, Nat.le_refl _, fun _ => ⟨rfl, rfl⟩, fun h => by cases h⟩
  · obtain ⟨_, h1⟩ := hrow
    rcases h1 with ⟨h1, _⟩ | ⟨g, cap, cur, rfl, hg, hgb, hlc, hcm, hsz, htk⟩
    · exact absurd (hnil.1 h1) hl
    · have hget : ∀ j x, l[j]? = some x → cur[j]? = some (encZ x) := fun j x hj => by
        have hjl : j < l.length := (List.getElem?_eq_some_iff.1 hj).1
        have : (cur.toList.take (l.length * 1))[j]? = some (encZ x) := by rw [htk, List.getElem?_map, hj]; rfl
        rw [List.getElem?_take_of_lt (by omega), Array.getElem?_toList] at this
        exact this
      refine ⟨_, L.addImm (fun b k => if b = g then (l[k]?).map encZ else none), H, ?_, (Nx.below R hb fun b k v h => ?_).imp (fun _ h => h.elim), hK⟩
      · have he : l.isEmpty = false := by cases l with | nil => exact absurd rfl hl | cons => rfl
        simp only [VR, DR, he]
        have hlen : (intsD l).length = l.length := by simp [intsD]
        refine ⟨some ⟨g, 0, none⟩, cap, by rw [hlen], by rw [hlen]; exact hlc, (fun h => by cases h), fun _ => ⟨_, rfl, .inr ⟨rfl, 1, DRE_ints l 0 fun j x hj => ?_⟩⟩⟩
        simp only [Lo.addImm]
        have : L.imm g (0 + j) = none := by
          cases hh : L.imm g (0 + j) with
          | none => rfl
          | some v => have := imm_lt R hh; omega
        rw [this]
        simp only [if_true, Nat.zero_add, hj, Option.map_some]
        try rfl
      · split at h
        · rename_i e
          subst e
          refine ⟨hg, ?_⟩
          cases hk : l[k]? with
          | none => rw [hk] at h; cases h
          | some x =>
            rw [hk] at h
            simp only [Option.map_some, Option.some.injEq] at h
            subst h
            simp only [World.cell?, hgb]
            exact hget k x hk
        · cases h
/-- What is known of the entries of a map with whole numbers for keys. -/
structure KeysOk (es : List MEnt) (cl : Nat) (ks : List Int) : Prop where
  keys : es.map (·.key) = ks.map (Dat.int .i64)
  nodup : ks.Nodup
  born : (∀ e ∈ es, e.born < cl) ∧ (es.map (·.born)).Nodup
  size : ks.length < 2 ^ 40
  wf : ∀ k ∈ ks, (Lit.int .i64 k).wf = true
theorem EntR.keys : ∀ {es : List MEnt} {cs : List MapEntry} {ks : List Int}, EntR L es cs → es.map (·.key) = ks.map (Dat.int .i64) → cs.map (·.key) = ks.map encZ ∧ cs.map (·.born) = es.map (·.born)
  | [], [], ks, _, h => by
    cases ks with
    | nil => exact ⟨rfl, rfl⟩
    | cons => simp at h
  | [], _ :: _, _, h, _ => h.elim
  | _ :: _, [], _, h, _ => h.elim
  | e :: es, c :: cs, ks, h, hk => by
    cases ks with
    | nil => simp at hk
    | cons k ks =>
      simp only [List.map_cons, List.cons.injEq] at hk
      obtain ⟨h1, h2⟩ := EntR.keys h.2.2.2.2 hk.2
      have hd := h.1
      rw [hk.1] at hd
      simp only [DR] at hd
      exact ⟨by simp only [List.map_cons, h1, hd, encZ], by simp only [List.map_cons, h2, h.2.2.2.1]⟩
/-- What the library's contract says of the sorted keys of a map. -/
def KeysSorted (P : Program) (f g : FuncId) (K T : TypeId) : Prop :=
  (∀ (Bm b nn : Nat) (D0 : DataW Unit) (R : Value → Option (DataW Unit × List MemPlace)) (w : World), Bm < w.heap.size → w.cell? ⟨Bm, 0, none⟩ = some (.map (some b)) → w.ownsMap P K R b nn D0 → Maps.size D0 ≤ maxLen → Maps.size D0 * 8 ≤ 140737488355328 →
    Calls P f #[.func (.func g) #[] #[.pointer (some ⟨Bm, 0, none⟩)]] w fun e w' => ∃ (v : Value) (ss : List Int), e = .returned v ∧ ss.Perm (intKeys D0) ∧ w'.ownsRow w.heap.size T 1 v ss.length ((ss.mergeSort (fun x y => decide (x ≤ y))).map encZ) ∧ (v = .slice none 0 0 ↔ ss = []) ∧ Below w.heap.size w w') ∧
  (∀ (Bm : Nat) (w : World), Bm < w.heap.size → w.cell? ⟨Bm, 0, none⟩ = some (.map none) →
    Calls P f #[.func (.func g) #[] #[.pointer (some ⟨Bm, 0, none⟩)]] w fun e w' => ∃ (v : Value) (ss : List Int), e = .returned v ∧ ss = [] ∧ w'.ownsRow w.heap.size T 1 v ss.length ((ss.mergeSort (fun x y => decide (x ≤ y))).map encZ) ∧ (v = .slice none 0 0 ↔ ss = []) ∧ Below w.heap.size w w')
theorem box_cell {i fro : Nat} {x : AV} {v : Value} (R : Rel base L H w) (hk : H i = some (.mem 0 fro 1 [[x]])) (hv : VR L (.ptr i 0 0 0) v) : ∃ B u, v = .pointer (some ⟨B, 0, none⟩) ∧ B < w.heap.size ∧ w.cell? ⟨B, 0, none⟩ = some u ∧ VR L x u := by
  obtain ⟨b, c, m⟩ := R.mem _ _ _ _ _ hk
  simp only [VR] at hv
  obtain ⟨b', sz, n, c', h1, rfl⟩ := hv
  have hl := m.loc
  rw [h1] at hl
  simp only [Option.some.injEq, Prod.mk.injEq] at hl
  obtain ⟨rfl, rfl, _⟩ := hl
  have h0 := m.orig rfl
  obtain ⟨cells, t, g1, g2, g3⟩ := m.cells
  obtain ⟨_, g4⟩ := g3 0 [x] rfl
  obtain ⟨u, g5, g6, _⟩ := g4 0 x rfl
  refine ⟨b'.block, u, by rw [h0], (Array.getElem?_eq_some_iff.1 g1).1, ?_, g6⟩
  rw [h0] at g5
  simp only [World.cell?, g1]
  simpa using g5
theorem func_args {g : FuncId} {x : AV} {args : Array Value} (hv : VRL L [.func g [] [x]] args.toList) : ∃ u, args = #[.func (.func g) #[] #[u]] ∧ VR L x u := by
  obtain ⟨l⟩ := args
  cases l with
  | nil => simp [VRL] at hv
  | cons v r =>
    cases r with
    | cons y r => simp [VRL] at hv
    | nil =>
      simp only [VRL, and_true] at hv
      simp only [VR] at hv
      obtain ⟨a, c, rfl, h1, h2⟩ := hv
      obtain ⟨la⟩ := a
      obtain ⟨lc⟩ := c
      cases la with
      | cons y r => simp [VRL] at h1
      | nil =>
        cases lc with
        | nil => simp [VRL] at h2
        | cons u r =>
          cases r with
          | cons y r => simp [VRL] at h2
          | nil =>
            simp only [VRL, and_true] at h2
            exact ⟨u, rfl, h2⟩
theorem sort_perm {l m : List Int} (h : l.Perm m) : l.mergeSort (fun x y => decide (x ≤ y)) = m.mergeSort (fun x y => decide (x ≤ y)) := mergeSort_of_perm_i h
/-- slices.Sorted of maps.Keys' value. -/
theorem sorted_keys {f g : FuncId} {Kt T : TypeId} (hfn : ∃ fn, P.funcs[f]? = some fn ∧ fn.name ≠ "runtime.NumGoroutine" ∧ fn.body.isSome = true) (hu : P.underlying Kt = some (.int .i64)) (hC : KeysSorted P f g Kt T)
    {k i fro cl : Nat} {es : List MEnt} {ks : List Int} (hk : H k = some (.mem 0 fro 1 [[.map i]])) (hi : H i = some (.map es cl)) (ho : KeysOk es cl ks) {K : AV → AHeap → Prop} (h : K (.d (.sl ks.isEmpty (intsD (ks.mergeSort fun x y => decide (x ≤ y))))) H) :
    CallsA P f [.func g [] [.ptr k 0 0 0]] H K := by
  refine ⟨hfn, fun base L w args R hv => ?_⟩
  obtain ⟨u, rfl, hu1⟩ := func_args hv
  obtain ⟨B, mv, rfl, hB, hcell, hmv⟩ := box_cell R hk hu1
  simp only [VR] at hmv
  obtain ⟨bm, hob, rfl⟩ := hmv
  obtain ⟨b, ces, h1, h2, h3, h4⟩ := R.map _ _ _ hi
  rw [hob] at h1
  cases h1
  obtain ⟨k1, k2⟩ := h4.keys ho.keys
  have hkey : ∀ x ∈ ces.toList, ∃ z ∈ ks, x.key = encZ z := fun x hx => by
    have : x.key ∈ ces.toList.map (·.key) := List.mem_map.2 ⟨x, hx, rfl⟩
    rw [k1] at this
    obtain ⟨z, hz, hzz⟩ := List.mem_map.1 this
    exact ⟨z, hz, hzz.symm⟩
  have hko : ∀ z ∈ ks, keyOf P Kt (encZ z) = some (.int .i64 z) := fun z hz => by
    simp [keyOf, hu, mapKey, encZ, ho.wf z hz]
  have hlen : ces.size = ks.length := by have := congrArg List.length k1; simpa using this
  let Rl : Value → Option (DataW Unit × List MemPlace) := fun _ => some (.nil, [])
  have hrd : ∀ x ∈ ces.toList, ∃ z ∈ ks, x.key = encZ z ∧ WideElems.rd P Kt Rl x = some (.int .i64 z, .nil) := fun x hx => by
    obtain ⟨z, hz, he⟩ := hkey x hx
    refine ⟨z, hz, he, ?_⟩
    simp only [WideElems.rd, he, hko z hz, Option.bind_some, Rl, Option.map_some]
  have hown : w.ownsMap P Kt Rl bm ces.size (.map ((ces.toList.map (WideElems.rg P Kt Rl)).foldr DataW.insert [])) := by
    refine ⟨ces, cl, h3, ⟨by rw [hlen]; have := ho.size; unfold maxLen; omega, ⟨fun x hx => ?_, by rw [k2]; exact ho.born.2, ?_⟩, fun x hx => ?_⟩, Nat.le_refl _, rfl⟩
    · have : x.born ∈ ces.toList.map (·.born) := List.mem_map.2 ⟨x, hx, rfl⟩
      rw [k2] at this
      obtain ⟨e, he, hee⟩ := List.mem_map.1 this
      rw [← hee]
      exact ho.born.1 e he
    · rw [k1]
      exact List.pairwise_map.2 (ho.nodup.imp fun hne he => hne (encZ_inj he))
    · obtain ⟨z, _, _, hz⟩ := hrd x hx
      exact ⟨_, hz⟩
  have hperm : (intKeys (.map ((ces.toList.map (WideElems.rg P Kt Rl)).foldr DataW.insert []))).Perm ks := by
    have hp := sorted_perm (ces.toList.map (WideElems.rg P Kt Rl))
    have e1 : (ces.toList.map (WideElems.rg P Kt Rl)).map (fun p => intOf p.1) = ks := by
      rw [List.map_map]
      have : ces.toList.map ((fun p => intOf p.1) ∘ WideElems.rg P Kt Rl) = ces.toList.map (fun x => match x.key with | .int _ z => z | _ => 0) := by
        apply List.map_congr_left
        intro x hx
        obtain ⟨z, _, he, hz⟩ := hrd x hx
        simp only [Function.comp, WideElems.rg, hz, Option.getD_some, he]
        rfl
      rw [this]
      have e2 : ces.toList.map (fun x => match x.key with | .int _ z => z | _ => 0) = (ces.toList.map (·.key)).map (fun v => match v with | .int _ z => z | _ => 0) := by rw [List.map_map]; rfl
      rw [e2, k1, List.map_map]
      have : ks.map ((fun v : Value => match v with | .int _ z => z | _ => 0) ∘ encZ) = ks.map id := List.map_congr_left fun z _ => rfl
      rw [this, List.map_id]
    have := hp.map (fun p => intOf p.1)
    rw [e1] at this
    exact this
  have hsize : Maps.size (.map ((ces.toList.map (WideElems.rg P Kt Rl)).foldr DataW.insert []) : DataW Unit) = ks.length := by
    have := hperm.length_eq
    simpa [intKeys, Maps.size] using this
  have hsz := ho.size
  refine (hC.1 B bm _ _ Rl w hB hcell hown (by rw [hsize]; unfold maxLen; omega) (by rw [hsize]; omega)).mono ?_
  rintro e w' ⟨v, ss, rfl, hss, hrow, hnil, hb⟩
  have hp := hss.trans hperm
  have hse := sort_perm hp
  rw [hse] at hrow
  have hl2 : ss.length = (ks.mergeSort fun x y => decide (x ≤ y)).length := by rw [List.length_mergeSort]; exact hp.length_eq
  rw [hl2] at hrow
  have hem : ss = [] ↔ (ks.mergeSort fun x y => decide (x ≤ y)) = [] := by
    rw [← List.length_eq_zero_iff, ← List.length_eq_zero_iff, hl2]
  refine ints_back R hb hrow (hnil.trans hem) ?_
  have hie : (ks.mergeSort fun x y => decide (x ≤ y)).isEmpty = ks.isEmpty := by
    rw [Bool.eq_iff_iff, List.isEmpty_iff, List.isEmpty_iff, ← List.length_eq_zero_iff, ← List.length_eq_zero_iff, List.length_mergeSort]
  rw [hie]
  exact h
theorem sorted_keys_nil {f g : FuncId} {Kt T : TypeId} (hfn : ∃ fn, P.funcs[f]? = some fn ∧ fn.name ≠ "runtime.NumGoroutine" ∧ fn.body.isSome = true) (hC : KeysSorted P f g Kt T)
    {k fro : Nat} (hk : H k = some (.mem 0 fro 1 [[.nilmap]])) {K : AV → AHeap → Prop} (h : K (.d (.sl true [])) H) : CallsA P f [.func g [] [.ptr k 0 0 0]] H K := by
  refine ⟨hfn, fun base L w args R hv => ?_⟩
  obtain ⟨u, rfl, hu1⟩ := func_args hv
  obtain ⟨B, mv, rfl, hB, hcell, hmv⟩ := box_cell R hk hu1
  simp only [VR] at hmv
  subst hmv
  refine (hC.2 B w hB hcell).mono ?_
  rintro e w' ⟨v, ss, rfl, rfl, hrow, hnil, hb⟩
  simp only [List.mergeSort_nil] at hrow
  exact ints_back (l := []) R hb hrow hnil h
end Go.AM

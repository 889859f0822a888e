/- Operations that change the heap, one by one. -/
import Derived.Test.YtmciomkibklokaaA9
import Derived.Lib.SlBytesConst
import Derived.Great.BuildSlice
import Derived.Great.FillDense
set_option autoImplicit false
set_option linter.unusedVariables false
set_option linter.unusedSimpArgs false
namespace Go.AM
open Go.RowKit Go.MapKept

variable {P : Program} {L L' : Lo} {w w' : World} {base : Nat} {H H' : AHeap}

/-- What an operation with a new name tells. -/
def StepsTo (base : Nat) (P : Program) (s : Sem Value) (nm : Nat) (L : Lo) (H : AHeap) (w : World) (av : AV) (us : Ups) : Prop :=
  ∃ r w' L', s.run P w = .ok r w' ∧ VR L' av r ∧ Nx base (· = nm) L H w L' (H.sets us) w'

theorem zeroCells_flat (z : Array Value) (n : Nat) (hz : 0 < z.size) : (Builtin.zeroCells z n).toList = (List.replicate n z.toList).flatten := by
  have hF : ∀ c ∈ List.replicate n z.toList, c.length = z.size := by
    intro c hc; rw [List.mem_replicate] at hc; rw [hc.2, Array.length_toList]
  apply List.ext_getElem?
  intro i
  have hlen : (List.replicate n z.toList).flatten.length = n * z.size := by rw [flat_len hF, List.length_replicate]
  by_cases hi : i < n * z.size
  · have hd : i / z.size < n := (Nat.div_lt_iff_lt_mul hz).2 hi
    have hm : i % z.size < z.size := Nat.mod_lt _ hz
    have hR := flat_get hF (e := i / z.size) (j := i % z.size) (es := z.toList) (x := z[i % z.size]) (by rw [List.getElem?_replicate, if_pos hd]) (by simp [hm])
    rw [show i / z.size * z.size + i % z.size = i by rw [Nat.mul_comm]; exact Nat.div_add_mod i z.size] at hR
    rw [hR]
    simp only [Builtin.zeroCells, Array.toList_map, List.getElem?_map, Array.toList_range]
    rw [List.getElem?_range hi]
    simp only [Option.map_some, Option.some.injEq]
    exact getElem!_pos z (i % z.size) hm
  · rw [List.getElem?_eq_none (by simp only [Array.length_toList, size_zeroCells]; omega), List.getElem?_eq_none (by omega)]
theorem CRL.flat : ∀ {F : List (List AV)} {G : List (List Value)}, F.length = G.length → (∀ (i : Nat) (c : List AV) (d : List Value), F[i]? = some c → G[i]? = some d → CRL L c d) → CRL L F.flatten G.flatten
  | [], [], _, _ => by simp [CRL]
  | [], _ :: _, h, _ => by simp at h
  | _ :: _, [], h, _ => by simp at h
  | c :: F, d :: G, h, k => by
    rw [List.flatten_cons, List.flatten_cons]
    exact (k 0 c d rfl rfl).app (CRL.flat (by simpa using h) fun i c d h1 h2 => k (i + 1) c d (by simpa using h1) (by simpa using h2))
theorem zeros_CRL {zs : List AV} {z : Array Value} (h : CRL L zs z.toList) (hz : 0 < z.size) (n : Nat) : CRL L (repl n zs).flatten (Builtin.zeroCells z n).toList := by
  rw [zeroCells_flat z n hz]
  refine CRL.flat (by simp [repl]) fun i c d h1 h2 => ?_
  unfold repl at h1
  rw [List.getElem?_replicate] at h1 h2
  split at h1
  · rename_i hi
    rw [if_pos hi] at h2
    cases h1; cases h2; exact h
  · cases h1
theorem apA_sound {t tx ty e e' : TypeId} {ei : TI} (R : Rel base L H w) (ht : P.underlying t = some (.slice e)) (he : tiOf P e = some ei) (hk : P.underlying tx = some (.slice e')) {nm : Nat} (hf : Fresh L nm) (hHn : H nm = none)
    {s x av : AV} {us : Ups} {u ux : Value} (hs : VR L s u) (hx : VR L x ux) (h : apA ei.size ei.bytes s x H nm = some (av, us)) :
    StepsTo base P (Builtin.append_ #[t, tx] ty #[u, ux]) nm L H w av us := by
  obtain ⟨info, d, z, k⟩ := tiOf_some he
  have e1 : ei.size = info.size := by rw [k.eq]
  have e2 : ei.bytes = info.bytes := by rw [k.eq]
  unfold apA at h
  split at h
  · rename_i ys hys
    split at h
    · rename_i hc
      obtain ⟨h0, hb, hall⟩ := hc
      rw [e1] at hall h h0
      rw [e2] at h hb
      obtain ⟨A, cap, rfl, _, hE⟩ := elemsA_sound R hx hys
      have hsz := flat_mem hall
      have hcr : ∃ vs, CRL L ys.flatten vs ∧ (ys ≠ [] → ∀ a, A = some a → ∀ j v, vs[j]? = some v → w.cell? ⟨a.block, a.off + j, none⟩ = some v) := by
        rcases hE with rfl | ⟨a, sz, rfl, hs', hE'⟩
        · exact ⟨[], by simp [CRL], fun h => absurd rfl h⟩
        · obtain ⟨vs, g1, g2⟩ := (Cl.flat hE').vals
          exact ⟨vs, g1, fun _ a' ha' => by cases ha'; exact g2⟩
      obtain ⟨vs, g1, g2⟩ := hcr
      have hy : Yld P t tx ty e info z (.slice A ys.length cap) ys.length vs w := Yld.slice ht k.hinfo k.hzero hb hk rfl hE hsz ⟨vs, g1, rfl, g2⟩
      exact app_sound R hy k.hzs h0 rfl hsz g1 hf hHn hs h
    · cases h
  · cases h
theorem apzA_sound {t tx ty e : TypeId} {kn : IntKind} {ei : TI} (R : Rel base L H w) (ht : P.underlying t = some (.slice e)) (he : tiOf P e = some ei) (hk : P.underlying tx = some (.int kn)) {nm : Nat} (hf : Fresh L nm) (hHn : H nm = none)
    {s x av : AV} {us : Ups} {u ux : Value} (hs : VR L s u) (hx : VR L x ux) (h : apzA ei s x H nm = some (av, us)) :
    StepsTo base P (Builtin.append_ #[t, tx] ty #[u, ux]) nm L H w av us := by
  obtain ⟨info, d, z, k⟩ := tiOf_some he
  have e1 : ei.size = info.size := by rw [k.eq]
  have e2 : ei.bytes = info.bytes := by rw [k.eq]
  unfold apzA at h
  split at h
  · rename_i kq n
    split at h
    · rename_i hc
      obtain ⟨h0, h1, h2, h3⟩ := hc
      rw [e1] at h h1
      rw [e2] at h h2 h3
      simp only [VR, DR] at hx
      subst hx
      obtain ⟨m, rfl⟩ : ∃ m : Nat, n = (m : Int) := ⟨n.toNat, by omega⟩
      simp only [Int.toNat_natCast] at h h3
      have hy : Yld P t tx ty e info z (.int kq m) m (Builtin.zeroCells z.cells m).toList w := Yld.zeros ht k.hinfo k.hzero h2 h1 hk k.hzs k.hone h3
      have hzl : ei.zero.length = info.size := by rw [k.zeros (L := L) |>.length, Array.length_toList, k.hzs]
      exact app_sound R hy k.hzs h1 (by simp [repl]) (fun y hy => by unfold repl at hy; rw [List.mem_replicate] at hy; rw [hy.2, hzl]) (zeros_CRL k.zeros (by rw [k.hzs]; exact h1) m) hf hHn hs h
    · cases h
  · cases h
theorem box_sound {e : TypeId} (R : Rel base L H w) {nm : Nat} (hf : Fresh L nm) (hHn : H nm = none) {x av : AV} {us : Ups} {u : Value} (hx : VR L x u) (h : boxA x nm = some (av, us)) :
    StepsTo base P (Instr.box e u) nm L H w av us := by
  unfold boxA at h
  split at h
  · rename_i hst
    simp only [Option.some.injEq, Prod.mk.injEq] at h
    obtain ⟨rfl, rfl⟩ := h
    have hc := VR.cells hx hst
    refine ⟨.pointer (some ⟨w.heap.size, 0, none⟩), w.alloc (.cells u.cells e (0, 0)), _, rfl, ?_, Nx.newMem (c := 1) R (cells := u.cells) (t := e) ⟨rfl, rfl, rfl, rfl⟩ hf hHn (by simp) ?_ ?_⟩
    · simp only [VR]
      exact ⟨⟨w.heap.size, 0, none⟩, x.cells.length, 1, 1, by simp [Lo.addMem], by simp⟩
    · rw [hc.length, Array.length_toList]; omega
    · intro i es hi
      cases i with
      | zero =>
        simp at hi
        subst hi
        refine ⟨rfl, fun j y hy => ?_⟩
        obtain ⟨v, h1, h2, h3⟩ := hc.get hy
        exact ⟨v, by simpa using h1, h2, h3⟩
      | succ i => simp at hi
  · cases h
theorem alloc_sound {t : TypeId} {i : TI} (ht : tiOf P t = some i) (R : Rel base L H w) {nm : Nat} (hf : Fresh L nm) (hHn : H nm = none) :
    StepsTo base P (Instr.alloc t true (.tuple #[])) nm L H w (.ptr nm 0 0 0) [(nm, .mem 0 0 i.size [i.zero])] := by
  obtain ⟨info, d, z, k⟩ := tiOf_some ht
  have e1 : i.size = info.size := by rw [k.eq]
  have hz := k.zeros (L := L)
  refine ⟨.pointer (some ⟨w.heap.size, 0, none⟩), w.alloc (.cells z.cells t (0, 0)), _, ?_, ?_, Nx.newMem (c := 1) R (cells := z.cells) (t := t) ⟨rfl, rfl, rfl, rfl⟩ hf hHn (by simp) ?_ ?_⟩
  · simp [Instr.alloc, k.run_zero, newVar, newRow]
  · simp only [VR]
    exact ⟨⟨w.heap.size, 0, none⟩, i.size, 1, 1, by simp [Lo.addMem], by simp⟩
  · rw [e1, k.hzs]; omega
  · intro q es hi
    cases q with
    | zero =>
      simp at hi
      subst hi
      refine ⟨by rw [hz.length, Array.length_toList, k.hzs, e1], fun j y hy => ?_⟩
      obtain ⟨v, h1, h2, h3⟩ := hz.get hy
      exact ⟨v, by simpa using h1, h2, h3⟩
    | succ q => simp at hi
theorem mkSl_sound {t e : TypeId} {ei : TI} (ht : P.underlying t = some (.slice e)) (he : tiOf P e = some ei) (R : Rel base L H w) {nm : Nat} (hf : Fresh L nm) (hHn : H nm = none) {l c av : AV} {us : Ups} {ul uc : Value} (hl : VR L l ul) (hc : VR L c uc)
    (h : mkSlA ei l c nm = some (av, us)) : StepsTo base P (Instr.makeSlice t ul uc) nm L H w av us := by
  obtain ⟨info, d, z, k⟩ := tiOf_some he
  have e1 : ei.size = info.size := by rw [k.eq]
  have e2 : ei.bytes = info.bytes := by rw [k.eq]
  unfold mkSlA at h
  split at h
  · rename_i k1 l k2 c
    split at h
    · rename_i hcond
      obtain ⟨h0, h1, h2, h3, h4⟩ := hcond
      simp only [Option.some.injEq, Prod.mk.injEq] at h
      obtain ⟨rfl, rfl⟩ := h
      simp only [VR, DR] at hl hc
      subst hl hc
      obtain ⟨m, rfl⟩ : ∃ m : Nat, l = (m : Int) := ⟨l.toNat, by omega⟩
      obtain ⟨q, rfl⟩ : ∃ q : Nat, c = (q : Int) := ⟨c.toNat, by omega⟩
      simp only [Int.toNat_natCast] at h2 ⊢
      rw [e1] at h3 ⊢
      rw [e2] at h2 h4
      have hq := small_of_bytes h4 h2
      have hmq : m ≤ q := by omega
      have hw1 := wrap_small hq
      have hw2 := wrap_small (k := m) (by omega)
      have hb : ¬ (281474976710656 < (info.bytes : Int) * (q : Int)) := by
        rw [← Int.natCast_mul, Nat.mul_comm]
        simp only [mostBytes] at h2
        omega
      have hzc := zeros_CRL (k.zeros (L := L)) (by rw [k.hzs]; exact h3) m
      have hrun : (Instr.makeSlice t (.int k1 m) (.int k2 q)).run P w = .ok (.slice (some ⟨w.heap.size, 0, none⟩) m q) (w.alloc (.cells (Builtin.zeroCells z.cells q) e (0, 0))) := by
        have hneg : ¬ ((q : Int) < 0) := by omega
        have hneg2 : ¬ ((m : Int) < 0) := by omega
        have hgt : ¬ ((q : Int) < (m : Int)) := by omega
        have hzz : (Builtin.zeroCells z.cells q) = (Array.range (q * info.size)).map (z.cells[· % z.cells.size]!) := by unfold Builtin.zeroCells; rw [k.hzs]
        by_cases h0q : q = 0
        · subst h0q
          have hm0 : m = 0 := by omega
          subst hm0
          have : IntKind.i64.wrap 0 = 0 := rfl
          simp [Instr.makeSlice, run_underlying ht, asInt, asIntOf, typeInfo, k.hinfo, this, sizeOf, newRow, Builtin.zeroCells, show Array.range 0 = #[] from rfl]
        · have hns : ¬ (q * info.size = 0) := Nat.mul_ne_zero h0q (by omega)
          simp [Instr.makeSlice, run_underlying ht, asInt, asIntOf, typeInfo, k.hinfo, hw1, hw2, hneg, hneg2, hgt, hb, sizeOf, zeroValue, k.hzero, hns, newRow, hzz]
      have hF : ∀ cc ∈ repl m ei.zero, cc.length = info.size := by
        intro cc hcc
        unfold repl at hcc
        rw [List.mem_replicate] at hcc
        rw [hcc.2, (k.zeros (L := L)).length, Array.length_toList, k.hzs]
      have hsplit : (Builtin.zeroCells z.cells q).toList = (Builtin.zeroCells z.cells m).toList ++ (Builtin.zeroCells z.cells (q - m)).toList := by
        have hp : 0 < z.cells.size := by rw [k.hzs]; exact h3
        rw [zeroCells_flat _ _ hp, zeroCells_flat _ _ hp, zeroCells_flat _ _ hp, ← List.flatten_append, List.replicate_append_replicate]
        congr 2
        omega
      obtain ⟨g1, g2⟩ := newRow_ok (c := q) R (w' := w.alloc (.cells (Builtin.zeroCells z.cells q) e (0, 0))) ⟨rfl, rfl, rfl, rfl⟩ hf hHn hsplit hF hzc (by simp [repl]) hmq (by rw [size_zeroCells, k.hzs]; exact Nat.le_refl _)
      exact ⟨_, _, _, hrun, g1, g2⟩
    · cases h
  · cases h

/-! ### building -/
/-- Parts, related one by one. -/
def PR (L : Lo) : List (Nat × AV) → List (Nat × Value) → Prop
  | [], [] => True
  | p :: ps, q :: qs => p.1 = q.1 ∧ VR L p.2 q.2 ∧ PR L ps qs
  | _, _ => False
theorem fold_setCells (v : Value) (off : Nat) (cs : Array Value) (h : off + v.cells.size ≤ cs.size) :
    (v.cells.zipIdx.foldl (fun cs (x : Value × Nat) => cs.setIfInBounds (off + x.2) x.1) cs).toList = cs.toList.take off ++ v.cells.toList ++ cs.toList.drop (off + v.cells.toList.length) := by
  obtain ⟨h1, h2⟩ := Great.foldl_set off v.cells.toList 0 cs
  rw [← Array.foldl_toList, Array.toList_zipIdx]
  apply List.ext_getElem?
  intro k
  rw [seg_get _ _ _ _ (by simpa using h), Array.getElem?_toList, h2 k]
  simp only [Nat.add_zero, Array.length_toList]
  by_cases hk : off ≤ k ∧ k < off + v.cells.size
  · rw [if_pos ⟨hk.1, hk.2, by omega⟩, if_neg (by omega), if_pos hk.2]
  · rw [if_neg (by omega)]
    by_cases hk2 : k < off
    · rw [if_pos hk2, Array.getElem?_toList]
    · rw [if_neg hk2, if_neg (by omega), Array.getElem?_toList]
theorem setCells_CRL {xs ys : List AV} {us vs : List Value} {off : Nat} (h : CRL L xs us) (k : CRL L ys vs) : CRL L (setCells xs off ys) (us.take off ++ vs ++ us.drop (off + vs.length)) := by
  unfold setCells
  rw [k.length]
  exact ((h.take off).app k).app (h.drop _)
theorem fill_sound {place : Nat → Option (Nat × Nat)} : ∀ {ps : List (Nat × AV)} {qs : List (Nat × Value)} {cells : List AV} {cs : Array Value} {r : List AV}, PR L ps qs → CRL L cells cs.toList → fillA place cells ps = some r →
    ∃ r', Instr.fill place cs qs = some r' ∧ CRL L r r'.toList ∧ r'.size = cs.size
  | [], [], cells, cs, r, _, hc, h => by simp [fillA] at h; subst h; exact ⟨cs, rfl, hc, rfl⟩
  | [], _ :: _, _, _, _, h, _, _ => h.elim
  | _ :: _, [], _, _, _, h, _, _ => h.elim
  | (i, x) :: ps, (j, v) :: qs, cells, cs, r, hp, hc, h => by
    obtain ⟨h1, h2, h3⟩ := hp
    simp only at h1 h2
    subst h1
    simp only [fillA] at h
    split at h
    · cases h
    · rename_i off size hpl
      split at h
      · rename_i hcond
        obtain ⟨hst, hlen, hoff⟩ := hcond
        have hcl := VR.cells h2 hst
        have hvs : v.cells.size = size := by rw [← Array.length_toList, ← hcl.length, hlen]
        have hfit : off + v.cells.size ≤ cs.size := by
          have h9 : cells.length = cs.size := by rw [hc.length, Array.length_toList]
          rw [hvs, ← h9]
          exact hoff
        have hset := setCells_CRL (off := off) hc hcl
        rw [← fold_setCells v off cs hfit] at hset
        obtain ⟨r', g1, g2, g3⟩ := fill_sound h3 hset h
        refine ⟨r', ?_, g2, ?_⟩
        · simp only [Instr.fill, hpl]
          rw [if_neg (by simp; omega)]
          exact g1
        · rw [g3, ← Array.length_toList, fold_setCells v off cs hfit]
          simp; omega
      · cases h
theorem PR.zip : ∀ {ix : List Nat} {xs : List AV} {vs : List Value}, VRL L xs vs → PR L (List.zip ix xs) (List.zip ix vs)
  | [], _, _, _ => by simp [PR]
  | _ :: _, [], [], _ => by simp [PR]
  | _ :: _, [], _ :: _, h => by simp [VRL] at h
  | _ :: _, _ :: _, [], h => by simp [VRL] at h
  | i :: ix, x :: xs, v :: vs, h => by
    simp only [VRL] at h
    simp only [List.zip_cons_cons, PR]
    exact ⟨trivial, h.1, PR.zip h.2⟩
theorem zip_map {α β : Type} (l : List (Nat × α)) (f : α → β) : List.zip (l.map (·.1)) (l.map fun p => f p.2) = l.map fun p => (p.1, f p.2) := by
  induction l with
  | nil => rfl
  | cons p l ih => simp [ih]
theorem build_sound {t : TypeId} {i : TI} (ht : tiOf P t = some i) {ps : List (Nat × AV)} {qs : Array (Nat × Value)} (hp : PR L ps qs.toList) {av : AV} (h : buildA P i ps = some av) : ∃ r, (Instr.build t qs).run P w = .ok r w ∧ VR L av r := by
  obtain ⟨info, d, z, k⟩ := tiOf_some ht
  have hz := k.zeros (L := L)
  unfold buildA at h
  split at h
  · rename_i fs hk
    rw [k.k] at hk
    obtain ⟨a, rfl, rfl⟩ := tkOf_struct hk
    simp only [Option.map_eq_some_iff] at h
    obtain ⟨cells, h1, rfl⟩ := h
    have hfs := k.hfs
    simp only [fieldsOk] at hfs
    have hpl : ∃ places : List (Nat × Nat), a.toList.mapM (fun f => (P.info? f.type).map fun i => (f.offset, i.size)) = some places ∧ ∀ j : Nat, places[j]? = ((a.toList.map fun (f : Field) => (f.offset, f.type))[j]?).map fun (f : Nat × TypeId) => (f.1, P.cellsOf f.2) := by
      generalize a.toList = l at hfs
      clear h1 hk k hp
      induction l with
      | nil => exact ⟨[], rfl, fun j => by simp⟩
      | cons f l ih =>
        simp only [List.all_cons, Bool.and_eq_true] at hfs
        obtain ⟨pl, g1, g2⟩ := ih hfs.2
        obtain ⟨fi, hfi⟩ := Option.isSome_iff_exists.1 hfs.1
        refine ⟨(f.offset, fi.size) :: pl, by simp [List.mapM_cons, hfi, g1], fun j => ?_⟩
        cases j with
        | zero => simp [Program.cellsOf, hfi]
        | succ j => simpa using g2 j
    obtain ⟨places, hp1, hp2⟩ := hpl
    obtain ⟨r', g1, g2, _⟩ := fill_sound hp hz h1
    refine ⟨.agg r', run_build w t qs r' ?_, by simp only [VR]; exact ⟨r', rfl, g2⟩⟩
    unfold Program.built
    rw [k.hinfo, k.und]
    simp only [k.hzero, hp1]
    have : (fun (j : Nat) => places.toArray[j]?) = fun (i : Nat) => ((a.toList.map fun (f : Field) => (f.offset, f.type))[i]?).map fun (f : Nat × TypeId) => (f.1, P.cellsOf f.2) := by
      funext j; rw [List.getElem?_toArray, hp2 j]
    rw [this]
    exact g1
  · rename_i n e hk
    rw [k.k] at hk
    obtain rfl := tkOf_array hk
    simp only [Option.map_eq_some_iff] at h
    obtain ⟨cells, h1, rfl⟩ := h
    have hfs := k.hfs
    simp only [fieldsOk] at hfs
    obtain ⟨ie, hie⟩ := Option.isSome_iff_exists.1 hfs
    obtain ⟨r', g1, g2, _⟩ := fill_sound hp hz h1
    refine ⟨.agg r', run_build w t qs r' ?_, by simp only [VR]; exact ⟨r', rfl, g2⟩⟩
    unfold Program.built
    rw [k.hinfo, k.und]
    simp only [k.hzero, hie]
    have : P.cellsOf e = ie.size := by simp [Program.cellsOf, hie]
    rw [this] at g1
    exact g1
  · cases h
theorem chunk_len (sz : Nat) : ∀ (n : Nat) (l : List AV), (chunk sz n l).length = n
  | 0, _ => rfl
  | n + 1, l => by simp [chunk, chunk_len sz n]
theorem chunk_flat {sz : Nat} : ∀ {n : Nat} {l : List AV}, l.length = n * sz → (chunk sz n l).flatten = l ∧ ∀ c ∈ chunk sz n l, c.length = sz
  | 0, l, h => by
    have : l = [] := by apply List.eq_nil_of_length_eq_zero; simpa using h
    subst this
    exact ⟨rfl, fun c hc => by simp [chunk] at hc⟩
  | n + 1, l, h => by
    rw [Nat.add_mul, Nat.one_mul] at h
    obtain ⟨h1, h2⟩ := chunk_flat (sz := sz) (n := n) (l := l.drop sz) (by rw [List.length_drop]; omega)
    refine ⟨by simp only [chunk, List.flatten_cons, h1, List.take_append_drop], fun c hc => ?_⟩
    simp only [chunk, List.mem_cons] at hc
    rcases hc with rfl | hc
    · rw [List.length_take]; omega
    · exact h2 c hc
theorem bs_sound {t e : TypeId} {ei : TI} (ht : P.underlying t = some (.slice e)) (he : tiOf P e = some ei) (R : Rel base L H w) {nm : Nat} (hf : Fresh L nm) (hHn : H nm = none) {len : Nat} {ix : List Nat} {vs : List AV} {us' : List Value} {qs : Array (Nat × Value)}
    (hv : VRL L vs us') (hq : qs.toList = List.zip ix us') {av : AV} {us : Ups} (h : bsA ei len ix vs H nm = some (av, us)) : StepsTo base P (Instr.buildSlice t len qs) nm L H w av us := by
  obtain ⟨info, d, z, k⟩ := tiOf_some he
  have e1 : ei.size = info.size := by rw [k.eq]
  unfold bsA at h
  split at h
  · rename_i vs' us1 hfz
    obtain ⟨L1, hv1, n1⟩ := frzAL_sound R hv hfz
    split at h
    · rename_i cs hcs
      unfold buildSlA at hcs
      split at hcs
      · rename_i hcond
        obtain ⟨hsm, hpos⟩ := hcond
        simp only [Option.map_eq_some_iff] at hcs
        obtain ⟨cells, hfill, rfl⟩ := hcs
        have hz1 := zeros_CRL (k.zeros (L := L1)) (by rw [k.hzs, ← e1]; exact hpos) len
        obtain ⟨r', g1, g2, g3⟩ := fill_sound (PR.zip (ix := ix) hv1) hz1 hfill
        have hr' : r'.size = len * ei.size := by rw [g3, size_zeroCells, k.hzs, e1]
        have hcl : cells.length = len * ei.size := by rw [g2.length, Array.length_toList, hr']
        obtain ⟨c1, c2⟩ := chunk_flat hcl
        have hrun : (Instr.buildSlice t len qs).run P w = .ok (.slice (some ⟨w.heap.size, 0, none⟩) len len) (w.alloc (.cells r' e (0, 0))) := by
          rw [e1] at g1 hsm
          by_cases h0 : len * info.size = 0
          · have : Instr.fill (fun i => some (i * info.size, info.size)) (#[] : Array Value) qs.toList = some r' := by
              rw [hq]
              have hz0 : Builtin.zeroCells z.cells len = #[] := by apply Array.eq_empty_of_size_eq_zero; rw [size_zeroCells, k.hzs, h0]
              rw [hz0] at g1
              exact g1
            simp [Instr.buildSlice, run_underlying ht, sizeOf, typeInfo, k.hinfo, h0, this, newRow, show Array.range 0 = #[] from rfl]
          · refine run_buildSlice w t e len qs r' info z ht k.hinfo k.hzero (by omega) h0 ?_
            rw [hq]
            have hz0 : Builtin.zeroCells z.cells len = (Array.range (len * info.size)).map (z.cells[· % z.cells.size]!) := by unfold Builtin.zeroCells; rw [k.hzs]
            rw [hz0] at g1
            exact g1
        have hp : Pushed w (w.alloc (.cells r' e (0, 0))) (.cells r' e (0, 0)) := ⟨rfl, rfl, rfl, rfl⟩
        have hrow := row_cells (L := L1) (o := 0) (cells := r') (F := chunk ei.size len cells) c2 (by rw [c1]; exact g2) (fun k v hv => by rw [Nat.zero_add, ← Array.getElem?_toList]; exact hv)
        split at h
        · rename_i ds hds
          simp only [Option.some.injEq, Prod.mk.injEq] at h
          obtain ⟨rfl, rfl⟩ := h
          have hdl : ds.length = len := by rw [← (toDatss_get hds).1, chunk_len]
          have n2 := Nx.newImm (p := fun k => r'[k]?) n1.rel hp (fun k v hv => by simp only [World.cell?, hp.get]; exact hv)
          refine ⟨_, _, _, hrun, ?_, (n1.trans n2 (fun _ h => h)).imp fun _ h => h.elim⟩
          simp only [VR]
          refine ⟨⟨w.heap.size, 0, none⟩, by rw [hdl], .inr ⟨rfl, ei.size, DRE_of fun q c hc => ?_⟩⟩
          have hq' : q < (chunk ei.size len cells).length := by rw [(toDatss_get hds).1]; exact (List.getElem?_eq_some_iff.1 hc).1
          obtain ⟨y, y1, y2⟩ := (toDatss_get hds).2 q _ (List.getElem?_eq_getElem hq')
          rw [hc] at y1
          cases y1
          obtain ⟨y3, y4⟩ := hrow q _ (List.getElem?_eq_getElem hq')
          obtain ⟨y5, y6⟩ := toDats_get y2
          refine ⟨by rw [← y5, y3], DRC_of fun j y hy => ?_⟩
          have hj : j < ((chunk ei.size len cells)[q]).length := by rw [y5]; exact (List.getElem?_eq_some_iff.1 hy).1
          obtain ⟨zz, z1, z2⟩ := y6 j _ (List.getElem?_eq_getElem hj)
          rw [hy] at z1
          cases z1
          obtain ⟨vv, v1, v2, v3⟩ := y4 j _ (List.getElem?_eq_getElem hj)
          refine ⟨vv, ?_, DR.mono n2.le _ _ (toDat_sound v2 z2)⟩
          have hnone := free_new n1.rel (0 + q * ei.size + j)
          simp only [Lo.addImm]
          rw [hnone]
          simp only [if_true]
          exact v1
        · simp only [Option.some.injEq, Prod.mk.injEq] at h
          obtain ⟨rfl, rfl⟩ := h
          have hf1 : Fresh L1 nm := by
            refine ⟨fun v => ?_, ?_, Nat.lt_of_lt_of_le hf.lt n1.le.cnt⟩
            · cases hx : L1.mem nm v with
              | none => rfl
              | some x =>
                rcases n1.nm _ _ _ hx with h1 | h1 | h1
                · rw [hf.mem v] at h1; cases h1
                · rw [hHn] at h1; cases h1
                · exact h1.elim
            · cases hx : L1.obj nm with
              | none => rfl
              | some x =>
                rcases n1.no _ _ hx with h1 | h1
                · rw [hf.obj] at h1; cases h1
                · exact h1.elim
          have hn1 : (H.sets us1) nm = none := by
            cases hx : (H.sets us1) nm with
            | none => rfl
            | some o =>
              rcases n1.dom nm (by rw [hx]; rfl) with h1 | h1
              · rw [hHn] at h1; cases h1
              · exact h1.elim
          have hsz' : len * ei.size ≤ r'.size := by rw [hr']; exact Nat.le_refl _
          obtain ⟨q1, q2⟩ := newRow_ok (rest := []) (vs := r'.toList) (c := len) n1.rel hp hf1 hn1 (by simp) c2 (by rw [c1]; exact g2) (chunk_len _ _ _) (Nat.le_refl _) hsz'
          refine ⟨_, _, _, hrun, q1, ?_⟩
          rw [AHeap.sets_append]
          exact (n1.imp (fr' := (· = nm)) (fun _ h => h.elim)).trans q2 (fun _ h => h)
      · cases hcs
    · cases h
  · cases h
/-- A row of constant bytes and, behind it, its conversion to its own type. -/
theorem bsc_sound {t e : TypeId} {ei : TI} (ht : P.underlying t = some (.slice e)) (hu : P.underlying e = some (.int .u8)) (he : tiOf P e = some ei) (R : Rel base L H w) {nm : Nat} {len : Nat} {ix : List Nat} {vs : List AV} {us' : List Value} {qs : Array (Nat × Value)}
    (hv : VRL L vs us') (hq : qs.toList = List.zip ix us') {ds : List (List Dat)} (h : bsA ei len ix vs H nm = some (.lit ds, [])) :
    ∃ r W1 W2 L', (Instr.buildSlice t len qs).run P w = .ok r W1 ∧ (convert t t r).run P W1 = .ok r W2 ∧ VR L' (.d (.sl false ds)) r ∧ Nx base (fun _ => False) L H w L' H W2 := by
  obtain ⟨info, d, z, k⟩ := tiOf_some he
  have e1 : ei.size = info.size := by rw [k.eq]
  unfold bsA at h
  split at h
  · rename_i vs' us1 hfz
    obtain ⟨L1, hv1, n1⟩ := frzAL_sound R hv hfz
    split at h
    · rename_i cs hcs
      unfold buildSlA at hcs
      split at hcs
      · rename_i hcond
        obtain ⟨hsm, hpos⟩ := hcond
        simp only [Option.map_eq_some_iff] at hcs
        obtain ⟨cells, hfill, rfl⟩ := hcs
        have hz1 := zeros_CRL (k.zeros (L := L1)) (by rw [k.hzs, ← e1]; exact hpos) len
        obtain ⟨r', g1, g2, g3⟩ := fill_sound (PR.zip (ix := ix) hv1) hz1 hfill
        have hr' : r'.size = len * ei.size := by rw [g3, size_zeroCells, k.hzs, e1]
        have hcl : cells.length = len * ei.size := by rw [g2.length, Array.length_toList, hr']
        obtain ⟨c1, c2⟩ := chunk_flat hcl
        have hrun : (Instr.buildSlice t len qs).run P w = .ok (.slice (some ⟨w.heap.size, 0, none⟩) len len) (w.alloc (.cells r' e (0, 0))) := by
          rw [e1] at g1 hsm
          by_cases h0 : len * info.size = 0
          · have : Instr.fill (fun i => some (i * info.size, info.size)) (#[] : Array Value) qs.toList = some r' := by
              rw [hq]
              have hz0 : Builtin.zeroCells z.cells len = #[] := by apply Array.eq_empty_of_size_eq_zero; rw [size_zeroCells, k.hzs, h0]
              rw [hz0] at g1
              exact g1
            simp [Instr.buildSlice, run_underlying ht, sizeOf, typeInfo, k.hinfo, h0, this, newRow, show Array.range 0 = #[] from rfl]
          · refine run_buildSlice w t e len qs r' info z ht k.hinfo k.hzero (by omega) h0 ?_
            rw [hq]
            have hz0 : Builtin.zeroCells z.cells len = (Array.range (len * info.size)).map (z.cells[· % z.cells.size]!) := by unfold Builtin.zeroCells; rw [k.hzs]
            rw [hz0] at g1
            exact g1
        have hp : Pushed w (w.alloc (.cells r' e (r'.size, r'.size + 1))) (.cells r' e (r'.size, r'.size + 1)) := ⟨rfl, rfl, rfl, rfl⟩
        have hrow := row_cells (L := L1) (o := 0) (cells := r') (F := chunk ei.size len cells) c2 (by rw [c1]; exact g2) (fun k v hv => by rw [Nat.zero_add, ← Array.getElem?_toList]; exact hv)
        split at h
        · rename_i ds hds
          simp only [Option.some.injEq, Prod.mk.injEq] at h
          obtain ⟨h, rfl⟩ := h
          cases h
          have hdl : ds.length = len := by rw [← (toDatss_get hds).1, chunk_len]
          have n2 := Nx.newImm (p := fun k => r'[k]?) n1.rel hp (fun k v hv => by simp only [World.cell?, hp.get]; exact hv)
          refine ⟨_, _, _, _, hrun, Go.Lib.run_convert_bytes_const w t e r' len len ht hu, ?_, (n1.trans n2 (fun _ h => h)).imp fun _ h => h.elim⟩
          simp only [VR, DR]
          refine ⟨some ⟨w.heap.size, 0, none⟩, len, by rw [hdl], by omega, (fun hh => by cases hh), fun _ => ⟨_, rfl, .inr ⟨rfl, ei.size, DRE_of fun q c hc => ?_⟩⟩⟩
          have hq' : q < (chunk ei.size len cells).length := by rw [(toDatss_get hds).1]; exact (List.getElem?_eq_some_iff.1 hc).1
          obtain ⟨y, y1, y2⟩ := (toDatss_get hds).2 q _ (List.getElem?_eq_getElem hq')
          rw [hc] at y1
          cases y1
          obtain ⟨y3, y4⟩ := hrow q _ (List.getElem?_eq_getElem hq')
          obtain ⟨y5, y6⟩ := toDats_get y2
          refine ⟨by rw [← y5, y3], DRC_of fun j y hy => ?_⟩
          have hj : j < ((chunk ei.size len cells)[q]).length := by rw [y5]; exact (List.getElem?_eq_some_iff.1 hy).1
          obtain ⟨zz, z1, z2⟩ := y6 j _ (List.getElem?_eq_getElem hj)
          rw [hy] at z1
          cases z1
          obtain ⟨vv, v1, v2, v3⟩ := y4 j _ (List.getElem?_eq_getElem hj)
          refine ⟨vv, ?_, DR.mono n2.le _ _ (toDat_sound v2 z2)⟩
          have hnone := free_new n1.rel (0 + q * ei.size + j)
          simp only [Lo.addImm]
          rw [hnone]
          simp only [if_true]
          exact v1
        · simp only [Option.some.injEq, Prod.mk.injEq] at h
          obtain ⟨h, _⟩ := h
          cases h
      · cases hcs
    · cases h
  · cases h
end Go.AM

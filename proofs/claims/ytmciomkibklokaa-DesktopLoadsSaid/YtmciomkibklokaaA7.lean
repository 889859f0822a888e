/- One object changed, or made: the relation is kept. -/
import Derived.Test.YtmciomkibklokaaA6
import Derived.Laws.CopyRow
import Derived.Laws.AppendOwn
set_option autoImplicit false
set_option linter.unusedVariables false
set_option linter.unusedSimpArgs false
namespace Go.AM
open Go.RowKit

variable {P : Program} {L L' : Lo} {w w' : World} {base : Nat} {H H' : AHeap}

def ObjOk (base : Nat) (L : Lo) (w : World) (i : Nat) : AObj → Prop
  | .mem ver fro sz l => ∃ b c, MemOk base L w i ver fro sz l b c
  | .map es cl => ∃ b ces, L.obj i = some b ∧ base ≤ b ∧ w.heap[b]? = some (.map ces cl) ∧ EntR L es ces.toList
  | .iter m since seen st => ∃ b bm, L.obj i = some b ∧ L.obj m = some bm ∧ base ≤ b ∧ w.heap[b]? = some (.mapIter (some bm) since seen.toArray st)
  | .iter0 => ∃ b, L.obj i = some b ∧ base ≤ b ∧ ∃ s x y, w.heap[b]? = some (.mapIter none s x y)
theorem Rel.ok (R : Rel base L H w) {i : Nat} {o : AObj} (h : H i = some o) : ObjOk base L w i o := by
  cases o with
  | mem ver fro sz l => exact R.mem _ _ _ _ _ h
  | map es cl => exact R.map _ _ _ h
  | iter m s se st => exact R.iter _ _ _ _ _ h
  | iter0 => exact R.iter0 _ h
theorem Rel.of_ok (imm : ∀ b o v, L.imm b o = some v → w.cell? ⟨b, o, none⟩ = some v) (ok : ∀ i o, H i = some o → ObjOk base L w i o)
    (dist : ∀ i j o o' b, H i = some o → H j = some o' → blk L i o = some b → blk L j o' = some b → i = j) (fm : ∀ i v x, L.mem i v = some x → i < L.cnt) (fo : ∀ i x, L.obj i = some x → i < L.cnt)
    (hb : base ≤ w.heap.size) : Rel base L H w :=
  ⟨imm, fun i _ _ _ _ h => ok i _ h, fun i _ _ h => ok i _ h, fun i _ _ _ _ h => ok i _ h, fun i h => ok i _ h, dist, fm, fo, hb⟩
theorem ObjOk.blk {i : Nat} {o : AObj} (h : ObjOk base L w i o) : ∃ b, blk L i o = some b ∧ base ≤ b ∧ b < w.heap.size := by
  have lt : ∀ {b : Nat} {o : Obj}, w.heap[b]? = some o → b < w.heap.size := fun h => (Array.getElem?_eq_some_iff.1 h).1
  cases o with
  | mem ver fro sz l =>
    obtain ⟨b, c, m⟩ := h
    obtain ⟨cells, t, k1, _⟩ := m.cells
    exact ⟨b.block, by simp [AM.blk, m.loc], m.base, lt k1⟩
  | map es cl => obtain ⟨b, ces, h1, h2, h3, _⟩ := h; exact ⟨b, by simp [AM.blk, h1], h2, lt h3⟩
  | iter m s se st => obtain ⟨b, bm, h1, _, h2, h3⟩ := h; exact ⟨b, by simp [AM.blk, h1], h2, lt h3⟩
  | iter0 => obtain ⟨b, h1, h2, s, x, y, h3⟩ := h; exact ⟨b, by simp [AM.blk, h1], h2, lt h3⟩
theorem blk_mono (hl : L.le L') {i : Nat} {o : AObj} {b : Nat} (h : blk L i o = some b) : blk L' i o = some b := by
  cases o with
  | mem ver fro sz l =>
    simp only [blk, Option.map_eq_some_iff] at h ⊢
    obtain ⟨x, h1, h2⟩ := h
    exact ⟨x, hl.mem _ _ _ h1, h2⟩
  | map es cl => exact hl.obj _ _ h
  | iter m s se st => exact hl.obj _ _ h
  | iter0 => exact hl.obj _ _ h
theorem EntR.mono (hl : L.le L') : ∀ {es : List MEnt} {cs : List MapEntry}, EntR L es cs → EntR L' es cs
  | [], [], _ => trivial
  | [], _ :: _, h => h.elim
  | _ :: _, [], h => h.elim
  | e :: es, c :: cs, h => ⟨DR.mono hl _ _ h.1, VR.mono hl _ _ h.2.1, h.2.2.1, h.2.2.2.1, EntR.mono hl h.2.2.2.2⟩
theorem ObjOk.keep {i : Nat} {o : AObj} (h : ObjOk base L w i o) (hl : L.le L') (hh : ∀ b, AM.blk L i o = some b → w'.heap[b]? = w.heap[b]? ∧ ∀ k, L.imm b k = none → L'.imm b k = none)
    (hm : ∀ v, L.mem i v = none → L'.mem i v = none) : ObjOk base L' w' i o := by
  cases o with
  | mem ver fro sz l =>
    obtain ⟨b, c, m⟩ := h
    obtain ⟨h1, h2⟩ := hh b.block (by simp [AM.blk, m.loc])
    obtain ⟨cells, t, k1, k2, k3⟩ := m.cells
    refine ⟨b, c, hl.mem _ _ _ m.loc, m.cap, m.spot, m.base, ⟨cells, t, by rw [h1, k1], k2, fun e es he => ?_⟩, fun o ho => h2 _ (m.free o ho), fun v hv => hm _ (m.last v hv), m.orig⟩
    obtain ⟨k4, k5⟩ := k3 e es he
    refine ⟨k4, fun j x hx => ?_⟩
    obtain ⟨v, k6, k7, k8, k9⟩ := k5 j x hx
    exact ⟨v, k6, VR.mono hl _ _ k7, k8, fun hf => hl.imm _ _ _ (k9 hf)⟩
  | map es cl =>
    obtain ⟨b, ces, h1, h2, h3, h4⟩ := h
    exact ⟨b, ces, hl.obj _ _ h1, h2, by rw [(hh b (by simp [AM.blk, h1])).1, h3], h4.mono hl⟩
  | iter m s se st =>
    obtain ⟨b, bm, h1, h2, h3, h4⟩ := h
    exact ⟨b, bm, hl.obj _ _ h1, hl.obj _ _ h2, h3, by rw [(hh b (by simp [AM.blk, h1])).1, h4]⟩
  | iter0 =>
    obtain ⟨b, h1, h2, s, x, y, h3⟩ := h
    exact ⟨b, hl.obj _ _ h1, h2, s, x, y, by rw [(hh b (by simp [AM.blk, h1])).1, h3]⟩
/-- What makes a step that changes at most the object n. -/
structure OneOk (base : Nat) (fr : Nat → Prop) (L : Lo) (H : AHeap) (w : World) (L' : Lo) (H' : AHeap) (w' : World) (n : Nat) : Prop where
  le : L.le L'
  step : Step (own L H) w w'
  imm : ∀ b o v, L'.imm b o = some v → w'.cell? ⟨b, o, none⟩ = some v
  same : ∀ i, i ≠ n → H' i = H i
  keep : ∀ i o b, i ≠ n → H i = some o → blk L i o = some b → w'.heap[b]? = w.heap[b]? ∧ ∀ k, L.imm b k = none → L'.imm b k = none
  new : ∀ o, H' n = some o → ObjOk base L' w' n o ∧ ∀ b, blk L' n o = some b → w.heap.size ≤ b ∨ ∃ o0, H n = some o0 ∧ blk L n o0 = some b
  dom : (H' n).isSome → (H n).isSome ∨ fr n
  nm : ∀ i v x, L'.mem i v = some x → L.mem i v = some x ∨ (i = n ∧ n < L'.cnt ∧ ((H n).isSome ∨ fr n))
  no : ∀ i x, L'.obj i = some x → L.obj i = some x ∨ (i = n ∧ n < L'.cnt ∧ fr n)
  im : ∀ b o v, L'.imm b o = some v → L.imm b o = some v ∨ own L H b ∨ w.heap.size ≤ b
theorem Nx.change {fr : Nat → Prop} {n : Nat} (R : Rel base L H w) (h : OneOk base fr L H w L' H' w' n) : Nx base fr L H w L' H' w' := by
  have hok : ∀ i o, H' i = some o → ObjOk base L' w' i o := by
    intro i o hi
    by_cases e : i = n
    · subst e; exact (h.new o hi).1
    · rw [h.same i e] at hi
      refine (R.ok hi).keep h.le (fun b hb => h.keep i o b e hi hb) fun v hv => ?_
      cases hx : L'.mem i v with
      | none => rfl
      | some x =>
        rcases h.nm i v x hx with h1 | h1
        · rw [hv] at h1; cases h1
        · exact absurd h1.1 e
  have blkeq : ∀ i o b, i ≠ n → H' i = some o → blk L' i o = some b → H i = some o ∧ blk L i o = some b := by
    intro i o b e hi hb
    rw [h.same i e] at hi
    obtain ⟨b', h1, _, _⟩ := (R.ok hi).blk
    have := blk_mono h.le h1
    rw [this] at hb
    cases hb
    exact ⟨hi, h1⟩
  have subb : ∀ b, own L' H' b → own L H b ∨ w.heap.size ≤ b := by
    rintro b ⟨i, o, h1, h2⟩
    by_cases e : i = n
    · subst e
      rcases (h.new o h1).2 b h2 with h3 | ⟨o0, h3, h4⟩
      · exact .inr h3
      · exact .inl ⟨i, o0, h3, h4⟩
    · obtain ⟨h3, h4⟩ := blkeq i o b e h1 h2
      exact .inl ⟨i, o, h3, h4⟩
  refine ⟨h.le, .of_ok h.imm hok ?_ ?_ ?_ (Nat.le_trans R.base h.step.size), h.step, subb, ?_, ?_, ?_, h.im⟩
  · intro i j o o' b hi hj hbi hbj
    have key : ∀ i o o' , i ≠ n → H' i = some o → H' n = some o' → blk L' i o = some b → blk L' n o' = some b → False := by
      intro i o o' e hi hn hbi hbn
      obtain ⟨h3, h4⟩ := blkeq i o b e hi hbi
      rcases (h.new o' hn).2 b hbn with h5 | ⟨o0, h5, h6⟩
      · have := R.own_lt ⟨i, o, h3, h4⟩; omega
      · exact e (R.dist _ _ _ _ _ h3 h5 h4 h6)
    by_cases e : i = n
    · by_cases e' : j = n
      · rw [e, e']
      · subst e; exact (key j o' o e' hj hi hbj hbi).elim
    · by_cases e' : j = n
      · subst e'; exact (key i o o' e hi hj hbi hbj).elim
      · obtain ⟨h3, h4⟩ := blkeq i o b e hi hbi
        obtain ⟨h5, h6⟩ := blkeq j o' b e' hj hbj
        exact R.dist _ _ _ _ _ h3 h5 h4 h6
  · intro i v x hx
    rcases h.nm i v x hx with h1 | ⟨rfl, h1, _⟩
    · exact Nat.lt_of_lt_of_le (R.fm _ _ _ h1) h.le.cnt
    · exact h1
  · intro i x hx
    rcases h.no i x hx with h1 | ⟨rfl, h1, _⟩
    · exact Nat.lt_of_lt_of_le (R.fo _ _ h1) h.le.cnt
    · exact h1
  · intro i hi
    by_cases e : i = n
    · subst e; exact h.dom hi
    · rw [h.same i e] at hi; exact .inl hi
  · intro i v x hx
    rcases h.nm i v x hx with h1 | ⟨rfl, _, h1⟩
    · exact .inl h1
    · exact .inr h1
  · intro i x hx
    rcases h.no i x hx with h1 | ⟨rfl, _, h1⟩
    · exact .inl h1
    · exact .inr h1

/-! ### new objects -/
/-- A name that nothing has yet. -/
structure Fresh (L : Lo) (n : Nat) : Prop where
  mem : ∀ v, L.mem n v = none
  obj : L.obj n = none
  lt : n < L.cnt
def Lo.addMem (L : Lo) (n ver : Nat) (x : Addr × Nat × Nat × Nat) : Lo := { L with mem := fun i v => if i = n ∧ v = ver then some x else L.mem i v }
def Lo.addObj (L : Lo) (n b : Nat) : Lo := { L with obj := fun i => if i = n then some b else L.obj i }
def Lo.addImm (L : Lo) (p : Nat → Nat → Option Value) : Lo := { L with imm := fun b o => match L.imm b o with | some v => some v | none => p b o }
theorem Lo.le_addMem (L : Lo) {n ver : Nat} {x : Addr × Nat × Nat × Nat} (h : L.mem n ver = none) : L.le (L.addMem n ver x) := by
  refine ⟨fun i v y hy => ?_, fun _ _ h => h, fun _ _ _ h => h, Nat.le_refl _⟩
  simp only [Lo.addMem]
  split
  · rename_i e; obtain ⟨rfl, rfl⟩ := e; rw [h] at hy; cases hy
  · exact hy
theorem Lo.le_addObj (L : Lo) {n b : Nat} (h : L.obj n = none) : L.le (L.addObj n b) := by
  refine ⟨fun _ _ _ h => h, fun i y hy => ?_, fun _ _ _ h => h, Nat.le_refl _⟩
  simp only [Lo.addObj]
  split
  · rename_i e; subst e; rw [h] at hy; cases hy
  · exact hy
theorem Lo.le_addImm (L : Lo) {p : Nat → Nat → Option Value} : L.le (L.addImm p) := by
  refine ⟨fun _ _ _ h => h, fun _ _ h => h, fun b o v h => ?_, Nat.le_refl _⟩
  simp only [Lo.addImm, h]
theorem imm_lt (R : Rel base L H w) {b o : Nat} {v : Value} (h : L.imm b o = some v) : b < w.heap.size := by
  have := R.imm _ _ _ h
  unfold World.cell? at this
  split at this
  · rename_i c _ _ hc; exact (Array.getElem?_eq_some_iff.1 hc).1
  · cases this
theorem cell_push {o : Obj} (hw : w'.heap = w.heap.push o) {b k : Nat} {v : Value} (h : w.cell? ⟨b, k, none⟩ = some v) : w'.cell? ⟨b, k, none⟩ = some v := by
  unfold World.cell? at h ⊢
  simp only at h ⊢
  have : w'.heap[b]? = w.heap[b]? := by
    rw [hw, Array.getElem?_push]
    split
    · rename_i e
      subst e
      simp at h
    · rfl
  rw [this]; exact h
structure Pushed (w w' : World) (o : Obj) : Prop where
  heap : w'.heap = w.heap.push o
  os : w'.os = w.os
  tape : w'.tape = w.tape
  output : w'.output = w.output
theorem Pushed.step {o : Obj} (h : Pushed w w' o) (own : Nat → Prop) : Step own w w' :=
  ⟨by rw [h.heap]; simp, h.os, h.tape, h.output, fun b hb _ => by rw [h.heap, Array.getElem?_push, if_neg (by omega)]⟩
theorem Pushed.old {o : Obj} (h : Pushed w w' o) {b : Nat} (hb : b < w.heap.size) : w'.heap[b]? = w.heap[b]? := by rw [h.heap, Array.getElem?_push, if_neg (by omega)]
theorem Pushed.get {o : Obj} (h : Pushed w w' o) : w'.heap[w.heap.size]? = some o := by rw [h.heap]; simp
/-- A new object, in a new block. -/
theorem Nx.push {n : Nat} {o : Obj} {ao : AObj} (R : Rel base L H w) (hp : Pushed w w' o) (hn : H n = none) (hle : L.le L') (himm : L'.imm = L.imm) (hcnt : n < L'.cnt)
    (hmem : ∀ i v x, L'.mem i v = some x → L.mem i v = some x ∨ i = n) (hobj : ∀ i x, L'.obj i = some x → L.obj i = some x ∨ i = n)
    (hok : ObjOk base L' w' n ao) (hb : blk L' n ao = some w.heap.size) : Nx base (· = n) L H w L' (H.set n ao) w' := by
  refine Nx.change R (n := n) ⟨hle, hp.step _, ?_, ?_, ?_, ?_, ?_, ?_, ?_, ?_⟩
  · intro b k v hv; rw [himm] at hv; exact cell_push hp.heap (R.imm _ _ _ hv)
  · intro i hi; simp [AHeap.set, hi]
  · intro i o' b hi ho hb'
    exact ⟨hp.old (R.own_lt ⟨i, o', ho, hb'⟩), fun k hk => by rw [himm]; exact hk⟩
  · intro o' ho
    simp only [AHeap.set, if_true, Option.some.injEq] at ho
    subst ho
    exact ⟨hok, fun b hb' => by rw [hb] at hb'; cases hb'; exact .inl (Nat.le_refl _)⟩
  · intro _; exact .inr rfl
  · intro i v x hx; rcases hmem i v x hx with h | h
    · exact .inl h
    · exact .inr ⟨h, hcnt, .inr rfl⟩
  · intro i x hx; rcases hobj i x hx with h | h
    · exact .inl h
    · exact .inr ⟨h, hcnt, rfl⟩
  · intro b k v hv; rw [himm] at hv; exact .inl hv
theorem free_new (R : Rel base L H w) (k : Nat) : L.imm w.heap.size k = none := by
  cases h : L.imm w.heap.size k with
  | none => rfl
  | some v => have := imm_lt R h; omega
/-- New memory. -/
theorem Nx.newMem {n sz c : Nat} {cells : Array Value} {t : TypeId} {l : List (List AV)} (R : Rel base L H w) (hp : Pushed w w' (.cells cells t (0, 0))) (hf : Fresh L n) (hn : H n = none) (hc : l.length ≤ c) (hs : c * sz ≤ cells.size)
    (hl : ∀ e es, l[e]? = some es → es.length = sz ∧ ∀ j x, es[j]? = some x → ∃ v, cells[e * sz + j]? = some v ∧ VR L x v ∧ one v) :
    Nx base (· = n) L H w (L.addMem n 0 (⟨w.heap.size, 0, none⟩, sz, l.length, c)) (H.set n (.mem 0 0 sz l)) w' := by
  have hle : L.le (L.addMem n 0 (⟨w.heap.size, 0, none⟩, sz, l.length, c)) := L.le_addMem (hf.mem 0)
  have hloc : (L.addMem n 0 (⟨w.heap.size, 0, none⟩, sz, l.length, c)).mem n 0 = some (⟨w.heap.size, 0, none⟩, sz, l.length, c) := by simp [Lo.addMem]
  refine Nx.push R hp hn hle rfl hf.lt ?_ (fun i x h => .inl h) ?_ ?_
  · intro i v x hx
    simp only [Lo.addMem] at hx
    split at hx
    · rename_i e; exact .inr e.1
    · exact .inl hx
  · refine ⟨⟨w.heap.size, 0, none⟩, c, hloc, hc, rfl, R.base, ⟨cells, t, hp.get, by simpa using hs, fun e es he => ?_⟩, fun o _ => free_new R o, fun v hv => ?_, fun _ => rfl⟩
    · obtain ⟨h1, h2⟩ := hl e es he
      refine ⟨h1, fun j x hx => ?_⟩
      obtain ⟨v, h3, h4, h5⟩ := h2 j x hx
      exact ⟨v, by simpa using h3, VR.mono hle _ _ h4, h5, (fun h => by omega)⟩
    · simp only [Lo.addMem]
      rw [if_neg (by omega)]
      exact hf.mem v
  · simp [blk, hloc]
theorem Nx.newMap {n cl : Nat} (R : Rel base L H w) (hp : Pushed w w' (.map #[] cl)) (hf : Fresh L n) (hn : H n = none) :
    Nx base (· = n) L H w (L.addObj n w.heap.size) (H.set n (.map [] cl)) w' := by
  have hloc : (L.addObj n w.heap.size).obj n = some w.heap.size := by simp [Lo.addObj]
  refine Nx.push R hp hn (L.le_addObj hf.obj) rfl hf.lt (fun i v x h => .inl h) ?_ ?_ hloc
  · intro i x hx
    simp only [Lo.addObj] at hx
    split at hx
    · rename_i e; exact .inr e
    · exact .inl hx
  · exact ⟨w.heap.size, #[], hloc, R.base, hp.get, trivial⟩
theorem Nx.newIter {n m bm since st : Nat} {seen : List Nat} (R : Rel base L H w) (hp : Pushed w w' (.mapIter (some bm) since seen.toArray st)) (hf : Fresh L n) (hn : H n = none) (hm : L.obj m = some bm) :
    Nx base (· = n) L H w (L.addObj n w.heap.size) (H.set n (.iter m since seen st)) w' := by
  have hle := L.le_addObj (b := w.heap.size) hf.obj
  have hloc : (L.addObj n w.heap.size).obj n = some w.heap.size := by simp [Lo.addObj]
  refine Nx.push R hp hn hle rfl hf.lt (fun i v x h => .inl h) ?_ ?_ hloc
  · intro i x hx
    simp only [Lo.addObj] at hx
    split at hx
    · rename_i e; exact .inr e
    · exact .inl hx
  · exact ⟨w.heap.size, bm, hloc, hle.obj _ _ hm, R.base, hp.get⟩
theorem Nx.newIter0 {n s y : Nat} {x : Array Nat} (R : Rel base L H w) (hp : Pushed w w' (.mapIter none s x y)) (hf : Fresh L n) (hn : H n = none) :
    Nx base (· = n) L H w (L.addObj n w.heap.size) (H.set n .iter0) w' := by
  have hle := L.le_addObj (b := w.heap.size) hf.obj
  have hloc : (L.addObj n w.heap.size).obj n = some w.heap.size := by simp [Lo.addObj]
  refine Nx.push R hp hn hle rfl hf.lt (fun i v x h => .inl h) ?_ ?_ hloc
  · intro i x hx
    simp only [Lo.addObj] at hx
    split at hx
    · rename_i e; exact .inr e
    · exact .inl hx
  · exact ⟨w.heap.size, hloc, R.base, s, x, y, hp.get⟩
/-- A new block of data that nobody writes. -/
theorem Nx.newImm {o : Obj} {p : Nat → Option Value} (R : Rel base L H w) (hp : Pushed w w' o) (hcell : ∀ k v, p k = some v → w'.cell? ⟨w.heap.size, k, none⟩ = some v) :
    Nx base (fun _ => False) L H w (L.addImm fun b k => if b = w.heap.size then p k else none) H w' := by
  have himm : ∀ b k v, (L.addImm fun b k => if b = w.heap.size then p k else none).imm b k = some v → L.imm b k = some v ∨ (b = w.heap.size ∧ p k = some v) := by
    intro b k v hv
    simp only [Lo.addImm] at hv
    split at hv
    · rename_i h; rw [h]; exact .inl hv
    · split at hv
      · rename_i e; exact .inr ⟨e, hv⟩
      · cases hv
  have hnone : H L.cnt = none := by
    cases h : H L.cnt with
    | none => rfl
    | some o =>
      obtain ⟨b, h1, _, _⟩ := (R.ok h).blk
      cases o with
      | mem ver fro sz l =>
        simp only [blk, Option.map_eq_some_iff] at h1
        obtain ⟨x, h1, _⟩ := h1
        have := R.fm _ _ _ h1
        omega
      | map es cl => have := R.fo _ _ h1; omega
      | iter m s se st => have := R.fo _ _ h1; omega
      | iter0 => have := R.fo _ _ h1; omega
  refine Nx.change R (n := L.cnt) ⟨L.le_addImm, hp.step _, ?_, fun _ _ => rfl, ?_, ?_, ?_, fun i v x h => .inl h, fun i x h => .inl h, ?_⟩
  · intro b k v hv
    rcases himm b k v hv with h | ⟨rfl, h⟩
    · exact cell_push hp.heap (R.imm _ _ _ h)
    · exact hcell k v h
  · intro i o' b hi ho hb'
    have hlt := R.own_lt ⟨i, o', ho, hb'⟩
    refine ⟨hp.old hlt, fun k hk => ?_⟩
    cases hx : (L.addImm fun b k => if b = w.heap.size then p k else none).imm b k with
    | none => rfl
    | some v =>
      rcases himm b k v hx with h | ⟨rfl, h⟩
      · rw [hk] at h; cases h
      · omega
  · intro o' ho; rw [hnone] at ho; cases ho
  · intro h; rw [hnone] at h; cases h
  · intro b k v hv
    rcases himm b k v hv with h | ⟨rfl, h⟩
    · exact .inl h
    · exact .inr (.inr (Nat.le_refl _))

end Go.AM

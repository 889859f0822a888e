/- What abstract values and heaps say of the machine's. -/
import Derived.Test.YtmciomkibklokaaA1
import Derived.Laws.Sem
import Derived.Laws.Cells
import Derived.Below
set_option autoImplicit false
set_option linter.unusedVariables false
set_option linter.unusedSimpArgs false
namespace Go.AM
open Go.RowKit

/-- Where things lie. -/
structure Lo where
  mem : Nat → Nat → Option (Addr × Nat × Nat × Nat)
  obj : Nat → Option Nat
  imm : Nat → Nat → Option Value
  cnt : Nat

structure Lo.le (L L' : Lo) : Prop where
  mem : ∀ i v x, L.mem i v = some x → L'.mem i v = some x
  obj : ∀ i x, L.obj i = some x → L'.obj i = some x
  imm : ∀ b o v, L.imm b o = some v → L'.imm b o = some v
  cnt : L.cnt ≤ L'.cnt

theorem Lo.le.refl (L : Lo) : L.le L := ⟨fun _ _ _ h => h, fun _ _ h => h, fun _ _ _ h => h, Nat.le_refl _⟩
theorem Lo.le.trans {L L' L'' : Lo} (h : L.le L') (k : L'.le L'') : L.le L'' :=
  ⟨fun _ _ _ x => k.mem _ _ _ (h.mem _ _ _ x), fun _ _ x => k.obj _ _ (h.obj _ _ x), fun _ _ _ x => k.imm _ _ _ (h.imm _ _ _ x), Nat.le_trans h.cnt k.cnt⟩

mutual
def DR (L : Lo) : Dat → Value → Prop
  | .bool b, v => v = .bool b
  | .int k n, v => v = .int k n
  | .str s, v => v = .string s
  | .sl nl l, v => ∃ A cap, v = .slice A l.length cap ∧ l.length ≤ cap ∧ (nl = true → A = none ∧ cap = 0) ∧
      (nl = false → ∃ a, A = some a ∧ (l = [] ∨ (a.spot = none ∧ ∃ sz, DRE L a.block a.off sz l)))
def DRC (L : Lo) (b o : Nat) : List Dat → Prop
  | [] => True
  | x :: xs => (∃ v, L.imm b o = some v ∧ DR L x v) ∧ DRC L b (o + 1) xs
def DRE (L : Lo) (b o sz : Nat) : List (List Dat) → Prop
  | [] => True
  | e :: es => e.length = sz ∧ DRC L b o e ∧ DRE L b (o + sz) sz es
end

def one (v : Value) : Prop := v.oneCell' = true

mutual
def VR (L : Lo) : AV → Value → Prop
  | .d x, v => DR L x v
  | .lit l, v => ∃ a, v = .slice (some a) l.length l.length ∧ (l = [] ∨ (a.spot = none ∧ ∃ sz, DRE L a.block a.off sz l))
  | .nilptr, v => v = .pointer none
  | .ptr i ver e off, v => ∃ b sz n c, L.mem i ver = some (b, sz, n, c) ∧ v = .pointer (some ⟨b.block, b.off + e * sz + off, none⟩)
  | .vptr cs off, v => ∃ b o, v = .pointer (some ⟨b, o + off, none⟩) ∧ DRC L b o cs
  | .rs i ver sz off len, v => ∃ b n c a, L.mem i ver = some (b, sz, n, c) ∧ v = .slice (some a) len (c - off) ∧ off + len ≤ n ∧ n ≤ c ∧
      (off < c → a = ⟨b.block, b.off + off * sz, none⟩)
  | .nilmap, v => v = .map none
  | .map i, v => ∃ b, L.obj i = some b ∧ v = .map (some b)
  | .it i, v => ∃ b, L.obj i = some b ∧ v = .pointer (some ⟨b, 0, none⟩)
  | .func f first caps, v => ∃ a c, v = .func (.func f) a c ∧ VRL L first a.toList ∧ VRL L caps c.toList
  | .nilfunc, v => v = .nilFunc
  | .nilif, v => v = .nilIface
  | .agg l, v => ∃ cs, v = .agg cs ∧ CRL L l cs.toList
  | .tup l, v => ∃ vs, v = .tuple vs ∧ VRL L l vs.toList
  | .junk, _ => True
def VRL (L : Lo) : List AV → List Value → Prop
  | [], [] => True
  | x :: xs, v :: vs => VR L x v ∧ VRL L xs vs
  | _, _ => False
def CRL (L : Lo) : List AV → List Value → Prop
  | [], [] => True
  | x :: xs, v :: vs => VR L x v ∧ one v ∧ CRL L xs vs
  | _, _ => False
end

mutual
theorem DR.mono {L L' : Lo} (h : L.le L') : ∀ (x : Dat) (v : Value), DR L x v → DR L' x v
  | .bool b, v, k => by simpa [DR] using k
  | .int k n, v, h1 => by simpa [DR] using h1
  | .str s, v, k => by simpa [DR] using k
  | .sl nl l, v, k => by
    simp only [DR] at k ⊢
    obtain ⟨A, cap, rfl, h1, h2, h3⟩ := k
    refine ⟨A, cap, rfl, h1, h2, fun hn => ?_⟩
    obtain ⟨a, h4, h5⟩ := h3 hn
    refine ⟨a, h4, h5.imp id ?_⟩
    rintro ⟨h6, sz, h7⟩
    exact ⟨h6, sz, DRE.mono h _ _ _ l h7⟩
theorem DRC.mono {L L' : Lo} (h : L.le L') (b o : Nat) : ∀ (l : List Dat), DRC L b o l → DRC L' b o l
  | [], _ => by simp [DRC]
  | x :: xs, k => by
    simp only [DRC] at k ⊢
    obtain ⟨⟨v, h1, h2⟩, h3⟩ := k
    exact ⟨⟨v, h.imm _ _ _ h1, DR.mono h x v h2⟩, DRC.mono h b (o + 1) xs h3⟩
theorem DRE.mono {L L' : Lo} (h : L.le L') (b o sz : Nat) : ∀ (l : List (List Dat)), DRE L b o sz l → DRE L' b o sz l
  | [], _ => by simp [DRE]
  | e :: es, k => by
    simp only [DRE] at k ⊢
    exact ⟨k.1, DRC.mono h b o e k.2.1, DRE.mono h b (o + sz) sz es k.2.2⟩
end

mutual
theorem VR.mono {L L' : Lo} (h : L.le L') : ∀ (x : AV) (v : Value), VR L x v → VR L' x v
  | .d x, v, k => by simp only [VR] at k ⊢; exact DR.mono h x v k
  | .lit l, v, k => by
    simp only [VR] at k ⊢
    obtain ⟨a, h1, h2⟩ := k
    refine ⟨a, h1, h2.imp id ?_⟩
    rintro ⟨h3, sz, h4⟩
    exact ⟨h3, sz, DRE.mono h _ _ _ l h4⟩
  | .nilptr, v, k => by simpa [VR] using k
  | .ptr i ver e off, v, k => by
    simp only [VR] at k ⊢
    obtain ⟨b, sz, n, c, h1, h2⟩ := k
    exact ⟨b, sz, n, c, h.mem _ _ _ h1, h2⟩
  | .vptr cs off, v, k => by
    simp only [VR] at k ⊢
    obtain ⟨b, o, h1, h2⟩ := k
    exact ⟨b, o, h1, DRC.mono h _ _ cs h2⟩
  | .rs i ver sz off len, v, k => by
    simp only [VR] at k ⊢
    obtain ⟨b, n, c, a, h1, h2⟩ := k
    exact ⟨b, n, c, a, h.mem _ _ _ h1, h2⟩
  | .nilmap, v, k => by simpa [VR] using k
  | .map i, v, k => by
    simp only [VR] at k ⊢
    obtain ⟨b, h1, h2⟩ := k
    exact ⟨b, h.obj _ _ h1, h2⟩
  | .it i, v, k => by
    simp only [VR] at k ⊢
    obtain ⟨b, h1, h2⟩ := k
    exact ⟨b, h.obj _ _ h1, h2⟩
  | .func f first caps, v, k => by
    simp only [VR] at k ⊢
    obtain ⟨a, c, h1, h2, h3⟩ := k
    exact ⟨a, c, h1, VRL.mono h first _ h2, VRL.mono h caps _ h3⟩
  | .nilfunc, v, k => by simpa [VR] using k
  | .nilif, v, k => by simpa [VR] using k
  | .agg l, v, k => by
    simp only [VR] at k ⊢
    obtain ⟨cs, h1, h2⟩ := k
    exact ⟨cs, h1, CRL.mono h l _ h2⟩
  | .tup l, v, k => by
    simp only [VR] at k ⊢
    obtain ⟨vs, h1, h2⟩ := k
    exact ⟨vs, h1, VRL.mono h l _ h2⟩
  | .junk, v, k => by simp [VR]
theorem VRL.mono {L L' : Lo} (h : L.le L') : ∀ (l : List AV) (vs : List Value), VRL L l vs → VRL L' l vs
  | [], [], _ => by simp [VRL]
  | [], _ :: _, k => by simp [VRL] at k
  | _ :: _, [], k => by simp [VRL] at k
  | x :: xs, v :: vs, k => by simp only [VRL] at k ⊢; exact ⟨VR.mono h x v k.1, VRL.mono h xs vs k.2⟩
theorem CRL.mono {L L' : Lo} (h : L.le L') : ∀ (l : List AV) (vs : List Value), CRL L l vs → CRL L' l vs
  | [], [], _ => by simp [CRL]
  | [], _ :: _, k => by simp [CRL] at k
  | _ :: _, [], k => by simp [CRL] at k
  | x :: xs, v :: vs, k => by simp only [CRL] at k ⊢; exact ⟨VR.mono h x v k.1, k.2.1, CRL.mono h xs vs k.2.2⟩
end

/-! ### lists related cell by cell -/
theorem VRL.length {L : Lo} : ∀ {l : List AV} {vs : List Value}, VRL L l vs → l.length = vs.length
  | [], [], _ => rfl
  | [], _ :: _, k => by simp [VRL] at k
  | _ :: _, [], k => by simp [VRL] at k
  | x :: xs, v :: vs, k => by simp only [VRL] at k; simp [VRL.length k.2]
theorem VRL.get {L : Lo} : ∀ {l : List AV} {vs : List Value}, VRL L l vs → ∀ {i : Nat} {x : AV}, l[i]? = some x → ∃ v, vs[i]? = some v ∧ VR L x v
  | [], [], _, i, x, h => by simp at h
  | [], _ :: _, k, _, _, _ => by simp [VRL] at k
  | _ :: _, [], k, _, _, _ => by simp [VRL] at k
  | y :: ys, v :: vs, k, i, x, h => by
    simp only [VRL] at k
    cases i with
    | zero => simp at h; subst h; exact ⟨v, by simp, k.1⟩
    | succ i => simp at h; obtain ⟨u, h1, h2⟩ := VRL.get k.2 h; exact ⟨u, by simpa using h1, h2⟩
theorem VRL.app {L : Lo} : ∀ {l : List AV} {vs : List Value}, VRL L l vs → ∀ {l' vs'}, VRL L l' vs' → VRL L (l ++ l') (vs ++ vs')
  | [], [], _, _, _, h => by simpa using h
  | [], _ :: _, k, _, _, _ => by simp [VRL] at k
  | _ :: _, [], k, _, _, _ => by simp [VRL] at k
  | y :: ys, v :: vs, k, _, _, h => by simp only [VRL, List.cons_append] at k ⊢; exact ⟨k.1, VRL.app k.2 h⟩
theorem VRL.map {L : Lo} {α : Type} {f : α → AV} {g : α → Value} : ∀ (l : List α), (∀ x ∈ l, VR L (f x) (g x)) → VRL L (l.map f) (l.map g)
  | [], _ => by simp [VRL]
  | x :: xs, h => by simp only [List.map_cons, VRL]; exact ⟨h x (by simp), VRL.map xs fun y hy => h y (by simp [hy])⟩
theorem CRL.length {L : Lo} : ∀ {l : List AV} {vs : List Value}, CRL L l vs → l.length = vs.length
  | [], [], _ => rfl
  | [], _ :: _, k => by simp [CRL] at k
  | _ :: _, [], k => by simp [CRL] at k
  | x :: xs, v :: vs, k => by simp only [CRL] at k; simp [CRL.length k.2.2]
theorem CRL.get {L : Lo} : ∀ {l : List AV} {vs : List Value}, CRL L l vs → ∀ {i : Nat} {x : AV}, l[i]? = some x → ∃ v, vs[i]? = some v ∧ VR L x v ∧ one v
  | [], [], _, i, x, h => by simp at h
  | [], _ :: _, k, _, _, _ => by simp [CRL] at k
  | _ :: _, [], k, _, _, _ => by simp [CRL] at k
  | y :: ys, v :: vs, k, i, x, h => by
    simp only [CRL] at k
    cases i with
    | zero => simp at h; subst h; exact ⟨v, by simp, k.1, k.2.1⟩
    | succ i => simp at h; obtain ⟨u, h1, h2⟩ := CRL.get k.2.2 h; exact ⟨u, by simpa using h1, h2⟩
theorem CRL.of {L : Lo} : ∀ {l : List AV} {vs : List Value}, l.length = vs.length → (∀ (i : Nat) (x : AV) (v : Value), l[i]? = some x → vs[i]? = some v → VR L x v ∧ one v) → CRL L l vs
  | [], [], _, _ => by simp [CRL]
  | [], _ :: _, k, _ => by simp at k
  | _ :: _, [], k, _ => by simp at k
  | x :: xs, v :: vs, k, h => by
    simp only [CRL]
    have := h 0 x v (by simp) (by simp)
    exact ⟨this.1, this.2, CRL.of (by simpa using k) fun i x v h1 h2 => h (i + 1) x v (by simpa using h1) (by simpa using h2)⟩
theorem CRL.app {L : Lo} : ∀ {l : List AV} {vs : List Value}, CRL L l vs → ∀ {l' vs'}, CRL L l' vs' → CRL L (l ++ l') (vs ++ vs')
  | [], [], _, _, _, h => by simpa using h
  | [], _ :: _, k, _, _, _ => by simp [CRL] at k
  | _ :: _, [], k, _, _, _ => by simp [CRL] at k
  | y :: ys, v :: vs, k, _, _, h => by simp only [CRL, List.cons_append] at k ⊢; exact ⟨k.1, k.2.1, CRL.app k.2.2 h⟩
theorem CRL.drop {L : Lo} : ∀ (n : Nat) {l : List AV} {vs : List Value}, CRL L l vs → CRL L (l.drop n) (vs.drop n)
  | 0, _, _, h => by simpa using h
  | n + 1, [], [], h => by simp [CRL]
  | n + 1, [], _ :: _, h => by simp [CRL] at h
  | n + 1, _ :: _, [], h => by simp [CRL] at h
  | n + 1, x :: xs, v :: vs, h => by simp only [CRL, List.drop_succ_cons] at h ⊢; exact CRL.drop n h.2.2
theorem CRL.take {L : Lo} : ∀ (n : Nat) {l : List AV} {vs : List Value}, CRL L l vs → CRL L (l.take n) (vs.take n)
  | 0, _, _, h => by simp [CRL]
  | n + 1, [], [], h => by simp [CRL]
  | n + 1, [], _ :: _, h => by simp [CRL] at h
  | n + 1, _ :: _, [], h => by simp [CRL] at h
  | n + 1, x :: xs, v :: vs, h => by simp only [CRL, List.take_succ_cons] at h ⊢; exact ⟨h.1, h.2.1, CRL.take n h.2.2⟩
theorem CRL.VRL {L : Lo} : ∀ {l : List AV} {vs : List Value}, CRL L l vs → VRL L l vs
  | [], [], _ => by simp [AM.VRL]
  | [], _ :: _, k => by simp [CRL] at k
  | _ :: _, [], k => by simp [CRL] at k
  | x :: xs, v :: vs, k => by simp only [CRL] at k; simp only [AM.VRL]; exact ⟨k.1, CRL.VRL k.2.2⟩

theorem DR.one {L : Lo} {x : Dat} {v : Value} (h : DR L x v) : one v := by
  cases x <;> simp only [DR] at h
  · subst h; exact rfl
  · subst h; exact rfl
  · subst h; exact rfl
  · obtain ⟨A, cap, rfl, _⟩ := h; exact rfl
/-- The cells of a value that may be stored. -/
theorem VR.cells {L : Lo} {x : AV} {v : Value} (h : VR L x v) (hs : x.storable = true) : CRL L x.cells v.cells.toList := by
  have key : ∀ (o : one v), x.cells = [x] → CRL L x.cells v.cells.toList := by
    intro o hx
    have : v.cells = #[v] := by
      cases v <;> first | rfl | cases o
    rw [hx, this]
    simp only [CRL, and_true]
    exact ⟨h, o⟩
  cases x with
  | agg l => simp only [VR] at h; obtain ⟨cs, rfl, h2⟩ := h; exact h2
  | tup l => simp [AV.storable] at hs
  | junk => simp [AV.storable] at hs
  | d x => exact key (DR.one (by simpa [VR] using h)) rfl
  | lit l => refine key ?_ rfl; simp only [VR] at h; obtain ⟨a, rfl, _⟩ := h; exact rfl
  | nilptr => refine key ?_ rfl; simp only [VR] at h; subst h; exact rfl
  | ptr i ver e off => refine key ?_ rfl; simp only [VR] at h; obtain ⟨_, _, _, _, _, rfl⟩ := h; exact rfl
  | vptr cs off => refine key ?_ rfl; simp only [VR] at h; obtain ⟨_, _, rfl, _⟩ := h; exact rfl
  | rs i ver sz off len => refine key ?_ rfl; simp only [VR] at h; obtain ⟨_, _, _, _, _, rfl, _⟩ := h; exact rfl
  | nilmap => refine key ?_ rfl; simp only [VR] at h; subst h; exact rfl
  | map i => refine key ?_ rfl; simp only [VR] at h; obtain ⟨_, _, rfl⟩ := h; exact rfl
  | it i => refine key ?_ rfl; simp only [VR] at h; obtain ⟨_, _, rfl⟩ := h; exact rfl
  | func f a c => refine key ?_ rfl; simp only [VR] at h; obtain ⟨_, _, rfl, _⟩ := h; exact rfl
  | nilfunc => refine key ?_ rfl; simp only [VR] at h; subst h; exact rfl
  | nilif => refine key ?_ rfl; simp only [VR] at h; subst h; exact rfl

/-! ### heaps -/
def blk (L : Lo) (i : Nat) : AObj → Option Nat
  | .mem ver _ _ _ => (L.mem i ver).map (·.1.block)
  | _ => L.obj i
def own (L : Lo) (H : AHeap) (b : Nat) : Prop := ∃ i o, H i = some o ∧ blk L i o = some b
def EntR (L : Lo) : List MEnt → List MapEntry → Prop
  | [], [] => True
  | e :: es, c :: cs => DR L e.key c.key ∧ VR L e.val c.val ∧ e.val.storable = true ∧ e.born = c.born ∧ EntR L es cs
  | _, _ => False
structure MemOk (base : Nat) (L : Lo) (w : World) (i ver fro sz : Nat) (l : List (List AV)) (b : Addr) (c : Nat) : Prop where
  loc : L.mem i ver = some (b, sz, l.length, c)
  cap : l.length ≤ c
  spot : b.spot = none
  base : base ≤ b.block
  cells : ∃ (cells : Array Value) (t : TypeId), w.heap[b.block]? = some (.cells cells t (0, 0)) ∧ b.off + c * sz ≤ cells.size ∧
    (∀ e es, l[e]? = some es → es.length = sz ∧ ∀ j x, es[j]? = some x →
      ∃ v, cells[b.off + e * sz + j]? = some v ∧ VR L x v ∧ one v ∧ (e < fro → L.imm b.block (b.off + e * sz + j) = some v)) 
  free : ∀ o, b.off + fro * sz ≤ o → L.imm b.block o = none
  last : ∀ v, ver < v → L.mem i v = none
  orig : ver = 0 → b.off = 0
structure Rel (base : Nat) (L : Lo) (H : AHeap) (w : World) : Prop where
  imm : ∀ b o v, L.imm b o = some v → w.cell? ⟨b, o, none⟩ = some v
  mem : ∀ i ver fro sz l, H i = some (.mem ver fro sz l) → ∃ b c, MemOk base L w i ver fro sz l b c
  map : ∀ i es cl, H i = some (.map es cl) → ∃ b ces, L.obj i = some b ∧ base ≤ b ∧ w.heap[b]? = some (.map ces cl) ∧ EntR L es ces.toList
  iter : ∀ i m since seen st, H i = some (.iter m since seen st) → ∃ b bm, L.obj i = some b ∧ L.obj m = some bm ∧ base ≤ b ∧ w.heap[b]? = some (.mapIter (some bm) since seen.toArray st)
  iter0 : ∀ i, H i = some .iter0 → ∃ b, L.obj i = some b ∧ base ≤ b ∧ ∃ s x y, w.heap[b]? = some (.mapIter none s x y)
  dist : ∀ i j o o' b, H i = some o → H j = some o' → blk L i o = some b → blk L j o' = some b → i = j
  fm : ∀ i v x, L.mem i v = some x → i < L.cnt
  fo : ∀ i x, L.obj i = some x → i < L.cnt
  base : base ≤ w.heap.size
structure Step (own : Nat → Prop) (w w' : World) : Prop where
  size : w.heap.size ≤ w'.heap.size
  os : w'.os = w.os
  tape : w'.tape = w.tape
  output : w'.output = w.output
  keep : ∀ b, b < w.heap.size → ¬ own b → w'.heap[b]? = w.heap[b]?
structure Nx (base : Nat) (fr : Nat → Prop) (L : Lo) (H : AHeap) (w : World) (L' : Lo) (H' : AHeap) (w' : World) : Prop where
  le : L.le L'
  rel : Rel base L' H' w'
  step : Step (own L H) w w'
  sub : ∀ b, own L' H' b → own L H b ∨ w.heap.size ≤ b
  dom : ∀ i, (H' i).isSome → (H i).isSome ∨ fr i
  nm : ∀ i v x, L'.mem i v = some x → L.mem i v = some x ∨ (H i).isSome ∨ fr i
  no : ∀ i x, L'.obj i = some x → L.obj i = some x ∨ fr i
  im : ∀ b o v, L'.imm b o = some v → L.imm b o = some v ∨ own L H b ∨ w.heap.size ≤ b

theorem Step.refl (o : Nat → Prop) (w : World) : Step o w w := ⟨Nat.le_refl _, rfl, rfl, rfl, fun _ _ _ => rfl⟩
theorem Nx.refl {base : Nat} {fr : Nat → Prop} {L : Lo} {H : AHeap} {w : World} (h : Rel base L H w) : Nx base fr L H w L H w :=
  ⟨.refl _, h, .refl _ _, fun _ h => .inl h, fun _ h => .inl h, fun _ v x h => .inl h, fun _ _ h => .inl h, fun _ _ _ h => .inl h⟩
theorem Nx.trans {base : Nat} {fr fr' : Nat → Prop} {L L' L'' : Lo} {H H' H'' : AHeap} {w w' w'' : World} (h : Nx base fr L H w L' H' w') (k : Nx base fr' L' H' w' L'' H'' w'') (hf : ∀ i, fr' i → fr i) : Nx base fr L H w L'' H'' w'' where
  le := h.le.trans k.le
  rel := k.rel
  step := {
    size := Nat.le_trans h.step.size k.step.size
    os := k.step.os.trans h.step.os
    tape := k.step.tape.trans h.step.tape
    output := k.step.output.trans h.step.output
    keep := fun b hb ho => by
      have hs := h.step.size
      rw [k.step.keep b (by omega) (fun h' => by rcases h.sub b h' with h1 | h1; exact ho h1; omega), h.step.keep b hb ho] }
  sub := fun b hb => by
    have hs := h.step.size
    rcases k.sub b hb with h1 | h1
    · exact h.sub b h1
    · right; omega
  dom := fun i hi => by
    rcases k.dom i hi with h1 | h1
    · exact h.dom i h1
    · exact .inr (hf i h1)
  nm := fun i v x hx => by
    rcases k.nm i v x hx with h1 | h1 | h1
    · exact h.nm i v x h1
    · exact .inr (h.dom i h1)
    · exact .inr (.inr (hf i h1))
  no := fun i x hx => by
    rcases k.no i x hx with h1 | h1
    · exact h.no i x h1
    · exact .inr (hf i h1)
  im := fun b o v hv => by
    have hs := h.step.size
    rcases k.im b o v hv with h1 | h1 | h1
    · exact h.im b o v h1
    · rcases h.sub b h1 with h2 | h2
      · exact .inr (.inl h2)
      · exact .inr (.inr h2)
    · right; right; omega
theorem Nx.imp {base : Nat} {fr fr' : Nat → Prop} {L L' : Lo} {H H' : AHeap} {w w' : World} (h : Nx base fr L H w L' H' w') (hf : ∀ i, fr i → fr' i) : Nx base fr' L H w L' H' w' :=
  ⟨h.le, h.rel, h.step, h.sub, fun i hi => (h.dom i hi).imp id (hf i), fun i v x hx => (h.nm i v x hx).imp id (Or.imp id (hf i)), fun i x hx => (h.no i x hx).imp id (hf i), h.im⟩
theorem Rel.weaken {base : Nat} {L : Lo} {H H' : AHeap} {w : World} (h : Rel base L H w) (hl : AHeap.le H' H) : Rel base L H' w where
  imm := h.imm
  mem := fun i ver fro sz l hi => h.mem i ver fro sz l (hl _ _ hi)
  map := fun i es cl hi => h.map i es cl (hl _ _ hi)
  iter := fun i m s se st hi => h.iter i m s se st (hl _ _ hi)
  iter0 := fun i hi => h.iter0 i (hl _ _ hi)
  dist := fun i j o o' b hi hj => h.dist i j o o' b (hl _ _ hi) (hl _ _ hj)
  fm := h.fm
  fo := h.fo
  base := h.base
theorem own.weaken {L : Lo} {H H' : AHeap} (hl : AHeap.le H' H) {b : Nat} (h : own L H' b) : own L H b := by
  obtain ⟨i, o, h1, h2⟩ := h
  exact ⟨i, o, hl _ _ h1, h2⟩
theorem Nx.weaken {base : Nat} {fr : Nat → Prop} {L L' : Lo} {H H' H'' : AHeap} {w w' : World} (h : Nx base fr L H w L' H' w') (hl : AHeap.le H'' H') : Nx base fr L H w L' H'' w' :=
  ⟨h.le, h.rel.weaken hl, h.step, fun b hb => h.sub b (hb.weaken hl), fun i hi => h.dom i (by cases e : H'' i with | none => simp [e] at hi | some o => simp [hl i o e]), h.nm, h.no, h.im⟩
/-- An owned block lies from the base on. -/
theorem Rel.own_base {base : Nat} {L : Lo} {H : AHeap} {w : World} (h : Rel base L H w) {b : Nat} (ho : own L H b) : base ≤ b := by
  obtain ⟨i, o, h1, h2⟩ := ho
  cases o with
  | mem ver fro sz l =>
    obtain ⟨a, c, k⟩ := h.mem i ver fro sz l h1
    simp only [blk, k.loc, Option.map_some, Option.some.injEq] at h2
    rw [← h2]; exact k.base
  | map es cl =>
    obtain ⟨a, ces, k1, k2, _⟩ := h.map i es cl h1
    simp only [blk, k1, Option.some.injEq] at h2
    rw [← h2]; exact k2
  | iter m s se st =>
    obtain ⟨a, bm, k1, _, k2, _⟩ := h.iter i m s se st h1
    simp only [blk, k1, Option.some.injEq] at h2
    rw [← h2]; exact k2
  | iter0 =>
    obtain ⟨a, k1, k2, _⟩ := h.iter0 i h1
    simp only [blk, k1, Option.some.injEq] at h2
    rw [← h2]; exact k2
theorem Rel.own_lt {base : Nat} {L : Lo} {H : AHeap} {w : World} (h : Rel base L H w) {b : Nat} (ho : own L H b) : b < w.heap.size := by
  have lt : ∀ {b : Nat} {o : Obj}, w.heap[b]? = some o → b < w.heap.size := fun h => (Array.getElem?_eq_some_iff.1 h).1
  obtain ⟨i, o, h1, h2⟩ := ho
  cases o with
  | mem ver fro sz l =>
    obtain ⟨a, c, k⟩ := h.mem i ver fro sz l h1
    simp only [blk, k.loc, Option.map_some, Option.some.injEq] at h2
    obtain ⟨cells, t, k1, _⟩ := k.cells
    rw [← h2]; exact lt k1
  | map es cl =>
    obtain ⟨a, ces, k1, k2, k3, _⟩ := h.map i es cl h1
    simp only [blk, k1, Option.some.injEq] at h2
    rw [← h2]; exact lt k3
  | iter m s se st =>
    obtain ⟨a, bm, k1, _, k2, k3⟩ := h.iter i m s se st h1
    simp only [blk, k1, Option.some.injEq] at h2
    rw [← h2]; exact lt k3
  | iter0 =>
    obtain ⟨a, k1, k2, _, _, _, k3⟩ := h.iter0 i h1
    simp only [blk, k1, Option.some.injEq] at h2
    rw [← h2]; exact lt k3
theorem Step.below {base : Nat} {L : Lo} {H : AHeap} {w w' : World} (h : Rel base L H w) (s : Step (own L H) w w') : Below base w w' :=
  ⟨s.os, s.tape, s.output, s.size, fun i hi => s.keep i (Nat.lt_of_lt_of_le hi h.base) fun ho => by have := h.own_base ho; omega⟩

end Go.AM

/- 'append'. -/
import Derived.Test.YtmciomkibklokaaA8
import Derived.Deep.AppendSrc
import Derived.Deep.Upon
import Derived.Lib.AppendZerosOnto
set_option autoImplicit false
set_option linter.unusedVariables false
set_option linter.unusedSimpArgs false
namespace Go.AM
open Go.RowKit

variable {P : Program} {L L' : Lo} {w w' : World} {base : Nat} {H H' : AHeap}

theorem flat_len {α : Type} {sz : Nat} : ∀ {F : List (List α)}, (∀ c ∈ F, c.length = sz) → F.flatten.length = F.length * sz
  | [], _ => by simp
  | c :: F, h => by
    rw [List.flatten_cons, List.length_append, flat_len (fun d hd => h d (by simp [hd])), h c (by simp), List.length_cons, Nat.add_mul]
    omega
theorem flat_get {α : Type} {sz : Nat} : ∀ {F : List (List α)}, (∀ c ∈ F, c.length = sz) → ∀ {e j : Nat} {es : List α} {x : α}, F[e]? = some es → es[j]? = some x → F.flatten[e * sz + j]? = some x
  | [], _, e, j, es, x, h, _ => by simp at h
  | c :: F, hF, e, j, es, x, h, hx => by
    have hc := hF c (by simp)
    rw [List.flatten_cons]
    cases e with
    | zero =>
      simp at h
      subst h
      rw [Nat.zero_mul, Nat.zero_add, List.getElem?_append_left ((List.getElem?_eq_some_iff.1 hx).1)]
      exact hx
    | succ e =>
      have ih := flat_get (fun d hd => hF d (by simp [hd])) (F := F) (e := e) (by simpa using h) hx
      have hge : c.length ≤ (e + 1) * sz + j := by rw [hc, Nat.add_mul]; omega
      rw [List.getElem?_append_right hge, hc, show (e + 1) * sz + j - sz = e * sz + j by rw [Nat.add_mul]; omega]
      exact ih
theorem Cl.app {b o : Nat} {xs ys : List AV} (h : Cl L w b o xs) (k : Cl L w b (o + xs.length) ys) : Cl L w b o (xs ++ ys) := by
  intro j x hx
  rcases Nat.lt_or_ge j xs.length with hj | hj
  · rw [List.getElem?_append_left hj] at hx; exact h j x hx
  · rw [List.getElem?_append_right hj] at hx
    have := k _ x hx
    rwa [show o + xs.length + (j - xs.length) = o + j by omega] at this
theorem Cl.flat {b sz : Nat} : ∀ {F : List (List AV)} {o : Nat}, (∀ (i : Nat) (c : List AV), F[i]? = some c → c.length = sz ∧ Cl L w b (o + i * sz) c) → Cl L w b o F.flatten
  | [], o, _ => fun j x hx => by simp at hx
  | c :: F, o, h => by
    obtain ⟨h1, h2⟩ := h 0 c rfl
    rw [List.flatten_cons]
    refine Cl.app (by simpa using h2) (Cl.flat (sz := sz) fun i d hd => ?_)
    have := h (i + 1) d (by simpa using hd)
    rwa [h1, show o + sz + i * sz = o + (i + 1) * sz by rw [Nat.add_mul]; omega]
theorem CRL.one' {cs : List AV} {vs : List Value} (h : CRL L cs vs) : ∀ u ∈ vs, u.oneCell' = true := by
  intro u hu
  obtain ⟨k, hk⟩ := List.getElem?_of_mem hu
  have hl := h.length
  have hlt : k < cs.length := by rw [hl]; exact (List.getElem?_eq_some_iff.1 hk).1
  obtain ⟨u', h1, _, h3⟩ := h.get (i := k) (x := cs[k]) (by simp [hlt])
  rw [hk] at h1
  cases h1
  exact h3
/-- What an append's second argument yields: all three ways in which it goes. -/
structure Yld (P : Program) (t tx ty e : TypeId) (info : TypeInfo) (z : Value) (x : Value) (n : Nat) (news : List Value) (w : World) : Prop where
  nothing : n = 0 → ∀ base sLen sCap, sLen ≤ sCap → (Builtin.append_ #[t, tx] ty #[.slice base sLen sCap, x]).run P w = .ok (.slice base sLen sCap) w
  room : ∀ (a : Addr) (sLen sCap : Nat) (cells : Array Value) (tt : TypeId), a.spot = none → w.heap[a.block]? = some (.cells cells tt (0, 0)) → a.off + sLen * info.size + news.length ≤ cells.size → sLen + n ≤ sCap →
    (Builtin.append_ #[t, tx] ty #[.slice (some a) sLen sCap, x]).run P w = .ok (.slice (some a) (sLen + n) sCap)
      (w.setRow a.block (cells.toList.take (a.off + sLen * info.size) ++ news ++ cells.toList.drop (a.off + sLen * info.size + news.length)).toArray)
  grow : ∀ (base : Option Addr) (sLen sCap : Nat) (olds : List Value), (Builtin.firstCells info.size sLen (.slice base sLen sCap)).run P w.drew = .ok olds.toArray w.drew → sCap < sLen + n → (sLen + n) * info.bytes ≤ mostBytes →
    (Builtin.append_ #[t, tx] ty #[.slice base sLen sCap, x]).run P w = .ok (.slice (some ⟨w.heap.size, 0, none⟩) (sLen + n) (grownCap w (sLen + n) sCap e))
      (w.drew.alloc (.cells ((olds ++ news).toArray ++ Builtin.zeroCells z.cells (grownCap w (sLen + n) sCap e - (sLen + n))) e))
  len : news.length = n * info.size
theorem small_of_bytes {a b : Nat} (hb : 0 < b) (h : a * b ≤ mostBytes) : a ≤ 140737488355328 := by
  have : a * 1 ≤ a * b := Nat.mul_le_mul_left _ hb
  simp only [mostBytes] at h
  omega
theorem Yld.slice {t tx ty e e' : TypeId} {info : TypeInfo} {z : Value} (ht : P.underlying t = some (.slice e)) (hi : P.info? e = some info) (hz : info.zero = some z) (hbytes : 0 < info.bytes) (hk : P.underlying tx = some (.slice e'))
    {A : Option Addr} {n cap : Nat} {ys : List (List AV)} {news : List Value} (hn : n = ys.length) (hE : Els L w A ys) (hsz : ∀ y ∈ ys, y.length = info.size) (hcr : ∃ vs, CRL L ys.flatten vs ∧ news = vs ∧ (ys ≠ [] → ∀ a, A = some a → ∀ j v, vs[j]? = some v → w.cell? ⟨a.block, a.off + j, none⟩ = some v)) :
    Yld P t tx ty e info z (.slice A n cap) n news w := by
  obtain ⟨vs, hc, rfl, hcells⟩ := hcr
  have hlen : news.length = n * info.size := by rw [hn, ← hc.length, flat_len hsz]
  have hsrc : Src P info.size tx (.slice A n cap) n news w := by
    rcases hE with rfl | ⟨a, sz, rfl, hs, hE⟩
    · have : news = [] := by apply List.eq_nil_of_length_eq_zero; rw [hlen, hn]; simp
      subst this
      subst hn
      refine ⟨.inl ⟨e', hk⟩, fun _ => rfl, ?_, ?_, by simp, fun _ h => by cases h⟩ <;> cases A <;> simp [Builtin.firstCells, loadCells, loadCellsFrom]
    · by_cases h0 : ys = []
      · have : news = [] := by apply List.eq_nil_of_length_eq_zero; rw [hlen, hn, h0]; simp
        subst this
        subst h0
        subst hn
        refine ⟨.inl ⟨e', hk⟩, fun _ => rfl, ?_, ?_, by simp, fun _ h => by cases h⟩ <;> simp [Builtin.firstCells, loadCells, loadCellsFrom]
      · refine Src.ofSlice w hk a n cap news hlen (fun j u hu => ?_) hc.one'
        have ha : a.add j = ⟨a.block, a.off + j, none⟩ := by
          have : a = ⟨a.block, a.off, none⟩ := by cases a; simp_all
          rw [this, add_plain]
        rw [ha]
        exact hcells h0 a rfl j u hu
  refine ⟨?_, ?_, ?_, hlen⟩
  · intro h0 base sLen sCap hle
    have hnil : news = [] := by apply List.eq_nil_of_length_eq_zero; rw [hlen, h0]; simp
    subst hnil
    subst h0
    exact run_append_nothing w t tx ty e info ht hi base sLen sCap hle _ hsrc
  · intro a sLen sCap cells tt hs hg hfit hroom
    have hst := run_storeCells_at P a.block (a.off + sLen * info.size) tt news 0 cells w hg (by simpa using hfit) hsrc.one
    simp only [Nat.add_zero] at hst
    have ha : ∀ k, a.add k = if k = 0 then a else ⟨a.block, a.off + k, none⟩ := fun k => by
      unfold Addr.add; split <;> simp
    have ha' : a = ⟨a.block, a.off, none⟩ := by cases a; simp_all
    have hadd : a.add (sLen * info.size) = ⟨a.block, a.off + sLen * info.size, none⟩ := by rw [ha', add_plain]
    simp [Builtin.append_, run_underlying ht, run_underlying hk, sizeOf, typeInfo, hi, hsrc.len, hroom, hsrc.cells, hadd, hst]
  · intro base sLen sCap olds hold hg hb
    have := small_of_bytes hbytes hb
    exact run_append_grow_src w t tx ty e info z ht hi hz base sLen sCap olds hold _ n news hsrc hg (by omega) (growslice_fits hg (by simpa [mostBytes] using hb))
theorem wrap_small {k : Nat} (h : k ≤ 140737488355328) : IntKind.i64.wrap (k : Int) = k := by rw [IntKind.wrap_i64]; omega
theorem Yld.zeros {t tx ty e : TypeId} {info : TypeInfo} {z : Value} {kn kq : IntKind} (ht : P.underlying t = some (.slice e)) (hi : P.info? e = some info) (hz : info.zero = some z) (hbytes : 0 < info.bytes) (hs : 0 < info.size) (hk : P.underlying tx = some (.int kn))
    (hzs : z.cells.size = info.size) (hone : ∀ v ∈ z.cells.toList, one v) {n : Nat} (hn : n * info.bytes ≤ mostBytes) :
    Yld P t tx ty e info z (.int kq n) n (Builtin.zeroCells z.cells n).toList w := by
  have hsm := small_of_bytes hbytes hn
  have hwr := wrap_small hsm
  have hlen : (Builtin.zeroCells z.cells n).toList.length = n * info.size := by rw [Array.length_toList, size_zeroCells, hzs]
  have hneg : ¬ ((n : Int) < 0) := by omega
  have hw0 : IntKind.i64.wrap 0 = 0 := rfl
  have h48i : ¬ (281474976710656 < (n : Int) * (info.bytes : Int)) := by
    rw [← Int.natCast_mul]
    simp only [mostBytes] at hn
    omega
  refine ⟨?_, ?_, ?_, hlen⟩
  · intro h0 base sLen sCap hle
    subst h0
    cases base <;> simp [Builtin.append_, run_underlying ht, run_underlying hk, sizeOf, typeInfo, hi, asInt, asIntOf, hw0, hwr, hneg, h48i, hle, storeCells]
  · intro a sLen sCap cells tt hsp hg hfit hroom
    have h1 : ∀ u ∈ (Builtin.zeroCells z.cells n).toList, u.oneCell' = true := by
      intro u hu
      simp only [Builtin.zeroCells, Array.toList_map, List.mem_map] at hu
      obtain ⟨i, _, rfl⟩ := hu
      have hpos : 0 < z.cells.size := by omega
      have hlt : i % z.cells.size < z.cells.size := Nat.mod_lt _ hpos
      rw [getElem!_pos z.cells _ hlt]
      exact hone _ (by simp)
    have hst := run_storeCells_at P a.block (a.off + sLen * info.size) tt _ 0 cells w hg (by simpa using hfit) h1
    simp only [Nat.add_zero] at hst
    have ha' : a = ⟨a.block, a.off, none⟩ := by cases a; simp_all
    have hadd : a.add (sLen * info.size) = ⟨a.block, a.off + sLen * info.size, none⟩ := by rw [ha', add_plain]
    by_cases h0 : n = 0
    · subst h0
      have hz0 : (Builtin.zeroCells z.cells 0) = #[] := by simp [Builtin.zeroCells]
      rw [hz0] at hst ⊢
      simp only [List.length_nil, Nat.add_zero, List.append_nil, List.take_append_drop, Array.toArray_toList, storeCells] at hst ⊢
      rw [setRow_self w a.block cells tt (0, 0) hg]
      simp [Builtin.append_, run_underlying ht, run_underlying hk, sizeOf, typeInfo, hi, asInt, asIntOf, hw0, hwr, hneg, h48i, hroom, storeCells]
      omega
    · have hns : ¬ (n * info.size = 0) := Nat.mul_ne_zero h0 (by omega)
      simp [Builtin.append_, run_underlying ht, run_underlying hk, sizeOf, typeInfo, zeroValue, hi, hz, asInt, asIntOf, hw0, hwr, hneg, h48i, hns, hroom, hadd, hst]
  · intro base sLen sCap olds hold hg hb
    have := small_of_bytes hbytes hb
    by_cases h0 : n = 0
    · subst h0
      -- nothing more, and still too little room: what was there is read whole
      have hn' : ¬ (sLen ≤ sCap) := by omega
      have h63' : ¬ (9223372036854775807 < (sLen : Int)) := by omega
      have h48' : ¬ (281474976710656 < Builtin.nextslicecap sLen sCap * info.bytes) := by
        have := growslice_fits (need := sLen) (old := sCap) (bytes := info.bytes) (by omega) (by simpa [mostBytes] using hb)
        omega
      have hz0 : (Builtin.zeroCells z.cells 0) = #[] := by simp [Builtin.zeroCells]
      simp [Builtin.append_, run_underlying ht, run_underlying hk, sizeOf, typeInfo, zeroValue, hi, hz, asInt, asIntOf, hw0, hwr, hneg, h48i, hn', h63', h48', Question.forced, hold, newRow, grownCap, hz0]
    · rw [Lib.run_append_grow_zeros w t tx ty e info z kq kn ht hk hi hz base sLen sCap olds hold n (by omega) hs hg (by omega) (by simp only [mostBytes] at hn; omega) (growslice_fits hg (by simpa [mostBytes] using hb))]
      congr 3
      apply Array.ext'
      simp
theorem flat_mem {α : Type} {sz : Nat} {F : List (List α)} (h : (F.all fun y => y.length == sz) = true) : ∀ c ∈ F, c.length = sz := by
  intro c hc
  have := List.all_eq_true.1 h c hc
  simpa using this
/-- What a row holds whose first cells are related to a list of elements. -/
theorem row_cells {sz : Nat} {F : List (List AV)} {vs : List Value} {cells : Array Value} {o : Nat} (hF : ∀ c ∈ F, c.length = sz) (hc : CRL L F.flatten vs) (hcells : ∀ k v, vs[k]? = some v → cells[o + k]? = some v) :
    ∀ e es, F[e]? = some es → es.length = sz ∧ ∀ j x, es[j]? = some x → ∃ v, cells[o + e * sz + j]? = some v ∧ VR L x v ∧ one v := by
  intro e es he
  refine ⟨hF es (List.mem_of_getElem? he), fun j x hx => ?_⟩
  obtain ⟨v, h1, h2, h3⟩ := hc.get (flat_get hF he hx)
  exact ⟨v, by rw [Nat.add_assoc]; exact hcells _ _ h1, h2, h3⟩
theorem DR_cells {b sz : Nat} {l : List (List Dat)} {o : Nat} (hi : ∀ b o v, L.imm b o = some v → w.cell? ⟨b, o, none⟩ = some v) (h : DRE L b o sz l) : ∀ (i : Nat) (c : List AV), (l.map (·.map AV.d))[i]? = some c → c.length = sz ∧ Cl L w b (o + i * sz) c := by
  intro i c hc
  simp only [List.getElem?_map, Option.map_eq_some_iff] at hc
  obtain ⟨d, hd, rfl⟩ := hc
  obtain ⟨h3, h4⟩ := h.get hd
  exact ⟨by simpa using h3, h4.Cl hi⟩
theorem newRow_ok {nm c need : Nat} {cells : Array Value} {t : TypeId} {sz : Nat} {F : List (List AV)} {vs rest : List Value} (R : Rel base L H w) (hp : Pushed w w' (.cells cells t (0, 0))) (hf : Fresh L nm) (hn : H nm = none)
    (hcells : cells.toList = vs ++ rest) (hF : ∀ c ∈ F, c.length = sz) (hc : CRL L F.flatten vs) (hlen : F.length = need) (hge : need ≤ c) (hsize : c * sz ≤ cells.size) :
    VR (L.addMem nm 0 (⟨w.heap.size, 0, none⟩, sz, F.length, c)) (.rs nm 0 sz 0 need) (.slice (some ⟨w.heap.size, 0, none⟩) need c) ∧
    Nx base (· = nm) L H w (L.addMem nm 0 (⟨w.heap.size, 0, none⟩, sz, F.length, c)) (H.set nm (.mem 0 0 sz F)) w' := by
  refine ⟨?_, Nx.newMem R hp hf hn (by omega) hsize ?_⟩
  · simp only [VR]
    exact ⟨⟨w.heap.size, 0, none⟩, F.length, c, ⟨w.heap.size, 0, none⟩, by simp [Lo.addMem], by simp, by omega, by omega, fun _ => by simp⟩
  · have := row_cells (L := L) (o := 0) (cells := cells) hF hc (fun k v hv => by
      rw [Nat.zero_add, ← Array.getElem?_toList, hcells, List.getElem?_append_left ((List.getElem?_eq_some_iff.1 hv).1)]
      exact hv)
    intro e es he
    simpa using this e es he
theorem zeros_size {z : Array Value} {sz a b : Nat} (hz : z.size = sz) {vs : List Value} (hv : vs.length = a * sz) (h : a ≤ b) : b * sz ≤ (vs.toArray ++ Builtin.zeroCells z (b - a)).size := by
  simp only [Array.size_append, List.size_toArray, size_zeroCells, hz, hv, ← Nat.add_mul]
  exact Nat.mul_le_mul_right _ (by omega)
/-- A row of elements is written anew, in its place. -/
theorem Nx.rows {i ver fro sz c off : Nat} {l F : List (List AV)} {b : Addr} {cells : Array Value} {tt : TypeId} {vs : List Value} (R : Rel base L H w) (hH : H i = some (.mem ver fro sz l)) (m : MemOk base L w i ver fro sz l b c)
    (k1 : w.heap[b.block]? = some (.cells cells tt (0, 0))) (k2 : b.off + c * sz ≤ cells.size)
    (k3 : ∀ e es, l[e]? = some es → es.length = sz ∧ ∀ j x, es[j]? = some x → ∃ v, cells[b.off + e * sz + j]? = some v ∧ VR L x v ∧ one v ∧ (e < fro → L.imm b.block (b.off + e * sz + j) = some v))
    (hfro : fro ≤ off) (hfit : off + F.length ≤ l.length) (hF : ∀ cc ∈ F, cc.length = sz) (hc : CRL L F.flatten vs) :
    b.off + off * sz + vs.length ≤ cells.size ∧ Nx base (fun _ => False) L H w L (H.set i (.mem ver fro sz (l.take off ++ F ++ l.drop (off + F.length)))) (w.setRow b.block (cells.toList.take (b.off + off * sz) ++ vs ++ cells.toList.drop (b.off + off * sz + vs.length)).toArray) := by
  have hvl : vs.length = F.length * sz := by rw [← hc.length, flat_len hF]
  have hmul : off * sz + F.length * sz ≤ c * sz := by
    have : (off + F.length) * sz ≤ c * sz := Nat.mul_le_mul_right _ (by have := m.cap; omega)
    rwa [Nat.add_mul] at this
  have hfitc : b.off + off * sz + vs.length ≤ cells.toList.length := by have hcl : cells.toList.length = cells.size := Array.length_toList; omega
  refine ⟨by have hcl : cells.toList.length = cells.size := Array.length_toList; omega, Nx.rewrite R hH m k1 ?_ rfl (.refl L) rfl (fun _ _ _ h => .inl h) rfl ?_ ?_⟩
  rotate_left 2
  · simp [blk, m.loc]
  · intro q hq
    have hfe : fro * sz ≤ off * sz := Nat.mul_le_mul_right _ hfro
    simp only [List.getElem?_toArray]
    rw [seg_get _ _ _ _ hfitc, if_pos (by omega), Array.getElem?_toList]
  · have hll : (l.take off ++ F ++ l.drop (off + F.length)).length = l.length := by simp; omega
    refine ⟨b, c, by rw [hll]; exact m.loc, by rw [hll]; exact m.cap, m.spot, m.base, ⟨_, tt, setRow_heap w _ cells _ tt (0, 0) k1, ?_, ?_⟩, fun o ho => m.free o ho, fun v hv => m.last v hv, m.orig⟩
    · simp; omega
    · intro e es he
      rw [seg_get _ _ _ _ hfit] at he
      have old : ¬ (off ≤ e ∧ e < off + F.length) → l[e]? = some es → es.length = sz ∧ ∀ j x, es[j]? = some x → ∃ v, (cells.toList.take (b.off + off * sz) ++ vs ++ cells.toList.drop (b.off + off * sz + vs.length)).toArray[b.off + e * sz + j]? = some v ∧ VR L x v ∧ one v ∧ (e < fro → L.imm b.block (b.off + e * sz + j) = some v) := fun hne he => by
        obtain ⟨k6, k7⟩ := k3 e es he
        refine ⟨k6, fun j x hx => ?_⟩
        obtain ⟨u, g1, g2, g3, g4⟩ := k7 j x hx
        have hj : j < sz := by rw [← k6]; exact (List.getElem?_eq_some_iff.1 hx).1
        refine ⟨u, ?_, g2, g3, g4⟩
        simp only [List.getElem?_toArray]
        rw [seg_get _ _ _ _ hfitc, Array.getElem?_toList]
        rcases Nat.lt_or_ge e off with hlt | hge
        · have : (e + 1) * sz ≤ off * sz := Nat.mul_le_mul_right _ hlt
          rw [Nat.add_mul, Nat.one_mul] at this
          rw [if_pos (by omega)]; exact g1
        · have h5 : off + F.length ≤ e := by omega
          have : (off + F.length) * sz ≤ e * sz := Nat.mul_le_mul_right _ h5
          rw [Nat.add_mul] at this
          rw [if_neg (by omega), if_neg (by omega)]; exact g1
      split at he
      · rename_i h1
        exact old (by omega) he
      · rename_i h1
        split at he
        · rename_i h2
          have hlen : es.length = sz := hF es (List.mem_of_getElem? he)
          refine ⟨hlen, fun j x hx => ?_⟩
          have hfl : F.flatten[(e - off) * sz + j]? = some x := flat_get hF he hx
          obtain ⟨u, g1, g2, g3⟩ := hc.get hfl
          have hj : j < sz := by rw [← hlen]; exact (List.getElem?_eq_some_iff.1 hx).1
          have he2 : e * sz = off * sz + (e - off) * sz := by rw [← Nat.add_mul]; congr 1; omega
          have hlt := (List.getElem?_eq_some_iff.1 g1).1
          refine ⟨u, ?_, g2, g3, fun h => by omega⟩
          simp only [List.getElem?_toArray]
          rw [seg_get _ _ _ _ hfitc, if_neg (by omega), if_pos (by omega), show b.off + e * sz + j - (b.off + off * sz) = (e - off) * sz + j by omega]
          exact g1
        · rename_i h2
          exact old (by omega) he
theorem app_sound {t tx ty e : TypeId} {info : TypeInfo} {z : Value} {x : Value} {n : Nat} {news : List Value} (R : Rel base L H w) (hy : Yld P t tx ty e info z x n news w) (hzs : z.cells.size = info.size) (hs0 : 0 < info.size)
    {ys : List (List AV)} (hn : ys.length = n) (hys : ∀ y ∈ ys, y.length = info.size) (hc : CRL L ys.flatten news) {nm : Nat} (hf : Fresh L nm) (hHn : H nm = none)
    {s av : AV} {us : Ups} {u : Value} (hs : VR L s u) (h : appA info.size info.bytes s ys H nm = some (av, us)) :
    ∃ r w' L', (Builtin.append_ #[t, tx] ty #[u, x]).run P w = .ok r w' ∧ VR L' av r ∧ Nx base (· = nm) L H w L' (H.sets us) w' := by
  have hnl : news.length = n * info.size := hy.len
  unfold appA at h
  split at h
  · -- nil
    simp only [VR, DR] at hs
    obtain ⟨A, cap, rfl, _, h1, _⟩ := hs
    obtain ⟨rfl, rfl⟩ := h1 trivial
    split at h
    · simp only [Option.some.injEq, Prod.mk.injEq] at h
      obtain ⟨rfl, rfl⟩ := h
      refine ⟨_, w, L, hy.nothing (by simpa using hn.symm) none 0 0 (Nat.le_refl _), ?_, Nx.refl R⟩
      simp only [VR, DR]
      exact ⟨none, 0, rfl, Nat.le_refl _, (fun _ => ⟨rfl, rfl⟩), (fun h => by cases h)⟩
    · rename_i y r
      split at h
      · rename_i hb
        simp only [Option.some.injEq, Prod.mk.injEq] at h
        obtain ⟨rfl, rfl⟩ := h
        have hpos : 0 < n := by rw [← hn]; simp
        have hg := hy.grow none 0 0 [] (by simp [Builtin.firstCells]) (by omega) (by rw [Nat.zero_add, ← hn]; exact hb)
        simp only [Nat.zero_add, List.nil_append] at hg
        obtain ⟨h1, h2⟩ := newRow_ok (vs := news) (need := n) (c := grownCap w n 0 e) R (w' := w.drew.alloc (.cells (news.toArray ++ Builtin.zeroCells z.cells (grownCap w n 0 e - n)) e)) ⟨rfl, rfl, rfl, rfl⟩ hf hHn (Array.toList_append) hys hc hn (grownCap_ge w n 0 e) (zeros_size hzs hnl (grownCap_ge w n 0 e))
        refine ⟨_, _, _, hg, ?_, h2⟩
        simpa only [hn] using h1
      · cases h
  · -- a literal
    rename_i l
    have hs' := hs
    simp only [VR] at hs
    obtain ⟨a, rfl, hl⟩ := hs
    split at h
    · simp only [Option.some.injEq, Prod.mk.injEq] at h
      obtain ⟨rfl, rfl⟩ := h
      exact ⟨_, w, L, hy.nothing (by simpa using hn.symm) _ _ _ (Nat.le_refl _), hs', Nx.refl R⟩
    · rename_i y r
      split at h
      · rename_i hb
        obtain ⟨hb, hall⟩ := hb
        simp only [Option.some.injEq, Prod.mk.injEq] at h
        obtain ⟨rfl, rfl⟩ := h
        have hpos : 0 < n := by rw [← hn]; simp
        have hlm : ∀ c ∈ l.map (·.map AV.d), c.length = info.size := by
          intro c hc'
          obtain ⟨d, hd, rfl⟩ := List.mem_map.1 hc'
          have := List.all_eq_true.1 hall d hd
          simpa using this
        have hold : ∃ olds : List Value, CRL L (l.map (·.map AV.d)).flatten olds ∧ (Builtin.firstCells info.size l.length (.slice (some a) l.length l.length)).run P w.drew = .ok olds.toArray w.drew := by
          rcases hl with rfl | ⟨hsp, sz, hd⟩
          · exact ⟨[], by simp [CRL], by simp [Builtin.firstCells, loadCells, loadCellsFrom]⟩
          · by_cases h0 : l = []
            · subst h0; exact ⟨[], by simp [CRL], by simp [Builtin.firstCells, loadCells, loadCellsFrom]⟩
            · have hsz : sz = info.size := by
                obtain ⟨d, l', rfl⟩ := List.exists_cons_of_ne_nil h0
                simp only [DRE] at hd
                have := hlm (d.map AV.d) (by simp)
                rw [← this, List.length_map, hd.1]
              subst hsz
              have hcl : Cl L w.drew a.block a.off (l.map (·.map AV.d)).flatten := Cl.flat (DR_cells (w := w.drew) (fun b o v hv => R.imm _ _ _ hv) hd)
              obtain ⟨vs, g1, g2⟩ := run_loadCells_Cl (P := P) hcl
              rw [flat_len hlm, List.length_map] at g2
              have ha' : a = ⟨a.block, a.off, none⟩ := by cases a; simp_all
              refine ⟨vs, g1, ?_⟩
              rw [← ha'] at g2
              exact g2
        obtain ⟨olds, ho1, ho2⟩ := hold
        have hol : olds.length = l.length * info.size := by rw [← ho1.length, flat_len hlm, List.length_map]
        have hg := hy.grow (some a) l.length l.length olds ho2 (by omega) (by rw [← hn]; exact hb)
        have hFc : CRL L ((l.map (·.map AV.d)) ++ (y :: r)).flatten (olds ++ news) := by rw [List.flatten_append]; exact ho1.app hc
        have hF : ∀ c ∈ (l.map (·.map AV.d)) ++ (y :: r), c.length = info.size := by
          intro c hc'
          rcases List.mem_append.1 hc' with h1 | h1
          · exact hlm c h1
          · exact hys c h1
        obtain ⟨h1, h2⟩ := newRow_ok (vs := olds ++ news) (need := l.length + n) (c := grownCap w (l.length + n) l.length e) R
          (w' := w.drew.alloc (.cells ((olds ++ news).toArray ++ Builtin.zeroCells z.cells (grownCap w (l.length + n) l.length e - (l.length + n))) e)) ⟨rfl, rfl, rfl, rfl⟩ hf hHn (Array.toList_append) hF hFc
          (by rw [List.length_append, List.length_map, hn]) (grownCap_ge w (l.length + n) l.length e) (zeros_size hzs (by rw [List.length_append, hol, hnl, Nat.add_mul]) (grownCap_ge w (l.length + n) l.length e))
        refine ⟨_, _, _, hg, ?_, h2⟩
        simpa only [hn] using h1
      · cases h
  · -- a slice of our own
    rename_i i ver sz0 off len
    split at h
    · rename_i ver' fro esz' l hH
      split at h
      · rename_i hcond
        obtain ⟨rfl, rfl, hfro, hfit⟩ := hcond
        simp only [Option.some.injEq, Prod.mk.injEq] at h
        obtain ⟨rfl, rfl⟩ := h
        obtain ⟨b, c, m⟩ := R.mem _ _ _ _ _ hH
        simp only [VR] at hs
        obtain ⟨b', n', c', a, h1, rfl, h2, h3, h4⟩ := hs
        have hloc := m.loc
        rw [m.loc] at h1
        simp only [Option.some.injEq, Prod.mk.injEq] at h1
        obtain ⟨rfl, rfl, rfl, rfl⟩ := h1
        obtain ⟨cells, tt, k1, k2, k3⟩ := m.cells
        obtain ⟨g1, g2⟩ := Nx.rows R hH m k1 k2 k3 hfro hfit hys hc
        have hcap := m.cap
        have hpos2 : b.off + off * info.size + len * info.size = b.off + (off + len) * info.size := by rw [Nat.add_mul]; omega
        by_cases h0 : off < c
        · have ha := h4 h0
          have hr := hy.room a len (c - off) cells tt (by rw [ha]) (by rw [ha]; exact k1) (by rw [ha]; show b.off + off * info.size + len * info.size + news.length ≤ _; rw [hpos2]; exact g1) (by omega)
          have hab : a.block = b.block := by rw [ha]
          have hao : a.off = b.off + off * info.size := by rw [ha]
          rw [hab, hao, hpos2] at hr
          refine ⟨_, _, L, hr, ?_, g2.imp (fun _ h => h.elim)⟩
          simp only [VR]
          exact ⟨b, l.length, c, a, hloc, by rw [hn], by omega, hcap, h4⟩
        · have hn0 : n = 0 := by omega
          have hr := hy.nothing hn0 (some a) len (c - off) (by omega)
          have hnn : news = [] := by apply List.eq_nil_of_length_eq_zero; rw [hnl, hn0]; simp
          have hys0 : ys = [] := List.eq_nil_of_length_eq_zero (by omega)
          subst hnn hys0
          simp only [List.append_nil, List.length_nil, Nat.add_zero, List.take_append_drop, Array.toArray_toList] at g2
          rw [setRow_self w _ cells tt (0, 0) k1] at g2
          refine ⟨_, _, L, hr, ?_, ?_⟩
          · simp only [VR]
            exact ⟨b, l.length, c, a, hloc, by simp, by simp; omega, hcap, h4⟩
          · simp only [List.append_nil, List.length_nil, Nat.add_zero, List.take_append_drop]
            exact g2.imp (fun _ h => h.elim)
      split at h
      · rename_i hcond
        obtain ⟨rfl, rfl, hfro, hfit, hb⟩ := hcond
        simp only [Option.some.injEq, Prod.mk.injEq] at h
        obtain ⟨rfl, rfl⟩ := h
        obtain ⟨b, c, m⟩ := R.mem _ _ _ _ _ hH
        simp only [VR] at hs
        obtain ⟨b', n', c', a, h1, rfl, h2, h3, h4⟩ := hs
        rw [m.loc] at h1
        simp only [Option.some.injEq, Prod.mk.injEq] at h1
        obtain ⟨rfl, rfl, rfl, rfl⟩ := h1
        obtain ⟨cells, tt, k1, k2, k3⟩ := m.cells
        have hnone : L.mem i (ver + 1) = none := m.last _ (by omega)
        have holdsF : ∀ cc ∈ (l.drop off).take len, cc.length = info.size := by
          intro cc hcc
          obtain ⟨q, hq⟩ := List.getElem?_of_mem (List.mem_of_mem_take hcc)
          rw [List.getElem?_drop] at hq
          exact (k3 _ _ hq).1
        have hdl : ((l.drop off).take len).length = len := by simp; omega
        have hF : ∀ cc ∈ (l.drop off).take len ++ ys, cc.length = info.size := by
          intro cc hcc
          rcases List.mem_append.1 hcc with h1 | h1
          · exact holdsF cc h1
          · exact hys cc h1
        have hget : ∀ e, e < len → ((l.drop off).take len ++ ys)[e]? = l[off + e]? := by
          intro e he
          rw [List.getElem?_append_left (by omega), List.getElem?_take, if_pos he, List.getElem?_drop]
        by_cases hroom : len + n ≤ c - off
        · -- in its place
          have hfit2 : b.off + off * info.size + len * info.size + news.length ≤ cells.size := by
            have : (off + len + n) * info.size ≤ c * info.size := Nat.mul_le_mul_right _ (by omega)
            rw [Nat.add_mul, Nat.add_mul] at this
            rw [hnl]; omega
          have mk : ∀ (cells' : Array Value) (w' : World), w' = w.setRow b.block cells' → cells'.size = cells.size → (∀ k, k < b.off + (off + len) * info.size → cells'[k]? = cells[k]?) → (∀ k v, news[k]? = some v → cells'[b.off + (off + len) * info.size + k]? = some v) →
              VR (L.addMem i (ver + 1) (⟨b.block, b.off + off * info.size, none⟩, info.size, len + n, c - off)) (.rs i (ver + 1) info.size 0 (len + n)) (.slice (some a) (len + n) (c - off)) ∧
              Nx base (· = nm) L H w (L.addMem i (ver + 1) (⟨b.block, b.off + off * info.size, none⟩, info.size, len + n, c - off)) (H.set i (.mem (ver + 1) (fro - off) info.size ((l.drop off).take len ++ ys))) w' := by
            intro cells' w' hw hsz hlow hnew
            have hle := L.le_addMem (x := (⟨b.block, b.off + off * info.size, none⟩, info.size, len + n, c - off)) hnone
            have hloc : (L.addMem i (ver + 1) (⟨b.block, b.off + off * info.size, none⟩, info.size, len + n, c - off)).mem i (ver + 1) = some (⟨b.block, b.off + off * info.size, none⟩, info.size, len + n, c - off) := by simp [Lo.addMem]
            have hlen' : ((l.drop off).take len ++ ys).length = len + n := by rw [List.length_append, hdl, hn]
            refine ⟨?_, (Nx.rewrite (cells' := cells') R hH m k1 ?_ hw hle rfl ?_ rfl ?_ ?_).imp (fun _ h => h.elim)⟩
            · simp only [VR]
              refine ⟨_, _, _, a, hloc, by simp, by omega, by omega, fun h0 => ?_⟩
              simp only [Nat.zero_mul, Nat.add_zero]
              exact h4 (by omega)
            · intro k hk
              refine hlow k ?_
              have : fro * info.size ≤ (off + len) * info.size := Nat.mul_le_mul_right _ hfro
              omega
            · intro j v x hx
              simp only [Lo.addMem] at hx
              split at hx
              · rename_i e; exact .inr e.1
              · exact .inl hx
            · refine ⟨⟨b.block, b.off + off * info.size, none⟩, c - off, by rw [hlen']; exact hloc, by rw [hlen']; exact hroom, rfl, m.base, ⟨cells', tt, by rw [hw]; exact setRow_heap w _ cells _ tt (0, 0) k1, ?_, ?_⟩, ?_, ?_, fun h => by omega⟩
              · show b.off + off * info.size + (c - off) * info.size ≤ _
                have : (off + (c - off)) * info.size = c * info.size := by congr 1; omega
                rw [Nat.add_mul] at this
                rw [hsz]; omega
              · intro e es he
                refine ⟨hF es (List.mem_of_getElem? he), fun j x hx => ?_⟩
                have hj : j < info.size := by rw [← hF es (List.mem_of_getElem? he)]; exact (List.getElem?_eq_some_iff.1 hx).1
                show ∃ v, cells'[b.off + off * info.size + e * info.size + j]? = some v ∧ _ ∧ _ ∧ (_ → L.imm b.block (b.off + off * info.size + e * info.size + j) = some v)
                have hidx : b.off + off * info.size + e * info.size + j = b.off + (off + e) * info.size + j := by rw [Nat.add_mul]; omega
                rw [hidx]
                rcases Nat.lt_or_ge e len with hel | hel
                · rw [hget e hel] at he
                  obtain ⟨v, g1, g2, g3, g4⟩ := (k3 _ _ he).2 j x hx
                  have : (off + e + 1) * info.size ≤ (off + len) * info.size := Nat.mul_le_mul_right _ (by omega)
                  rw [Nat.add_mul, Nat.one_mul] at this
                  exact ⟨v, by rw [hlow _ (by omega)]; exact g1, VR.mono hle _ _ g2, g3, fun hf' => g4 (by omega)⟩
                · rw [List.getElem?_append_right (by omega), hdl] at he
                  obtain ⟨v, g1, g2, g3⟩ := hc.get (flat_get hys he hx)
                  refine ⟨v, ?_, VR.mono hle _ _ g2, g3, fun hf' => by omega⟩
                  have := hnew _ _ g1
                  have e1 : (off + e) * info.size = (off + len) * info.size + (e - len) * info.size := by rw [← Nat.add_mul]; congr 1; omega
                  rw [e1, ← Nat.add_assoc]
                  rwa [← Nat.add_assoc] at this
              · intro o ho
                refine m.free o ?_
                have : fro * info.size ≤ (off + (fro - off)) * info.size := Nat.mul_le_mul_right _ (by omega)
                rw [Nat.add_mul] at this
                simp only at ho
                omega
              · intro v hv
                simp only [Lo.addMem]
                rw [if_neg (by omega)]
                exact m.last v (by omega)
            · simp [blk, hloc]
          by_cases h0 : off < c
          · have ha := h4 h0
            have hr := hy.room a len (c - off) cells tt (by rw [ha]) (by rw [ha]; exact k1) (by rw [ha]; exact hfit2) hroom
            have hab : a.block = b.block := by rw [ha]
            have hao : a.off = b.off + off * info.size := by rw [ha]
            rw [hab, hao] at hr
            have hpos : b.off + off * info.size + len * info.size = b.off + (off + len) * info.size := by rw [Nat.add_mul]; omega
            rw [hpos] at hr hfit2
            obtain ⟨g1, g2⟩ := mk (List.take (b.off + (off + len) * info.size) cells.toList ++ news ++ List.drop (b.off + (off + len) * info.size + news.length) cells.toList).toArray _ rfl (by simp; omega) (fun k hk => by
              simp only [List.getElem?_toArray]
              rw [seg_get _ _ _ _ (by simpa using hfit2), if_pos hk, Array.getElem?_toList]) (fun k v hv => by
              have hlt := (List.getElem?_eq_some_iff.1 hv).1
              simp only [List.getElem?_toArray]
              rw [seg_get _ _ _ _ (by simpa using hfit2), if_neg (by omega), if_pos (by omega), show b.off + (off + len) * info.size + k - (b.off + (off + len) * info.size) = k by omega]
              exact hv)
            refine ⟨_, _, _, hr, ?_, g2⟩
            rw [hn]; exact g1
          · have hn0 : n = 0 := by omega
            have hl0 : len = 0 := by omega
            have hr := hy.nothing hn0 (some a) len (c - off) (by omega)
            have hnn : news = [] := by apply List.eq_nil_of_length_eq_zero; rw [hnl, hn0]; simp
            obtain ⟨g1, g2⟩ := mk cells w (setRow_self w _ cells tt (0, 0) k1).symm rfl (fun _ _ => rfl) (fun k v hv => by rw [hnn] at hv; simp at hv)
            refine ⟨_, _, _, hr, ?_, g2⟩
            rw [hn]
            have : len + n = len := by omega
            rw [this] at g1 ⊢
            exact g1
        · -- elsewhere
          have hold : ∃ olds : List Value, CRL L ((l.drop off).take len).flatten olds ∧ (Builtin.firstCells info.size len (.slice (some a) len (c - off))).run P w.drew = .ok olds.toArray w.drew := by
            by_cases h0 : off < c
            · have hcl : Cl L w.drew b.block (b.off + off * info.size) ((l.drop off).take len).flatten := Cl.flat fun j cc hcc => by
                have hj : j < len := by have := (List.getElem?_eq_some_iff.1 hcc).1; omega
                rw [List.getElem?_take, if_pos hj, List.getElem?_drop] at hcc
                have := m.Cl hcc
                refine ⟨this.2, ?_⟩
                have e1 : b.off + off * info.size + j * info.size = b.off + (off + j) * info.size := by rw [Nat.add_mul]; omega
                rw [e1]; exact this.1
              obtain ⟨vs, g1, g2⟩ := run_loadCells_Cl (P := P) hcl
              rw [flat_len holdsF, hdl] at g2
              exact ⟨vs, g1, by rw [h4 h0]; exact g2⟩
            · have hl0 : len = 0 := by omega
              subst hl0
              exact ⟨[], by simp [CRL], by simp [Builtin.firstCells, loadCells, loadCellsFrom]⟩
          obtain ⟨olds, ho1, ho2⟩ := hold
          have hol : olds.length = len * info.size := by rw [← ho1.length, flat_len holdsF, hdl]
          have hg := hy.grow (some a) len (c - off) olds ho2 (by omega) (by rw [← hn]; exact hb)
          have hge := grownCap_ge w (len + n) (c - off) e
          generalize hgc : grownCap w (len + n) (c - off) e = gc at hg hge
          have hFc : CRL L ((l.drop off).take len ++ ys).flatten (olds ++ news) := by rw [List.flatten_append]; exact ho1.app hc
          have hlen' : ((l.drop off).take len ++ ys).length = len + n := by rw [List.length_append, hdl, hn]
          let cells' : Array Value := (olds ++ news).toArray ++ Builtin.zeroCells z.cells (gc - (len + n))
          have hsz' : gc * info.size ≤ cells'.size := zeros_size hzs (by rw [List.length_append, hol, hnl, Nat.add_mul]) hge
          have hp : Pushed w (w.drew.alloc (.cells cells' e)) (.cells cells' e (0, 0)) := ⟨rfl, rfl, rfl, rfl⟩
          let p : Nat → Nat → Option Value := fun bb k => if bb = w.heap.size ∧ k < (fro - off) * info.size then cells'[k]? else none
          let L1 := L.addMem i (ver + 1) (⟨w.heap.size, 0, none⟩, info.size, len + n, gc)
          have hle1 : L.le L1 := L.le_addMem hnone
          have hle : L.le (L1.addImm p) := hle1.trans L1.le_addImm
          have hloc : (L1.addImm p).mem i (ver + 1) = some (⟨w.heap.size, 0, none⟩, info.size, len + n, gc) := by simp [L1, Lo.addMem, Lo.addImm]
          have himm : ∀ bb k v, (L1.addImm p).imm bb k = some v → L.imm bb k = some v ∨ (bb = w.heap.size ∧ k < (fro - off) * info.size ∧ cells'[k]? = some v) := by
            intro bb k v hx
            simp only [Lo.addImm, p] at hx
            split at hx
            · rename_i e'; rw [hx] at e'; exact .inl e'
            · split at hx
              · rename_i e'; exact .inr ⟨e'.1, e'.2, hx⟩
              · cases hx
          have himm' : ∀ k v, k < (fro - off) * info.size → cells'[k]? = some v → (L1.addImm p).imm w.heap.size k = some v := by
            intro k v hk hx
            have : L1.imm w.heap.size k = none := free_new R k
            simp only [Lo.addImm, this, p]
            simp [hk, hx]
          have hrow := row_cells (L := L) (o := 0) (cells := cells') hF hFc (fun k v hv => by
            rw [Nat.zero_add, ← Array.getElem?_toList]
            simp only [cells', Array.toList_append]
            rw [List.getElem?_append_left ((List.getElem?_eq_some_iff.1 hv).1)]
            exact hv)
          refine ⟨_, _, L1.addImm p, hg, ?_, Nx.change R (n := i) ⟨hle, hp.step _, ?_, ?_, ?_, ?_, ?_, ?_, ?_, ?_⟩⟩
          · simp only [VR, hn]
            exact ⟨_, _, _, ⟨w.heap.size, 0, none⟩, hloc, by simp, by omega, hge, fun _ => by simp⟩
          · intro bb k v hv
            rcases himm bb k v hv with hv | ⟨rfl, hk, hv⟩
            · exact cell_push hp.heap (R.imm _ _ _ hv)
            · have hget' := hp.get
              generalize hww : w.drew.alloc (.cells cells' e) = ww at hget'
              show ww.cell? _ = _
              unfold World.cell?
              rw [hget']
              exact hv
          · intro j hj; simp [AHeap.sets, AHeap.set, hj]
          · intro j o bb hj ho hbb
            have hlt := R.own_lt ⟨j, o, ho, hbb⟩
            refine ⟨hp.old hlt, fun k hk => ?_⟩
            cases hx : (L1.addImm p).imm bb k with
            | none => rfl
            | some v =>
              rcases himm bb k v hx with hv | ⟨rfl, _, _⟩
              · rw [hk] at hv; cases hv
              · omega
          · intro o ho
            simp only [AHeap.sets, AHeap.set, if_true, Option.some.injEq] at ho
            subst ho
            refine ⟨⟨⟨w.heap.size, 0, none⟩, gc, by rw [hlen']; exact hloc, by rw [hlen']; exact hge, rfl, R.base, ⟨cells', e, hp.get, by simpa using hsz', ?_⟩, ?_, ?_, fun _ => rfl⟩, ?_⟩
            · intro q es he
              obtain ⟨g1, g2⟩ := hrow q es he
              refine ⟨g1, fun j x hx => ?_⟩
              obtain ⟨v, g3, g4, g5⟩ := g2 j x hx
              have hj : j < info.size := by rw [← g1]; exact (List.getElem?_eq_some_iff.1 hx).1
              refine ⟨v, g3, VR.mono hle _ _ g4, g5, fun hq => ?_⟩
              have : (q + 1) * info.size ≤ (fro - off) * info.size := Nat.mul_le_mul_right _ hq
              rw [Nat.add_mul, Nat.one_mul] at this
              show (L1.addImm p).imm w.heap.size (0 + q * info.size + j) = some v
              exact himm' _ _ (by omega) g3
            · intro o ho
              simp only at ho
              cases hx : (L1.addImm p).imm w.heap.size o with
              | none => rfl
              | some v =>
                rcases himm _ _ v hx with hv | ⟨_, hk, _⟩
                · rw [free_new R o] at hv; cases hv
                · omega
            · intro v hv
              show L1.mem i v = none
              simp only [L1, Lo.addMem]
              rw [if_neg (by omega)]
              exact m.last v (by omega)
            · intro bb hbb
              simp only [blk, hloc, Option.map_some, Option.some.injEq] at hbb
              exact .inl (by omega)
          · intro _; exact .inl (by rw [hH]; rfl)
          · intro j v x hx
            have hx' : L1.mem j v = some x := hx
            simp only [L1, Lo.addMem] at hx'
            split at hx'
            · rename_i e'
              exact .inr ⟨e'.1, Nat.lt_of_lt_of_le (R.fm _ _ _ m.loc) hle.cnt, .inl (by rw [hH]; rfl)⟩
            · exact .inl hx'
          · intro j x hx; exact .inl hx
          · intro bb k v hv
            rcases himm bb k v hv with hv | ⟨rfl, _, _⟩
            · exact .inl hv
            · exact .inr (.inr (Nat.le_refl _))
      · cases h
    · cases h
  · cases h
end Go.AM

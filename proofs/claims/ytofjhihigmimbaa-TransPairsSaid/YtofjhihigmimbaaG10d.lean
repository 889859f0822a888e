/- Several of my texts as one. -/
import Derived.Test.YtofjhihigmimbaaG10c
import Derived.Test.YtofjhihigmimbaaT10d
set_option linter.unnecessarySimpa false
set_option autoImplicit false
set_option maxRecDepth 100000
set_option linter.unusedVariables false
set_option linter.unusedSimpArgs false
namespace Go.Proofs.Ytofjhihigmimbaa
open Go Go.AM Go.Proofs
section
variable {H G H' : AHeap} {D E : Nat → Nat → Prop} {j : Nat} {K K' : AV → AHeap → Prop}
structure Sep (H : AHeap) (D : Nat → Nat → Prop) : Prop where
 dom : ∀ j i, D j i → (H i).isSome
 one : ∀ j j' i, D j i → D j' i → j = j'
theorem only_congr {A B : Nat → Prop} (h : ∀ i, A i → H' i = H i) (ha : ∀ i, A i ↔ B i) : H'.only A = H.only B := by
 funext i
 by_cases hi : A i
 ·rw [only_in hi, only_in ((ha i).1 hi)]; exact h i hi
 ·rw [only_out hi, only_out fun hb => hi ((ha i).2 hb)]
theorem le_keep (hle : AHeap.le H H') {i : Nat} (h : (H i).isSome) : H' i = H i := by
 obtain ⟨o, ho⟩ := Option.isSome_iff_exists.1 h
 rw [ho]; exact hle i o ho
theorem Sep.le (h : Sep H D) (hle : AHeap.le H H') : Sep H' D ∧ ∀ j, H'.only (D j) = H.only (D j) :=
 ⟨⟨fun j i hi => by rw [le_keep hle (h.dom j i hi)]; exact h.dom j i hi, h.one⟩, fun j => only_congr (fun i hi => le_keep hle (h.dom j i hi)) fun i => Iff.rfl⟩
def swp (D : Nat → Nat → Prop) (j : Nat) (A : Nat → Prop) : Nat → Nat → Prop := fun k i => if k = j then A i else D k i
theorem swp_self {A : Nat → Prop} : swp D j A j = A := by funext i; simp [swp]
theorem swp_ne {A : Nat → Prop} {k : Nat} (h : k ≠ j) : swp D j A k = D k := by funext i; simp [swp, h]
theorem Sep.to (h : Sep H D) {A : Nat → Prop} (hd : ∀ i, A i → (H' i).isSome) (hA : ∀ i, A i → D j i ∨ H i = none) (hk : ∀ i, (H i).isSome → ¬ D j i → H' i = H i) :
  Sep H' (swp D j A) ∧ ∀ k, k ≠ j → H'.only (swp D j A k) = H.only (D k) := by
 have keep : ∀ k, k ≠ j → ∀ i, D k i → H' i = H i := fun k hkj i hi => hk i (h.dom k i hi) fun hj => hkj (h.one k j i hi hj)
 refine ⟨⟨fun k i hi => ?_, fun k k' i hi hi' => ?_⟩, fun k hkj => ?_⟩
 ·by_cases hkj : k = j
  ·subst hkj; rw [swp_self] at hi; exact hd i hi
  ·rw [swp_ne hkj] at hi; rw [keep k hkj i hi]; exact h.dom k i hi
 ·by_cases hkj : k = j <;> by_cases hkj' : k' = j
  ·omega
  ·subst hkj; rw [swp_self] at hi; rw [swp_ne hkj'] at hi'
   rcases hA i hi with h1 | h1
   ·exact h.one _ _ i h1 hi'
   ·have := h.dom k' i hi'; rw [h1] at this; cases this
  ·subst hkj'; rw [swp_self] at hi'; rw [swp_ne hkj] at hi
   rcases hA i hi' with h1 | h1
   ·exact h.one _ _ i hi h1
   ·have := h.dom k i hi; rw [h1] at this; cases this
  ·rw [swp_ne hkj] at hi; rw [swp_ne hkj'] at hi'
   exact h.one _ _ i hi hi'
 ·rw [swp_ne hkj]
  exact only_congr (fun i hi => keep k hkj i hi) fun i => Iff.rfl
theorem only_dom {H1 : AHeap} (hle : AHeap.le H1 H') : H'.only (fun i => (H1 i).isSome) = H1 := by
 funext i
 by_cases hi : (H1 i).isSome
 ·rw [only_in (D := fun i => (H1 i).isSome) hi]; exact le_keep hle hi
 ·rw [only_out (D := fun i => (H1 i).isSome) hi]
  cases h : H1 i with
  | none => rfl
  | some o => rw [h] at hi; exact absurd rfl hi
theorem Sep.call {f : FuncId} {ags : List AV} (hs : Sep H D) (j : Nat) (h : CallsA Try.prog f ags (H.only (D j)) K')
  (hk : ∀ v H1 H' D', K' v H1 → Sep H' D' → H'.only (D' j) = H1 → (∀ k, k ≠ j → H'.only (D' k) = H.only (D k)) → K v H') : CallsA Try.prog f ags H K := by
 refine frame_c h fun v H1 H' h1 hle hf hn => ?_
 obtain ⟨s1, s2⟩ := hs.to (j := j) (A := fun i => (H1 i).isSome) (fun i hi => by rw [le_keep hle hi]; exact hi) hn hf
 exact hk v H1 H' _ h1 s1 (by rw [swp_self]; exact only_dom hle) s2
theorem Sep.set (hs : Sep H D) {i : Nat} {o : AObj} (hi : D j i) : Sep (H.set i o) D ∧ (H.set i o).only (D j) = (H.only (D j)).set i o ∧ ∀ k, k ≠ j → (H.set i o).only (D k) = H.only (D k) := by
 refine ⟨⟨fun k x hx => ?_, hs.one⟩, ?_, fun k hk => only_congr (fun x hx => ?_) fun x => Iff.rfl⟩
 ·by_cases he : x = i
  ·subst he; rw [set_self]; rfl
  ·rw [set_ne he]; exact hs.dom k x hx
 ·funext x
  by_cases he : x = i
  ·subst he; rw [only_in hi, set_self, set_self]
  ·rw [set_ne he]
   by_cases hx : D j x
   ·rw [only_in hx, only_in hx, set_ne he]
   ·rw [only_out hx, only_out hx]
 ·have he : x ≠ i := fun he => hk (hs.one k j x hx (he ▸ hi))
  rw [set_ne he]
theorem Sep.new (hs : Sep H D) {i : Nat} {o : AObj} (hi : H i = none) (j : Nat) : Sep (H.set i o) (swp D j fun x => D j x ∨ x = i) ∧ (H.set i o).only (swp D j (fun x => D j x ∨ x = i) j) = (H.only (D j)).set i o ∧ ∀ k, k ≠ j → (H.set i o).only (swp D j (fun x => D j x ∨ x = i) k) = H.only (D k) := by
 obtain ⟨s1, s2⟩ := hs.to (H' := H.set i o) (j := j) (A := fun x => D j x ∨ x = i) (fun x hx => by
  by_cases he : x = i
  ·subst he; rw [set_self]; rfl
  ·rw [set_ne he]; rcases hx with hx | hx
   ·exact hs.dom j x hx
   ·exact absurd hx he) (fun x hx => by
  rcases hx with hx | rfl
  ·exact .inl hx
  ·exact .inr hi) fun x hx hd => by
  have he : x ≠ i := fun he => by subst he; rw [hi] at hx; cases hx
  exact set_ne he
 refine ⟨s1, ?_, s2⟩
 rw [swp_self]
 funext x
 by_cases he : x = i
 ·subst he; rw [only_in (D := fun y => D j y ∨ y = x) (.inr rfl), set_self, set_self]
 ·rw [set_ne he]
  by_cases hx : D j x
  ·rw [only_in (D := fun y => D j y ∨ y = i) (.inl hx), only_in hx, set_ne he]
  ·rw [only_out (D := fun y => D j y ∨ y = i) (fun h => h.elim hx he), only_out hx]
theorem Sep.nil : Sep H fun _ _ => False := ⟨fun _ _ h => h.elim, fun _ _ _ h => h.elim⟩
end
end Go.Proofs.Ytofjhihigmimbaa
namespace Go.Proofs.Ytofjhihigmimbaa
open Go Go.AM Go.Proofs
section
variable {H G H' : AHeap} {V V' : AV → Prop} {m : Nat} {K : AV → AHeap → Prop}
def Mw (V : AV → Prop) (H : AHeap) (m : Nat) : Prop := ∃ es cl, H m = some (.map es cl) ∧ (∀ e ∈ es, (∃ i, e.key = .int .i64 i) ∧ V e.val) ∧ ∀ e ∈ es, e.born < cl
theorem Mw.imp (h : Mw V H m) (hv : ∀ v, V v → V' v) : Mw V' H m := by
 obtain ⟨es, cl, h1, h2, h3⟩ := h
 exact ⟨es, cl, h1, fun e he => ⟨(h2 e he).1, hv _ (h2 e he).2⟩, h3⟩
theorem Mw.keep (h : Mw V H m) (hk : H' m = H m) : Mw V H' m := by
 obtain ⟨es, cl, h1, h2⟩ := h
 exact ⟨es, cl, hk.trans h1, h2⟩
theorem Mw.isM (h : Mw V H m) : ∃ es cl, H m = some (.map es cl) := by obtain ⟨es, cl, h1, _⟩ := h; exact ⟨es, cl, h1⟩
theorem findE_w {k : Int} : ∀ {es : List MEnt} (n : Nat), (∀ e ∈ es, ∃ i, e.key = .int .i64 i) → findE (.int .i64 k) es n = some none ∨ ∃ j e, es[j]? = some e ∧ findE (.int .i64 k) es n = some (some (n + j, e.val))
 | [], n, _ => .inl rfl
 | e :: es, n, h => by
  obtain ⟨i, hi⟩ := h e (List.mem_cons_self ..)
  by_cases hk : k = i
  ·right
   refine ⟨0, e, rfl, ?_⟩
   simp only [findE, hi, hk, keyEq_i, beq_self_eq_true, Nat.add_zero]
  ·rcases findE_w (n + 1) (fun x hx => h x (List.mem_cons_of_mem _ hx)) with h1 | ⟨j, x, h1, h2⟩
   ·left; simp only [findE, hi, keyEq_i, beq_eq_false_iff_ne.2 hk]; exact h1
   ·right
    refine ⟨j + 1, x, h1, ?_⟩
    simp only [findE, hi, keyEq_i, beq_eq_false_iff_ne.2 hk, h2, Option.some.injEq, Prod.mk.injEq, and_true]
    omega
theorem Mw.look (h : Mw V H m) {z : AV} (hz : V z) (k : Int) : ∃ v b, V v ∧ lookA z (.map m) (.d (.int .i64 k)) false H = some v ∧ lookA z (.map m) (.d (.int .i64 k)) true H = some (.tup [v, .d (.bool b)]) := by
 obtain ⟨es, cl, h1, h2, h3⟩ := h
 rcases findE_w (k := k) 0 fun e he => (h2 e he).1 with h4 | ⟨j, e, h4, h5⟩
 ·exact ⟨z, false, hz, by simp [lookA, h1, h4], by simp [lookA, h1, h4]⟩
 ·exact ⟨e.val, true, (h2 e (List.mem_of_getElem? h4)).2, by simp [lookA, h1, h5], by simp [lookA, h1, h5]⟩
theorem mem_modify {f : MEnt → MEnt} {es : List MEnt} {j : Nat} {x : MEnt} (h : x ∈ es.modify j f) : x ∈ es ∨ ∃ y ∈ es, x = f y := by
 obtain ⟨i, hi⟩ := List.getElem?_of_mem h
 rw [List.getElem?_modify] at hi
 cases he : es[i]? with
 | none => rw [he] at hi; simp at hi
 | some y =>
  rw [he] at hi
  by_cases hij : j = i
  ·right; refine ⟨y, List.mem_of_getElem? he, ?_⟩
   simp [hij] at hi; exact hi.symm
  ·left; simp [hij] at hi; exact hi ▸ List.mem_of_getElem? he
theorem Mw.put (h : Mw V H m) {v : AV} (hv : V v) (k : Int) (hs : v.storable = true) (hna : ∀ l, v ≠ .agg l) : ∃ o, muA Try.prog 3 (.map m) (.d (.int .i64 k)) v H = some (.junk, [(m, o)]) ∧ Mw V (H.set m o) m := by
 obtain ⟨es, cl, h1, h2, h3⟩ := h
 have hmu : ∀ us, mapSetA (.map m) (.d (.int .i64 k)) v H = some us → muA Try.prog 3 (.map m) (.d (.int .i64 k)) v H = some (.junk, us) := by
  intro us hu
  simp only [muA, Try.underlying3, keyOk, decide_true, hs, and_self, if_true]
  cases v <;> first | exact absurd rfl (hna _) | simp only [hu]
 rcases findE_w (k := k) 0 fun e he => (h2 e he).1 with h4 | ⟨j, e, h4, h5⟩
 ·refine ⟨.map (es ++ [⟨.int .i64 k, v, cl⟩]) (cl + 1), hmu _ (by simp only [mapSetA, h1, h4]), _, _, set_self, fun e he => ?_, fun e he => ?_⟩
  ·rcases List.mem_append.1 he with he | he
   ·exact h2 e he
   ·rw [List.mem_singleton] at he; rw [he]; exact ⟨⟨k, rfl⟩, hv⟩
  ·rcases List.mem_append.1 he with he | he
   ·have := h3 e he; omega
   ·rw [List.mem_singleton] at he; rw [he]; show cl < cl + 1; omega
 ·refine ⟨.map (es.modify (0 + j) fun e => { e with key := .int .i64 k, val := v }) cl, hmu _ (by simp only [mapSetA, h1, h5]), _, _, set_self, fun e he => ?_, fun e he => ?_⟩
  ·rcases mem_modify he with he | ⟨y, hy, rfl⟩
   ·exact h2 e he
   ·exact ⟨⟨k, rfl⟩, hv⟩
  ·rcases mem_modify he with he | ⟨y, hy, rfl⟩
   ·exact h3 e he
   ·exact h3 y hy
theorem Mw.entry (h : Mw V H m) {z v : AV} (hz : V z) (hv : V v) (k : Int) (hsz : z.storable = true) (hs : v.storable = true) (h1c : oneCell0 v = true) : ∃ o x, ∃ b : Int, meA Try.prog 3 z (.map m) (.d (.int .i64 k)) H = some (.tup [x, .d (.int .i64 b)], [(m, o)]) ∧
  ∃ o', esA (.map m) (.d (.int .i64 b)) v (H.set m o) = some (.junk, [(m, o')]) ∧ Mw V ((H.set m o).set m o') m := by
 obtain ⟨es, cl, h1, h2, h3⟩ := h
 have store : ∀ (es' : List MEnt) (cl' : Nat) (b : Nat), (∀ e ∈ es', (∃ i, e.key = .int .i64 i) ∧ V e.val) → (∀ e ∈ es', e.born < cl') → (∃ e ∈ es', e.born = b) →
   ∃ o', esA (.map m) (.d (.int .i64 (b : Int))) v (H.set m (.map es' cl')) = some (.junk, [(m, o')]) ∧ Mw V ((H.set m (.map es' cl')).set m o') m := by
  rintro es' cl' b g1 g2 ⟨e, he, rfl⟩
  cases hf : es'.findIdx? (fun x => decide ((x.born : Int) = (e.born : Int))) with
  | none =>
   rw [List.findIdx?_eq_none_iff] at hf
   have := hf e he
   simp at this
  | some j =>
   refine ⟨.map (es'.modify j fun e => { e with val := v }) cl', by simp only [esA, hs, h1c, and_self, if_true, set_self, hf], _, _, set_self, fun x hx => ?_, fun x hx => ?_⟩
   ·rcases mem_modify hx with hx | ⟨y, hy, rfl⟩
    ·exact g1 x hx
    ·exact ⟨(g1 y hy).1, hv⟩
   ·rcases mem_modify hx with hx | ⟨y, hy, rfl⟩
    ·exact g2 x hx
    ·exact g2 y hy
 rcases findE_w (k := k) 0 fun e he => (h2 e he).1 with h4 | ⟨j, e, h4, h5⟩
 ·refine ⟨.map (es ++ [⟨.int .i64 k, z, cl⟩]) (cl + 1), z, cl, by simp only [meA, Try.underlying3, keyOk, decide_true, hsz, and_self, if_true, h1, h4], ?_⟩
  refine store _ _ _ (fun e he => ?_) (fun e he => ?_) ⟨_, List.mem_append_right _ (List.mem_singleton.2 rfl), rfl⟩
  ·rcases List.mem_append.1 he with he | he
   ·exact h2 e he
   ·rw [List.mem_singleton] at he; rw [he]; exact ⟨⟨k, rfl⟩, hz⟩
  ·rcases List.mem_append.1 he with he | he
   ·have := h3 e he; omega
   ·rw [List.mem_singleton] at he; rw [he]; show cl < cl + 1; omega
 ·have hj : es[0 + j]? = some e := by rw [Nat.zero_add]; exact h4
  refine ⟨.map (es.modify (0 + j) fun e => { e with key := .int .i64 k }) cl, e.val, e.born, by simp only [meA, Try.underlying3, keyOk, decide_true, hsz, and_self, if_true, h1, h5, hj], ?_⟩
  refine store _ _ _ (fun x hx => ?_) (fun x hx => ?_) ?_
  ·rcases mem_modify hx with hx | ⟨y, hy, rfl⟩
   ·exact h2 x hx
   ·exact ⟨⟨k, rfl⟩, (h2 y hy).2⟩
  ·rcases mem_modify hx with hx | ⟨y, hy, rfl⟩
   ·exact h3 x hx
   ·exact h3 y hy
  ·refine ⟨{ e with key := .int .i64 k }, ?_, rfl⟩
   refine List.mem_of_getElem? (i := 0 + j) ?_
   rw [List.getElem?_modify, hj]
   simp
def Td (H : AHeap) (v : AV) (l : List Int) : Prop :=
 (v = .d (.sl true []) ∧ l = []) ∨ v = .lit (intsD l) ∨ ∃ i ver off L, v = .rs i ver 1 off l.length ∧ H i = some (.mem ver 0 1 L) ∧ (L.drop off).take l.length = avs (intsD l) ∧ off + l.length ≤ L.length
theorem Td.keep {v : AV} {l : List Int} (h : Td H v l) (hk : ∀ i, idOf v = some i → H' i = H i) : Td H' v l := by
 rcases h with h | h | ⟨i, ver, off, L, rfl, h1, h2⟩
 ·exact .inl h
 ·exact .inr (.inl h)
 ·exact .inr (.inr ⟨i, ver, off, L, rfl, (hk i rfl).trans h1, h2⟩)
end
end Go.Proofs.Ytofjhihigmimbaa
namespace Go.Proofs.Ytofjhihigmimbaa
open Go Go.AM Go.Proofs
def AnsP (G : AHeap) (v : AV) (ps : List (Bool × List UInt8)) : Prop := (v = .d (.sl true []) ∧ ps = []) ∨ v = .lit (pcD ps) ∨ ∃ (i ver fro : Nat) (L : List (List AV)), v = .rs i ver 1 0 ps.length ∧ G i = some (.mem ver fro 1 L) ∧ L.take ps.length = avs (pcD ps) ∧ ps.length ≤ L.length
def AnsV (G : AHeap) (w v : AV) : Prop := ∃ ps, AnsP G v ps ∧ ps.length ≤ 20 ∧ (∀ x ∈ ps, x.2.length ≤ 200 ∧ (x.1 = true → x.2 = [])) ∧ ∀ i, idOf v = some i → idOf w ≠ some i
def So (G : AHeap) (v : AV) (n : Nat) : Prop := ∃ l : List Tr, Own noHeap 8 G v (l.map Tr.dats) ∧ (∀ t ∈ l, t.nl = true → t.data = []) ∧ l.length ≤ 200 * n
def To (G : AHeap) (v : AV) (n : Nat) : Prop := ∃ l : List Int, Td G v l ∧ l.length ≤ n
def isB (v : AV) : Prop := ∃ b, v = .d (.bool b)
def isI (v : AV) : Prop := ∃ i, v = .d (.int .i64 i)
structure Mo where
 k : Nat
 s : Nat
 r : Nat
 q : Nat
 vS : AV
 vA : AV
 vT : AV
 m1 : Nat
 m2 : Nat
 m3 : Nat
 m4 : Nat
 m5 : Nat
 now : Int
 late : Bool
abbrev Mo.cells (x : Mo) : List AV := [.ptr x.k 0 0 0, .ptr x.s 0 0 0, .ptr x.r 0 0 0, .ptr x.q 0 0 0, x.vS, x.vA, x.vT, .map x.m1, .map x.m2, .map x.m3, .map x.m4, .map x.m5, .d (.int .i64 x.now), .d (.bool x.late), .d (.bool false)]
abbrev Mo.obj (x : Mo) : AObj := .mem 0 0 15 [x.cells]
structure Mn (G : AHeap) (p : Nat) (x : Mo) (n : Nat) : Prop where
 obj : G p = some x.obj
 S : So G x.vS n
 A : So G x.vA n
 ne : ∀ i, idOf x.vS = some i → idOf x.vA ≠ some i
 T : To G x.vT n
 c1 : Mw isB G x.m1
 c2 : Mw isI G x.m2
 c3 : Mw isI G x.m3
 c4 : Mw (AnsV G x.vT) G x.m4
 c5 : Mw isI G x.m5
 ms : [x.m1, x.m2, x.m3, x.m4, x.m5].Nodup
section
variable {H G G' : AHeap} {p n n' : Nat} {x x' : Mo} {v w : AV}
theorem So.keep (h : So G v n) (hk : ∀ i, idOf v = some i → G' i = G i) : So G' v n := by
 obtain ⟨l, h1, h2⟩ := h
 exact ⟨l, h1.other noHeap_le hk, h2⟩
theorem So.mono (h : So G v n) (hn : n ≤ n') : So G v n' := by
 obtain ⟨l, h1, h2, h3⟩ := h
 exact ⟨l, h1, h2, by omega⟩
theorem So.at (h : So G v n) {i : Nat} (hi : idOf v = some i) : ∃ o, G i = some o ∧ osz o = 9 := by
 obtain ⟨l, h1, _⟩ := h
 rcases h1.2.2 with ⟨rfl, _⟩ | rfl | ⟨j, ver, L, rfl, h2, _⟩
 ·cases hi
 ·cases hi
 ·cases hi; exact ⟨_, h2, rfl⟩
theorem To.keep (h : To G v n) (hk : ∀ i, idOf v = some i → G' i = G i) : To G' v n := by
 obtain ⟨l, h1, h2⟩ := h
 exact ⟨l, h1.keep hk, h2⟩
theorem To.mono (h : To G v n) (hn : n ≤ n') : To G v n' := by
 obtain ⟨l, h1, h2⟩ := h
 exact ⟨l, h1, by omega⟩
theorem To.at (h : To G v n) {i : Nat} (hi : idOf v = some i) : ∃ o, G i = some o ∧ osz o = 2 := by
 obtain ⟨l, h1, _⟩ := h
 rcases h1 with ⟨rfl, _⟩ | rfl | ⟨j, ver, off, L, rfl, h2, _⟩
 ·cases hi
 ·cases hi
 ·cases hi; exact ⟨_, h2, rfl⟩
theorem AnsP.keep {ps : List (Bool × List UInt8)} (h : AnsP G v ps) (hk : ∀ i o, idOf v = some i → G i = some o → osz o = 2 → G' i = G i) : AnsP G' v ps := by
 rcases h with h | h | ⟨i, ver, fro, L, rfl, h2, h3⟩
 ·exact .inl h
 ·exact .inr (.inl h)
 ·exact .inr (.inr ⟨i, ver, fro, L, rfl, (hk i _ rfl h2 rfl).trans h2, h3⟩)
theorem AnsV.keep (h : AnsV G w v) (hk : ∀ i o, G i = some o → osz o = 2 → idOf w ≠ some i → G' i = G i) : AnsV G' w v := by
 obtain ⟨ps, h1, h2, h3, h4⟩ := h
 exact ⟨ps, h1.keep fun i o hi ho h5 => hk i o ho h5 (h4 i hi), h2, h3, h4⟩
theorem ne_osz {i j : Nat} {a b : AObj} (h1 : G i = some a) (h2 : G j = some b) (h : osz a ≠ osz b) : i ≠ j := fun he => by subst he; rw [h1] at h2; cases h2; exact h rfl
theorem Mn.keep (h : Mn G p x n) (hn : n ≤ n') (hk : ∀ i o, G i = some o → osz o = 16 ∨ osz o = 9 ∨ osz o = 2 ∨ osz o = 0 → G' i = some o) : Mn G' p x n' := by
 have kS : ∀ {v : AV}, So G v n → ∀ i, idOf v = some i → G' i = G i := fun hv i hi => by
  obtain ⟨o, h1, h2⟩ := hv.at hi
  rw [h1]; exact hk i o h1 (.inr (.inl h2))
 have kM : ∀ {V : AV → Prop} {m : Nat}, Mw V G m → G' m = G m := fun hv => by
  obtain ⟨es, cl, h1⟩ := hv.isM
  rw [h1]; exact hk _ _ h1 (.inr (.inr (.inr rfl)))
 refine ⟨hk p _ h.obj (.inl rfl), (h.S.keep (kS h.S)).mono hn, (h.A.keep (kS h.A)).mono hn, h.ne, (h.T.keep fun i hi => ?_).mono hn, h.c1.keep (kM h.c1), h.c2.keep (kM h.c2), h.c3.keep (kM h.c3), (h.c4.imp fun v hv => hv.keep fun i o ho h2 _ => ?_).keep (kM h.c4), h.c5.keep (kM h.c5), h.ms⟩
 ·obtain ⟨o, h1, h2⟩ := h.T.at hi
  rw [h1]; exact hk i o h1 (.inr (.inr (.inl h2)))
 ·rw [ho]; exact hk i o ho (.inr (.inr (.inl h2)))
theorem Mn.le (h : Mn G p x n) (hle : AHeap.le G G') : Mn G' p x n := h.keep (Nat.le_refl n) fun i o hi _ => hle i o hi
theorem Mn.mono (h : Mn G p x n) (hn : n ≤ n') : Mn G p x n' := h.keep hn fun i o hi _ => hi
theorem Mn.setM (h : Mn G p x n) {m : Nat} {o : AObj} (hm : ∃ es cl, G m = some (.map es cl)) (h1 : m = x.m1 → Mw isB (G.set m o) m) (h2 : m = x.m2 → Mw isI (G.set m o) m) (h3 : m = x.m3 → Mw isI (G.set m o) m) (h4 : m = x.m4 → Mw (AnsV (G.set m o) x.vT) (G.set m o) m) (h5 : m = x.m5 → Mw isI (G.set m o) m) : Mn (G.set m o) p x n := by
 obtain ⟨es, cl, hm⟩ := hm
 have kO : ∀ {i : Nat} {o' : AObj}, G i = some o' → osz o' ≠ 0 → (G.set m o) i = G i := fun hi ho => set_ne (ne_osz hi hm (by exact ho))
 have kS : ∀ {v : AV}, So G v n → ∀ i, idOf v = some i → (G.set m o) i = G i := fun hv i hi => by
  obtain ⟨o', g1, g2⟩ := hv.at hi
  exact kO g1 (by omega)
 have kM : ∀ {V : AV → Prop} {j : Nat}, Mw V G j → (m = j → Mw V (G.set m o) m) → Mw V (G.set m o) j := fun {V j} hv hj => by
  by_cases he : m = j
  ·subst he; exact hj rfl
  ·exact hv.keep (set_ne (Ne.symm he))
 refine ⟨(kO h.obj (by simp [osz])).trans h.obj, h.S.keep (kS h.S), h.A.keep (kS h.A), h.ne, h.T.keep fun i hi => ?_, kM h.c1 h1, kM h.c2 h2, kM h.c3 h3, kM (h.c4.imp fun v hv => hv.keep fun i o' ho g2 _ => kO ho (by omega)) h4, kM h.c5 h5, h.ms⟩
 obtain ⟨o', g1, g2⟩ := h.T.at hi
 exact kO g1 (by omega)
structure Mc (G : AHeap) (p : Nat) (x : Mo) : Prop where
 obj : G p = some x.obj
 c1 : Mw isB G x.m1
 c2 : Mw isI G x.m2
 c3 : Mw isI G x.m3
 c5 : Mw isI G x.m5
 ms : [x.m1, x.m2, x.m3, x.m4, x.m5].Nodup
theorem Mn.core (h : Mn G p x n) : Mc G p x := ⟨h.obj, h.c1, h.c2, h.c3, h.c5, h.ms⟩
theorem Mc.keep (h : Mc G p x) (hk : ∀ i o, G i = some o → osz o = 16 ∨ osz o = 0 → G' i = some o) : Mc G' p x := by
 have kM : ∀ {V : AV → Prop} {m : Nat}, Mw V G m → G' m = G m := fun hv => by
  obtain ⟨es, cl, h1⟩ := hv.isM
  rw [h1]; exact hk _ _ h1 (.inr rfl)
 exact ⟨hk p _ h.obj (.inl rfl), h.c1.keep (kM h.c1), h.c2.keep (kM h.c2), h.c3.keep (kM h.c3), h.c5.keep (kM h.c5), h.ms⟩
theorem Mc.setP (h : Mc G p x) {n' : Nat} (hx : [x'.m1, x'.m2, x'.m3, x'.m4, x'.m5] = [x.m1, x.m2, x.m3, x.m4, x.m5]) (hS : So G x'.vS n') (hA : So G x'.vA n') (hne : ∀ i, idOf x'.vS = some i → idOf x'.vA ≠ some i) (hT : To G x'.vT n') (h4 : Mw (AnsV G x'.vT) G x'.m4) : Mn (G.set p x'.obj) p x' n' := by
 have kO : ∀ {i : Nat} {o' : AObj}, G i = some o' → osz o' ≠ 16 → (G.set p x'.obj) i = G i := fun hi ho => set_ne (ne_osz hi h.obj (by exact ho))
 have kS : ∀ {v : AV}, So G v n' → ∀ i, idOf v = some i → (G.set p x'.obj) i = G i := fun hv i hi => by
  obtain ⟨o', g1, g2⟩ := hv.at hi
  exact kO g1 (by omega)
 have kM : ∀ {V : AV → Prop} {j : Nat}, Mw V G j → Mw V (G.set p x'.obj) j := fun hv => by
  obtain ⟨es, cl, g1⟩ := hv.isM
  exact hv.keep (kO g1 (by simp [osz]))
 simp only [List.cons.injEq, and_true] at hx
 obtain ⟨e1, e2, e3, e4, e5⟩ := hx
 refine ⟨set_self, hS.keep (kS hS), hA.keep (kS hA), hne, hT.keep fun i hi => ?_, e1 ▸ kM h.c1, e2 ▸ kM h.c2, e3 ▸ kM h.c3, kM (h4.imp fun v hv => hv.keep fun i o' ho g2 _ => kO ho (by omega)), e5 ▸ kM h.c5, by rw [e1, e2, e3, e4, e5]; exact h.ms⟩
 obtain ⟨o', g1, g2⟩ := hT.at hi
 exact kO g1 (by omega)
end
end Go.Proofs.Ytofjhihigmimbaa
namespace Go.Proofs.Ytofjhihigmimbaa
open Go Go.AM Go.Proofs
section
variable {H G H' : AHeap} {D : Nat → Nat → Prop} {p n n' j : Nat} {x x' : Mo} {v w : AV} {K : AV → AHeap → Prop}
theorem differ_c (h : H p = some x.obj) (hk : K (.tup []) H) : CallsA Try.prog 67 [.ptr p 0 0 0, .d (.bool true)] H K := by
 apply C67
 unfold S67
 have l : ldV false 1 (.ptr p 0 0 14) H = some (.d (.bool false)) := ldV_at h rfl rfl
 have s : stoA false 1 (.ptr p 0 0 14) (.d (.bool false)) H = some (.junk, [(p, x.obj)]) := stoA_at h (Nat.le_refl 0) rfl (show 14 < 15 by decide) rfl rfl
 simp only [nilCk_ptr, ti65_f14, Nat.zero_add, l, optA_some, ifA_f, unA_not, Bool.not_true, s, stepK_some, sets_cons, sets_nil', set_id h, ret0]
 exact ⟨H, le_refl', hk⟩
theorem Sep.grow (hs : Sep H D) (hle : AHeap.le H G) {u : Nat} (hu : H u = none) (hG : (G u).isSome) (j : Nat) :
  Sep G (swp D j fun i => D j i ∨ i = u) ∧ (∀ k, k ≠ j → G.only (swp D j (fun i => D j i ∨ i = u) k) = H.only (D k)) ∧ AHeap.le (H.only (D j)) (G.only (swp D j (fun i => D j i ∨ i = u) j)) ∧ G.only (swp D j (fun i => D j i ∨ i = u) j) u = G u := by
 obtain ⟨s1, s2⟩ := hs.to (H' := G) (j := j) (A := fun i => D j i ∨ i = u) (fun i hi => by
  rcases hi with hi | rfl
  ·rw [le_keep hle (hs.dom j i hi)]; exact hs.dom j i hi
  ·exact hG) (fun i hi => by
  rcases hi with hi | rfl
  ·exact .inl hi
  ·exact .inr hu) fun i hi _ => le_keep hle hi
 refine ⟨s1, s2, fun i o hi => ?_, ?_⟩
 ·obtain ⟨h1, h2⟩ := only_some hi
  rw [swp_self, only_in (D := fun i => D j i ∨ i = u) (.inl h1)]
  exact hle i o h2
 ·rw [swp_self, only_in (D := fun i => D j i ∨ i = u) (.inr rfl)]
theorem appS (hs : Sep H D) (hm : Mn (H.only (D 4)) p x n) {ys : List Tr} (hx : elemsA v H = some (avs (ys.map Tr.dats))) (hys : ∀ t ∈ ys, t.nl = true → t.data = []) (hl : ys.length ≤ 200) (hn : n < 2 ^ 20)
  (hk : ∀ w H1 D', aggL w = [] → stoA false 1 (.ptr p 0 0 4) w H1 = some (.junk, [(p, ({ x with vS := w } : Mo).obj)]) → Sep (H1.set p ({ x with vS := w } : Mo).obj) D' → Mn ((H1.set p ({ x with vS := w } : Mo).obj).only (D' 4)) p { x with vS := w } (n + 1) → (∀ k, k ≠ 4 → (H1.set p ({ x with vS := w } : Mo).obj).only (D' k) = H.only (D k)) → K w H1) :
  newK H (fun i => apA 8 64 x.vS v H i) K := by
 obtain ⟨l, o1, o2, o3⟩ := hm.S
 have oid : ∀ i, idOf x.vS = some i → D 4 i := fun i hi => by
  obtain ⟨o, h1, _⟩ := hm.S.at hi
  exact (only_some h1).1
 have o1' : Own noHeap 8 H x.vS (l.map Tr.dats) := o1.other noHeap_le fun i hi => (only_in (oid i hi)).symm
 refine o1'.app hx (by decide) (by decide) (fun c hc => by obtain ⟨t, _, rfl⟩ := List.mem_map.1 hc; rfl) (by simp only [List.length_map]; simp only [mostBytes]; omega) fun w H1 w1 w2 w3 _ => ?_
 rw [← List.map_append] at w1
 have hp4 : D 4 p := (only_some hm.obj).1
 have wid : ∀ i, idOf w = some i → (H1 i).isSome ∧ (D 4 i ∨ H i = none) := fun i hi => by
  refine ⟨?_, (w3 i hi).imp (oid i) id⟩
  rcases w1.2.2 with ⟨rfl, _⟩ | rfl | ⟨j, ver, L, rfl, h2, _⟩
  ·cases hi
  ·cases hi
  ·cases hi; rw [h2]; rfl
 have hout : ∀ i, (H i).isSome → ¬ D 4 i → H1 i = H i := fun i hi hd => w2 i hi fun hh => hd (oid i hh)
 obtain ⟨s1, s2⟩ := hs.to (H' := H1) (j := 4) (A := fun i => (D 4 i ∧ idOf x.vS ≠ some i) ∨ idOf w = some i) (fun i hi => by
  rcases hi with hi | hi
  ·rw [w2 i (hs.dom 4 i hi.1) hi.2]; exact hs.dom 4 i hi.1
  ·exact (wid i hi).1) (fun i hi => by
  rcases hi with hi | hi
  ·exact .inl hi.1
  ·exact (wid i hi).2) hout
 have s4 : (swp D 4 fun i => (D 4 i ∧ idOf x.vS ≠ some i) ∨ idOf w = some i) 4 = fun i => (D 4 i ∧ idOf x.vS ≠ some i) ∨ idOf w = some i := swp_self
 have kk : ∀ i o, H.only (D 4) i = some o → idOf x.vS ≠ some i → H1.only (fun i => (D 4 i ∧ idOf x.vS ≠ some i) ∨ idOf w = some i) i = some o := fun i o hi hne => by
  obtain ⟨h1, h2⟩ := only_some hi
  rw [only_in (D := fun i => (D 4 i ∧ idOf x.vS ≠ some i) ∨ idOf w = some i) (.inl ⟨h1, hne⟩), w2 i (by rw [h2]; rfl) hne]; exact h2
 have sne : ∀ i o, H.only (D 4) i = some o → osz o ≠ 9 → idOf x.vS ≠ some i := fun i o hi ho hv => by
  obtain ⟨o', g1, g2⟩ := hm.S.at hv
  rw [g1] at hi; cases hi; exact ho g2
 have k9 : ∀ i o, H.only (D 4) i = some o → osz o ≠ 9 → H1.only (fun i => (D 4 i ∧ idOf x.vS ≠ some i) ∨ idOf w = some i) i = H.only (D 4) i := fun i o hi ho => by rw [hi]; exact kk i o hi (sne i o hi ho)
 have hmc : Mc (H1.only (fun i => (D 4 i ∧ idOf x.vS ≠ some i) ∨ idOf w = some i)) p x := hm.core.keep fun i o hi ho => kk i o hi (sne i o hi (by omega))
 have hn1 := hmc.setP (x' := { x with vS := w }) (n' := n + 1) rfl ⟨l ++ ys, w1.other noHeap_le fun i hi => only_in (D := fun i => (D 4 i ∧ idOf x.vS ≠ some i) ∨ idOf w = some i) (.inr hi), fun t ht => by
   rcases List.mem_append.1 ht with ht | ht
   ·exact o2 t ht
   ·exact hys t ht, by rw [List.length_append]; omega⟩
  ((hm.A.keep fun i hi => by
   obtain ⟨o, g1, _⟩ := hm.A.at hi
   rw [g1]; exact kk i o g1 fun hv => hm.ne i hv hi).mono (Nat.le_succ n))
  (fun i hi hA => by
   rcases w3 i hi with hv | hv
   ·exact hm.ne i hv hA
   ·obtain ⟨o, g1, _⟩ := hm.A.at hA
    rw [(only_some g1).2] at hv; cases hv)
  ((hm.T.keep fun i hi => by
   obtain ⟨o, g1, g2⟩ := hm.T.at hi
   exact k9 i o g1 (by omega)).mono (Nat.le_succ n))
  ((hm.c4.imp fun v hv => hv.keep fun i o ho g2 _ => k9 i o ho (by omega)).keep (by
   obtain ⟨es, cl, g1⟩ := hm.c4.isM
   exact k9 _ _ g1 (by simp [osz])))
 have hpA : (swp D 4 fun i => (D 4 i ∧ idOf x.vS ≠ some i) ∨ idOf w = some i) 4 p := by rw [s4]; exact .inl ⟨hp4, sne p _ hm.obj (by simp [osz])⟩
 obtain ⟨t1, t2, t3⟩ := s1.set (o := ({ x with vS := w } : Mo).obj) hpA
 have hp1 : H1 p = some x.obj := by rw [w2 p (hs.dom 4 p hp4) (sne p _ hm.obj (by simp [osz]))]; exact (only_some hm.obj).2
 have wst : w.storable = true ∧ w.cells = [w] ∧ aggL w = [] := by
  rcases w1.2.2 with ⟨rfl, _⟩ | rfl | ⟨j, ver, L, rfl, h2, _⟩ <;> exact ⟨rfl, rfl, rfl⟩
 refine hk w H1 _ wst.2.2 (stoA_at hp1 (Nat.le_refl 0) rfl (show 4 < 15 by decide) wst.1 wst.2.1) t1 ?_ fun k hk4 => (t3 k hk4).trans (s2 k hk4)
 rw [t2, s4]; exact hn1
theorem appA_ (hs : Sep H D) (hm : Mn (H.only (D 4)) p x n) {ys : List Tr} (hx : elemsA v H = some (avs (ys.map Tr.dats))) (hys : ∀ t ∈ ys, t.nl = true → t.data = []) (hl : ys.length ≤ 200) (hn : n < 2 ^ 20)
  (hk : ∀ w H1 D', aggL w = [] → stoA false 1 (.ptr p 0 0 5) w H1 = some (.junk, [(p, ({ x with vA := w } : Mo).obj)]) → Sep (H1.set p ({ x with vA := w } : Mo).obj) D' → Mn ((H1.set p ({ x with vA := w } : Mo).obj).only (D' 4)) p { x with vA := w } (n + 1) → (∀ k, k ≠ 4 → (H1.set p ({ x with vA := w } : Mo).obj).only (D' k) = H.only (D k)) → K w H1) :
  newK H (fun i => apA 8 64 x.vA v H i) K := by
 obtain ⟨l, o1, o2, o3⟩ := hm.A
 have oid : ∀ i, idOf x.vA = some i → D 4 i := fun i hi => by
  obtain ⟨o, h1, _⟩ := hm.A.at hi
  exact (only_some h1).1
 have o1' : Own noHeap 8 H x.vA (l.map Tr.dats) := o1.other noHeap_le fun i hi => (only_in (oid i hi)).symm
 refine o1'.app hx (by decide) (by decide) (fun c hc => by obtain ⟨t, _, rfl⟩ := List.mem_map.1 hc; rfl) (by simp only [List.length_map]; simp only [mostBytes]; omega) fun w H1 w1 w2 w3 _ => ?_
 rw [← List.map_append] at w1
 have hp4 : D 4 p := (only_some hm.obj).1
 have wid : ∀ i, idOf w = some i → (H1 i).isSome ∧ (D 4 i ∨ H i = none) := fun i hi => by
  refine ⟨?_, (w3 i hi).imp (oid i) id⟩
  rcases w1.2.2 with ⟨rfl, _⟩ | rfl | ⟨j, ver, L, rfl, h2, _⟩
  ·cases hi
  ·cases hi
  ·cases hi; rw [h2]; rfl
 have hout : ∀ i, (H i).isSome → ¬ D 4 i → H1 i = H i := fun i hi hd => w2 i hi fun hh => hd (oid i hh)
 obtain ⟨s1, s2⟩ := hs.to (H' := H1) (j := 4) (A := fun i => (D 4 i ∧ idOf x.vA ≠ some i) ∨ idOf w = some i) (fun i hi => by
  rcases hi with hi | hi
  ·rw [w2 i (hs.dom 4 i hi.1) hi.2]; exact hs.dom 4 i hi.1
  ·exact (wid i hi).1) (fun i hi => by
  rcases hi with hi | hi
  ·exact .inl hi.1
  ·exact (wid i hi).2) hout
 have s4 : (swp D 4 fun i => (D 4 i ∧ idOf x.vA ≠ some i) ∨ idOf w = some i) 4 = fun i => (D 4 i ∧ idOf x.vA ≠ some i) ∨ idOf w = some i := swp_self
 have kk : ∀ i o, H.only (D 4) i = some o → idOf x.vA ≠ some i → H1.only (fun i => (D 4 i ∧ idOf x.vA ≠ some i) ∨ idOf w = some i) i = some o := fun i o hi hne => by
  obtain ⟨h1, h2⟩ := only_some hi
  rw [only_in (D := fun i => (D 4 i ∧ idOf x.vA ≠ some i) ∨ idOf w = some i) (.inl ⟨h1, hne⟩), w2 i (by rw [h2]; rfl) hne]; exact h2
 have sne : ∀ i o, H.only (D 4) i = some o → osz o ≠ 9 → idOf x.vA ≠ some i := fun i o hi ho hv => by
  obtain ⟨o', g1, g2⟩ := hm.A.at hv
  rw [g1] at hi; cases hi; exact ho g2
 have k9 : ∀ i o, H.only (D 4) i = some o → osz o ≠ 9 → H1.only (fun i => (D 4 i ∧ idOf x.vA ≠ some i) ∨ idOf w = some i) i = H.only (D 4) i := fun i o hi ho => by rw [hi]; exact kk i o hi (sne i o hi ho)
 have hmc : Mc (H1.only (fun i => (D 4 i ∧ idOf x.vA ≠ some i) ∨ idOf w = some i)) p x := hm.core.keep fun i o hi ho => kk i o hi (sne i o hi (by omega))
 have hn1 := hmc.setP (x' := { x with vA := w }) (n' := n + 1) rfl 
  ((hm.S.keep fun i hi => by
   obtain ⟨o, g1, _⟩ := hm.S.at hi
   rw [g1]; exact kk i o g1 fun hv => hm.ne i hi hv).mono (Nat.le_succ n))
  ⟨l ++ ys, w1.other noHeap_le fun i hi => only_in (D := fun i => (D 4 i ∧ idOf x.vA ≠ some i) ∨ idOf w = some i) (.inr hi), fun t ht => by
   rcases List.mem_append.1 ht with ht | ht
   ·exact o2 t ht
   ·exact hys t ht, by rw [List.length_append]; omega⟩
  (fun i hS hi => by
   rcases w3 i hi with hv | hv
   ·exact hm.ne i hS hv
   ·obtain ⟨o, g1, _⟩ := hm.S.at hS
    rw [(only_some g1).2] at hv; cases hv)
  ((hm.T.keep fun i hi => by
   obtain ⟨o, g1, g2⟩ := hm.T.at hi
   exact k9 i o g1 (by omega)).mono (Nat.le_succ n))
  ((hm.c4.imp fun v hv => hv.keep fun i o ho g2 _ => k9 i o ho (by omega)).keep (by
   obtain ⟨es, cl, g1⟩ := hm.c4.isM
   exact k9 _ _ g1 (by simp [osz])))
 have hpA : (swp D 4 fun i => (D 4 i ∧ idOf x.vA ≠ some i) ∨ idOf w = some i) 4 p := by rw [s4]; exact .inl ⟨hp4, sne p _ hm.obj (by simp [osz])⟩
 obtain ⟨t1, t2, t3⟩ := s1.set (o := ({ x with vA := w } : Mo).obj) hpA
 have hp1 : H1 p = some x.obj := by rw [w2 p (hs.dom 4 p hp4) (sne p _ hm.obj (by simp [osz]))]; exact (only_some hm.obj).2
 have wst : w.storable = true ∧ w.cells = [w] ∧ aggL w = [] := by
  rcases w1.2.2 with ⟨rfl, _⟩ | rfl | ⟨j, ver, L, rfl, h2, _⟩ <;> exact ⟨rfl, rfl, rfl⟩
 refine hk w H1 _ wst.2.2 (stoA_at hp1 (Nat.le_refl 0) rfl (show 5 < 15 by decide) wst.1 wst.2.1) t1 ?_ fun k hk4 => (t3 k hk4).trans (s2 k hk4)
 rw [t2, s4]; exact hn1
theorem setX (hs : Sep H D) (hm : Mn (H.only (D 4)) p x n) (x' : Mo) (h1 : x'.vS = x.vS) (h2 : x'.vA = x.vA) (h3 : x'.vT = x.vT) (h4 : x'.m1 = x.m1 ∧ x'.m2 = x.m2 ∧ x'.m3 = x.m3 ∧ x'.m4 = x.m4 ∧ x'.m5 = x.m5) :
  Sep (H.set p x'.obj) D ∧ Mn ((H.set p x'.obj).only (D 4)) p x' n ∧ ∀ k, k ≠ 4 → (H.set p x'.obj).only (D k) = H.only (D k) := by
 have hp4 : D 4 p := (only_some hm.obj).1
 obtain ⟨t1, t2, t3⟩ := hs.set (o := x'.obj) hp4
 refine ⟨t1, ?_, t3⟩
 rw [t2]
 obtain ⟨e1, e2, e3, e4, e5⟩ := h4
 exact hm.core.setP (by rw [e1, e2, e3, e4, e5]) (h1 ▸ hm.S) (h2 ▸ hm.A) (by rw [h1, h2]; exact hm.ne) (h3 ▸ hm.T) (by rw [h3, e4]; exact hm.c4)
theorem setMp (hs : Sep H D) (hm : Mn (H.only (D 4)) p x n) {m : Nat} {o : AObj} (hmm : ∃ es cl, H.only (D 4) m = some (.map es cl)) (h1 : m = x.m1 → Mw isB ((H.only (D 4)).set m o) m) (h2 : m = x.m2 → Mw isI ((H.only (D 4)).set m o) m) (h3 : m = x.m3 → Mw isI ((H.only (D 4)).set m o) m) (h4 : m = x.m4 → Mw (AnsV ((H.only (D 4)).set m o) x.vT) ((H.only (D 4)).set m o) m) (h5 : m = x.m5 → Mw isI ((H.only (D 4)).set m o) m) :
  Sep (H.set m o) D ∧ Mn ((H.set m o).only (D 4)) p x n ∧ ∀ k, k ≠ 4 → (H.set m o).only (D k) = H.only (D k) := by
 have hp4 : D 4 m := by obtain ⟨es, cl, g1⟩ := hmm; exact (only_some g1).1
 obtain ⟨t1, t2, t3⟩ := hs.set (o := o) hp4
 exact ⟨t1, by rw [t2]; exact hm.setM hmm h1 h2 h3 h4 h5, t3⟩
theorem Mw.le {V : AV → Prop} {m : Nat} (h : Mw V G m) (hle : AHeap.le G H) : Mw V H m := h.keep (by obtain ⟨es, cl, g1⟩ := h.isM; rw [g1]; exact hle _ _ g1)
theorem Mw.eqs {V : AV → Prop} {m : Nat} {o : AObj} (h : Mw V (H.set m o) m) : Mw V (G.set m o) m := h.keep (by rw [set_self, set_self])
theorem ms5 {a b c d e : Nat} (h : [a, b, c, d, e].Nodup) : a ≠ b ∧ a ≠ c ∧ a ≠ d ∧ a ≠ e ∧ b ≠ c ∧ b ≠ d ∧ b ≠ e ∧ c ≠ d ∧ c ≠ e ∧ d ≠ e := by
 simp only [List.nodup_cons, List.mem_cons, List.not_mem_nil, or_false, not_or, List.nodup_nil, and_true, not_false_eq_true] at h
 omega
end
end Go.Proofs.Ytofjhihigmimbaa
namespace Go.Proofs.Ytofjhihigmimbaa
open Go Go.AM Go.Proofs
structure Mv where
 do_ : Int
 place : Int
 pieces : Int
 tries : Int
 once : Bool
abbrev Mv.cells (a : Mv) : List AV := [.d (.int .i64 a.do_), .d (.int .i64 a.place), .d (.int .i64 a.pieces), .d (.int .i64 a.tries), .d (.bool a.once)]
abbrev Mv.av (a : Mv) : AV := .agg a.cells
structure Pz (H : AHeap) (D : Nat → Nat → Prop) (p : Nat) (x : Mo) (n : Nat) : Prop where
 sep : Sep H D
 a : ∃ m nx L, PA (H.only (D 0)) x.k m nx L ∧ RA (H.only (D 1)) x.r nx L
 s : ∃ m mp v1 v2 L Q R, PS (H.only (D 2)) x.s m mp L Q n ∧ RS (H.only (D 3)) x.q v1 v2 L R n ∧ PlR Q R
 m : Mn (H.only (D 4)) p x n
abbrev z8 : List AV := [.d (.int .i64 0), .d (.int .i64 0), .d (.int .i64 0), .d (.int .i64 0), .d (.bool false), .d (.bool false), .d (.bool false), .d (.sl true [])]
section
variable {H G H' : AHeap} {D : Nat → Nat → Prop} {p n n' j : Nat} {x x' : Mo} {v w : AV} {K : AV → AHeap → Prop}
theorem boxCall {f : FuncId} {ags : List AV} {jb : Nat} {K' : AV → AHeap → Prop} {X : AV → AV → AHeap → AHeap → Prop} (hs : Sep G D) (j : Nat) (hb : ∀ i, ¬ D jb i) (hne : jb ≠ j) (h : CallsA Try.prog f ags (G.only (D j)) K')
  (hk : ∀ v (u : Nat) H1 G2 H2 Hp D', putV (.ptr u 0 0 0) G2 H2 = Hp → K' v H1 → Sep Hp D' → Hp.only (D' j) = H1 → (∀ k, k ≠ j → k ≠ jb → Hp.only (D' k) = G.only (D k)) → D' jb u → Hp u = some (.mem 0 0 8 [z8]) → (∀ i, D' jb i → i = u) → X v (.ptr u 0 0 0) G2 H2) :
  newK G (fun n => some (.ptr n 0 0 0, [(n, .mem 0 0 8 [z8])])) fun b H26 => CallsA Try.prog f ags (delV b H26) fun v H29 => noV b H26 H29 → X v b H26 H29 := by
 refine alloc_open fun u G2 hG2 hle hu => ?_
 obtain ⟨s1, s2⟩ := hs.le (le_delV (a := 0) (b := 0) (c := 0) hle hu)
 refine s1.call j (by rw [s2]; exact h) fun v H1 H' D' hv s3 s4 s5 => ?_
 intro hno
 have hu2 : H' u = none := hno (by rw [hG2]; rfl)
 have hp : putV (.ptr u 0 0 0) G2 H' u = some (.mem 0 0 8 [z8]) := by rw [putV_self]; exact hG2
 obtain ⟨t1, t2, t3, t4⟩ := s3.grow (le_putV hno (by rw [hG2]; rfl)) hu2 (by rw [hp]; rfl) jb
 have hbn : ∀ i, ¬ D' jb i := fun i hi => by
  have h1 := s5 jb hne
  rw [s2] at h1
  have h2 := s3.dom jb i hi
  have h3 : (H'.only (D' jb)) i = none := by rw [h1, only_out (hb i)]
  rw [only_in hi] at h3
  rw [h3] at h2; cases h2
 refine hk v u H1 G2 H' _ _ rfl hv t1 (by rw [t2 j (Ne.symm hne)]; exact s4) (fun k k1 k2 => by rw [t2 k k2, s5 k k1, s2]) (by rw [swp_self]; exact .inr rfl) hp fun i hi => ?_
 rw [swp_self] at hi
 exact hi.resolve_left (hbn i)
theorem sto8 {t : Tr} {u : Nat} {l : List AV} (hl : l.length = 8) (h : H u = some (.mem 0 0 8 [l])) : stoA true 8 (.ptr u 0 0 0) t.av H = some (.junk, [(u, .mem 0 0 8 [t.cells])]) := by
 have e : stA 8 (.ptr u 0 0 0) t.av H = some [(u, .mem 0 0 8 [t.cells])] := by
  have e1 : t.av.cells = t.cells := rfl
  have e2 : t.av.storable = true := rfl
  have e3 : t.cells.length = 8 := rfl
  have e4 : setCells l 0 t.cells = t.cells := by
   unfold setCells
   rw [e3, List.take_zero, List.drop_of_length_le (by omega)]; simp
  simp only [stA, h, e1, e2, e3, Nat.le_refl, and_self, if_true, List.getElem?_cons_zero, hl, Nat.zero_add, e4, List.set_cons_zero]
 simp only [stoA, if_true, Tr.av]
 simp only [Tr.av] at e
 have f : frzL t.cells H = some (t.cells, []) := by simp only [Tr.cells, frzL_cons, frz_d, frzL_nil, sets_nil', List.append_nil]
 simp only [f, sets_nil', e, List.nil_append]
theorem pc_bounds {i : Int} {m : Int} (hm : 0 < m) (hm2 : m < 1000) : 0 ≤ (if (0 : Int) > i then 0 else i).tmod m ∧ (if (0 : Int) > i then 0 else i).tmod m < m := by
 have h0 : 0 ≤ (if (0 : Int) > i then 0 else i) := by split <;> omega
 exact ⟨Int.tmod_nonneg _ h0, Int.tmod_lt_of_pos _ hm⟩
theorem fmax {k k' : IntKind} {x y : Int} : foldA max2A [.d (.int k x), .d (.int k' y)] = some (.d (.int k (if y > x then y else x))) := rfl
theorem cv8 {a : Int} : cvI .u8 (.d (.int .i64 a)) = some (.d (.int .u8 ((b8 a).toNat : Int))) := by rw [cvI_int, wrap_u8]
theorem bs5_1 {x : Dat} {H : AHeap} {n : Nat} : bsA ti5 1 [0] [.d x] H n = some (.lit [[x]], []) := rfl
theorem newB {x : Dat} (h : K (.lit [[x]]) H) : newK H (fun n => bsA ti5 1 [0] [.d x] H n) K := fun n hn => h
theorem lit1 {a : UInt8} : ([[.int .u8 (a.toNat : Int)]] : List (List Dat)) = bs [a] := rfl
theorem newB24 {t : Tr} (h : K (.lit [t.dats]) H) : newK H (fun n => bsA ti24 1 [0] [t.av] H n) K := fun n hn => h
theorem Sep.cut (hs : Sep H D) : Sep H (fun j i => j < 5 ∧ D j i) ∧ ∀ j, j < 5 → H.only (fun i => j < 5 ∧ D j i) = H.only (D j) :=
 ⟨⟨fun j i hi => hs.dom j i hi.2, fun j j' i h1 h2 => hs.one j j' i h1.2 h2.2⟩, fun j hj => only_congr (fun i _ => rfl) fun i => ⟨fun hh => hh.2, fun hh => ⟨hj, hh⟩⟩⟩
theorem trRs {t : Tr} {X : Prop} : noRsA (aggL t.av) X = X := by simp only [Tr.av, Tr.cells, aggL_agg, noRsA_cons, noRs_d, noRsA_nil, true_and]
def Both (H : AHeap) (D : Nat → Nat → Prop) (x : Mo) : Prop := ∃ m nx L, PA (H.only (D 0)) x.k m nx L ∧ RA (H.only (D 1)) x.r nx L
set_option maxHeartbeats 2000000 in
theorem pairAsk_c (h : Pz H D p x n) (h5 : ∀ j i, 5 ≤ j → ¬ D j i) (hn : n < 2 ^ 19) {a : Mv} (hk : ∀ H' D' x', Pz H' D' p x' (n + 1) → (∀ j i, 5 ≤ j → ¬ D' j i) → K (.tup []) H') : CallsA Try.prog 62 [.ptr p 0 0 0, a.av] H K := by
 apply C62
 unfold S62
 refine box_open rfl fun u G hG hle hu => ?_
 have hG : G u = some (.mem 0 0 5 [a.cells]) := hG
 obtain ⟨s1, s2, _, s4⟩ := h.sep.grow hle hu (by rw [hG]; rfl) 5
 have a1 := h.a
 obtain ⟨am, nx, L, hP, hR⟩ := a1
 generalize hD1 : (swp D 5 fun i => D 5 i ∨ i = u) = D1 at s1 s2 s4
 have o5 : D1 5 u := by rw [← hD1, swp_self]; exact .inr rfl
 have e6 : ∀ j i, 6 ≤ j → ¬ D1 j i := fun j i hj => by rw [← hD1, swp_ne (by omega)]; exact h5 j i (by omega)
 have hmG : Mn G p x n := h.m.le (by rw [← s2 4 (by decide)]; exact only_le)
 have lm : ∀ (i : Nat) (y : AV), x.cells[i]? = some y → ldV false 1 (.ptr p 0 0 i) G = some y := fun i y hy => ldV_at hmG.obj rfl hy
 have lu : ∀ (i : Nat) (y : AV), a.cells[i]? = some y → ldV false 1 (.ptr u 0 0 i) G = some y := fun i y hy => ldV_at hG rfl hy
 have w8 : ∀ i : Int, 0 ≤ i → i < 300 → IntKind.i64.wrap (1 + i) = 1 + i := fun i h0 h1 => wrap_i64 (by omega) (by omega)
 have b1 := pc_bounds (i := a.pieces) (m := 8) (by decide) (by decide)
 have b2 := pc_bounds (i := a.tries) (m := 255) (by decide) (by decide)
 generalize hpc : (if (0 : Int) > a.pieces then 0 else a.pieces).tmod 8 = pc at b1
 generalize htr : (if (0 : Int) > a.tries then 0 else a.tries).tmod 255 = tr at b2
 have good : ([b8 a.place] : List UInt8).length ≤ 64 ∧ (1 ≤ 1 + pc ∧ 1 + pc ≤ 8) ∧ (1 ≤ 1 + tr ∧ 1 + tr ≤ 255) := ⟨by simp, by omega, by omega⟩
 simp only [drA_true, ti68_f1, ti68_f2, ti68_f3, ti68_f4, ti65_f0, nilCk_ptr, Nat.zero_add, Nat.add_zero, lu 1 _ rfl, lu 2 _ rfl, lu 3 _ rfl, lu 4 _ rfl, lm 0 _ rfl, optA_some, fmax, intA_rem (show (8 : Int) ≠ 0 by decide), intA_rem (show (255 : Int) ≠ 0 by decide), hpc, htr, intA_add, w8 pc b1.1 (by omega), w8 tr b2.1 (by omega), cv8, rsOf_d, aggL_d, noRsA_nil, ap_nil, true_and]
 refine newB ?_
 simp only [lu 4 _ rfl, optA_some]
 refine ⟨trivial, ?_⟩
 simp only [frzLK_ptr, frzLK_lit, frzLK_d, frzLK_nil, lit1]
 refine boxCall (jb := 6) s1 0 (e6 6 · (Nat.le_refl 6)) (by decide) (pask_c (K := fun v H1 => ∃ nx' L' id e, ∃ t : Tr, PA H1 x.k am nx' L' ∧ v = .tup [.d (.int .i64 id), t.av, .d (.int .i64 e)] ∧ ((L.length = 100 ∧ nx' = nx ∧ L' = L ∧ id = 0 ∧ t = z0 ∧ e = 4) ∨ (L.length < 100 ∧ ∃ q, nx' = nth (free L nx) 1 ∧ L' = L ++ [Rq.new q (free L nx) false [b8 a.place] a.once (1 + tr) (1 + pc).toNat] ∧ id = free L nx ∧ t = (Rq.new q (free L nx) false [b8 a.place] a.once (1 + tr) (1 + pc).toNat).reqP ∧ e = 0)))
  (by rw [s2 0 (by decide)]; exact hP) (fun hh => by cases hh) ⟨by omega, by omega⟩ (fun hb => absurd good hb) (fun _ hf => ⟨nx, L, 0, 4, z0, by rw [s2 0 (by decide)]; exact hP, rfl, .inl ⟨hf, rfl, rfl, rfl, rfl, rfl⟩⟩) fun _ hl q H1 p1 _ => ⟨_, _, _, 0, _, p1, rfl, .inr ⟨hl, q, rfl, rfl, rfl, rfl, rfl⟩⟩) ?_
 rintro v w H1 B1 B2 G3 D3 hB ⟨nx', L', id, e, t, p1, rfl, hcase⟩ s3 q0 q1 w1 w2 w3
 obtain ⟨s5, s6, s7⟩ := s3.set (j := 6) (o := .mem 0 0 8 [t.cells]) w1
 simp only [hB, extractA_0, extractA_1, extractA_2, optA_some, sto8 rfl w2, stepK_some, sets_cons, sets_nil']
 -- behind the first call
 have hmn : G3.only (D3 4) = H.only (D 4) := by rw [q1 4 (by decide) (by decide), s2 4 (by decide)]
 have hou : ∀ {X : AHeap} {E : Nat → Nat → Prop}, X.only (E 5) = G.only (D1 5) → X u = some (.mem 0 0 5 [a.cells]) := fun {X E} hx => by
  have := s4.trans hG
  rw [← hx] at this
  exact (only_some this).2
 generalize hG4 : G3.set w (.mem 0 0 8 [t.cells]) = G4 at s5 s6 s7
 have g4w : G4 w = some (.mem 0 0 8 [t.cells]) := by rw [← hG4]; exact set_self
 have hm4 : Mn (G4.only (D3 4)) p x n := by rw [s7 4 (by decide), hmn]; exact h.m
 have lm4 : ∀ (i : Nat) (y : AV), x.cells[i]? = some y → ldV false 1 (.ptr p 0 0 i) G4 = some y := fun i y hy => ldV_at (hm4.le only_le).obj rfl hy
 have g4u := hou (X := G4) (E := D3) (by rw [s7 5 (by decide), q1 5 (by decide) (by decide)])
 have lu4 : ∀ (i : Nat) (y : AV), a.cells[i]? = some y → ldV false 1 (.ptr u 0 0 i) G4 = some y := fun i y hy => ldV_at g4u rfl hy
 have e7 : ∀ i, ¬ D3 7 i := fun i hi => by
  have h1 := q1 7 (by decide) (by decide)
  have h2 := s3.dom 7 i hi
  have h3 : (G3.only (D3 7)) i = none := by rw [h1, only_out (e6 7 i (by decide))]
  rw [only_in hi] at h3
  rw [h3] at h2; cases h2
 have hR4 : RA (G4.only (D3 1)) x.r nx L := by rw [s7 1 (by decide), q1 1 (by decide) (by decide), s2 1 (by decide)]; exact hR
 have call2 : CallsA Try.prog 47 [.ptr x.r 0 0 0, .d (.sl false (bs [b8 a.place])), .d (.int .i64 (1 + pc)), .d (.bool a.once), .d (.int .i64 (1 + tr))] (G4.only (D3 1)) fun v H1 => ∃ y : Tr, t.Sim y ∧ v = .tup [.d (.int .i64 id), y.av, .d (.int .i64 e)] ∧ RA H1 x.r nx' L' := by
  rcases hcase with ⟨hf, rfl, rfl, rfl, rfl, rfl⟩ | ⟨hl, q, rfl, rfl, rfl, rfl, rfl⟩
  ·exact rask_c hR4 (fun hh => by cases hh) 0 (fun hb => absurd good hb) (fun _ _ => ⟨z0, .refl _, rfl, hR4⟩) fun _ hl => by omega
  ·exact rask_c hR4 (fun hh => by cases hh) q (fun hb => absurd good hb) (fun _ hf => by omega) fun _ _ H1 r1 _ => ⟨_, req_sim _, rfl, r1⟩
 simp only [trRs, ti65_f2, Nat.zero_add, lm4 2 _ rfl, lu4 1 _ rfl, optA_some, cv8, rsOf_d, aggL_d, noRsA_nil, ap_nil, true_and]
 refine newB ?_
 simp only [lu4 4 _ rfl, optA_some]
 refine ⟨trivial, ?_⟩
 simp only [frzLK_ptr, frzLK_lit, frzLK_d, frzLK_nil, lit1]
 refine boxCall (jb := 7) s5 1 e7 (by decide) call2 ?_
 rintro v w5 H5 B3 B4 G5 D5 hB5 ⟨y, hsim, rfl, r5⟩ t3 u0 u1 y1 y2 y3
 obtain ⟨t5, t6, t7⟩ := t3.set (j := 7) (o := .mem 0 0 8 [y.cells]) y1
 simp only [hB5, extractA_0, extractA_1, extractA_2, optA_some, sto8 rfl y2, stepK_some, sets_cons, sets_nil', trRs]
 generalize hG6 : G5.set w5 (.mem 0 0 8 [y.cells]) = G6 at t5 t6 t7
 have g6w5 : G6 w5 = some (.mem 0 0 8 [y.cells]) := by rw [← hG6]; exact set_self
 have c6 : ∀ k, k ≠ 1 → k ≠ 7 → G6.only (D5 k) = G4.only (D3 k) := fun k k1 k7 => by rw [t7 k k7, u1 k k1 k7]
 have g6w : G6 w = some (.mem 0 0 8 [t.cells]) := by
  have h1 := c6 6 (by decide) (by decide)
  have h2 : (G4.only (D3 6)) w = some (.mem 0 0 8 [t.cells]) := by rw [only_in w1]; exact g4w
  rw [← h1] at h2
  exact (only_some h2).2
 have g6u := hou (X := G6) (E := D5) (by rw [c6 5 (by decide) (by decide), s7 5 (by decide), q1 5 (by decide) (by decide)])
 have hm6 : Mn (G6.only (D5 4)) p x n := by rw [c6 4 (by decide) (by decide)]; exact hm4
 have hP6 : PA (G6.only (D5 0)) x.k am nx' L' := by rw [c6 0 (by decide) (by decide), s7 0 (by decide), q0]; exact p1
 have hR6 : RA (G6.only (D5 1)) x.r nx' L' := by rw [t7 1 (by decide), u0]; exact r5
 have hS6 : ∀ k, k = 2 ∨ k = 3 → G6.only (D5 k) = H.only (D k) := fun k hk => by
  rw [c6 k (by omega) (by omega), s7 k (by omega), q1 k (by omega) (by omega), s2 k (by omega)]
 have lt6 : ldV true 8 (.ptr w 0 0 0) G6 = some t.av := ld8 g6w
 have ly6 : ldV true 8 (.ptr w5 0 0 0) G6 = some y.av := ld8 g6w5
 have lm6 : ∀ (i : Nat) (y : AV), x.cells[i]? = some y → ldV false 1 (.ptr p 0 0 i) G6 = some y := fun i y hy => ldV_at (hm6.le only_le).obj rfl hy
 refine jnX_inv (fun vs G' => G' = G6 ∧ vs = [.ptr p 0 0 0, .ptr u 0 0 0, .d (.int .i64 (1 + pc)), .d (.int .i64 id), .ptr w 0 0 0, .d (.int .i64 e)]) ?_ fun X hX => ?_
 rotate_left
 ·simp only [intA_eql, decide_true, optA_some, ifA_t, lt6, ly6, frzLK_tr, frzLK_nil]
  refine sameTrans_c hsim ?_
  simp only [ifA_t, intA_eql, decide_true, optA_some, frzLK_ptr, frzLK_d, frzLK_nil]
  exact differ_c (hm6.le only_le).obj (hX _ _ ⟨rfl, rfl⟩)
 rintro vs G' ⟨rfl, rfl⟩
 clear hle
 simp only [List.getD_cons_succ, List.getD_cons_zero, intA_eql, optA_some, ifA_ite]
 have fin : ∀ (X : AHeap) (E : Nat → Nat → Prop) (x' : Mo), x'.k = x.k ∧ x'.s = x.s ∧ x'.r = x.r ∧ x'.q = x.q → Sep X E → (∀ k, k < 4 → X.only (E k) = G'.only (D5 k)) → Mn (X.only (E 4)) p x' (n + 1) → K (.tup []) X := by
  intro X E x' hx' g1 g2 g3
  obtain ⟨i1, i2, i3, i4⟩ := hx'
  obtain ⟨c1, c2⟩ := g1.cut
  obtain ⟨sm, smp, sv1, sv2, sL, sQ, sR, hS, hR', hpl⟩ := h.s
  refine hk X _ x' ⟨c1, ⟨am, nx', L', by rw [c2 0 (by decide), g2 0 (by decide), i1]; exact hP6, by rw [c2 1 (by decide), g2 1 (by decide), i3]; exact hR6⟩, ⟨sm, smp, sv1, sv2, sL, sQ, sR, ?_, ?_, hpl⟩, by rw [c2 4 (by decide)]; exact g3⟩ fun j i hj hh => by have := hh.1; omega
  ·rw [c2 2 (by decide), g2 2 (by decide), hS6 2 (.inl rfl), i2]; exact hS.mono (Nat.le_succ n)
  ·rw [c2 3 (by decide), g2 3 (by decide), hS6 3 (.inr rfl), i4]; exact hR'.mono (Nat.le_succ n)
 by_cases he : e = 0
 rotate_left
 ·rw [if_neg he, ret0]
  exact ⟨_, le_refl', fin G' D5 x ⟨rfl, rfl, rfl, rfl⟩ t5 (fun _ _ => rfl) (hm6.mono (Nat.le_succ n))⟩
 rw [if_pos he]
 have htn : t.nl = true → t.data = [] := by
  rcases hcase with ⟨_, _, _, _, rfl, _⟩ | ⟨_, q, _, _, _, rfl, _⟩
  ·intro _; rfl
  ·intro hh; cases hh
 have lu6 : ∀ (i : Nat) (y : AV), a.cells[i]? = some y → ldV false 1 (.ptr u 0 0 i) G' = some y := fun i y hy => ldV_at g6u rfl hy
 have hms := ms5 hm6.ms
 obtain ⟨o1, xx1, bb1, f1, o1', f2, f3⟩ := (hm6.c1.le only_le).entry (z := .d (.bool false)) (v := .d (.bool a.once)) ⟨_, rfl⟩ ⟨_, rfl⟩ id rfl rfl rfl
 rw [set_set] at f3
 obtain ⟨m1, m2, m3⟩ := setMp t5 hm6 (m := x.m1) (o := o1') hm6.c1.isM (fun _ => f3.eqs) (fun hh => absurd hh hms.1) (fun hh => absurd hh hms.2.1) (fun hh => absurd hh hms.2.2.1) (fun hh => absurd hh hms.2.2.2.1)
 simp only [drA_true, nilCk_ptr, ti65_f7, ti65_f8, ti68_f4, Nat.zero_add, lm6 7 _ rfl, lm6 8 _ rfl, lu6 4 _ rfl, optA_some]
 have hm1u : x.m1 ≠ u := fun he => by
  obtain ⟨es, cl, g1⟩ := hm6.c1.isM
  rw [he] at g1
  rw [(only_some g1).2] at g6u; cases g6u
 refine ⟨hm1u, ?_⟩
 simp only [f1, stepK_some, sets_cons, sets_nil', extractA_1, optA_some, f2, set_set]
 obtain ⟨o2, xx2, bb2, f4, o2', f5, f6⟩ := (m2.c2.le only_le).entry (z := .d (.int .i64 0)) (v := .d (.int .i64 (1 + pc))) ⟨_, rfl⟩ ⟨_, rfl⟩ id rfl rfl rfl
 rw [set_set] at f6
 obtain ⟨m4, m5, m6⟩ := setMp m1 m2 (m := x.m2) (o := o2') m2.c2.isM (fun hh => absurd hh.symm hms.1) (fun _ => f6.eqs) (fun hh => absurd hh hms.2.2.2.2.1) (fun hh => absurd hh hms.2.2.2.2.2.1) (fun hh => absurd hh hms.2.2.2.2.2.2.1)
 simp only [f4, stepK_some, sets_cons, sets_nil', extractA_1, optA_some, f5, set_set]
 generalize hG7 : (G'.set x.m1 o1').set x.m2 o2' = G7 at m4 m5 m6
 have c7 : ∀ k, k ≠ 4 → G7.only (D5 k) = G'.only (D5 k) := fun k hk4 => (m6 k hk4).trans (m3 k hk4)
 have g7w : G7 w = some (.mem 0 0 8 [t.cells]) := by
  have h1 := c7 6 (by decide)
  have h2 : (G'.only (D5 6)) w = some (.mem 0 0 8 [t.cells]) := by
   rw [c6 6 (by decide) (by decide), only_in w1]; exact g4w
  rw [← h1] at h2
  exact (only_some h2).2
 have lm7 : ∀ (i : Nat) (y : AV), x.cells[i]? = some y → ldV false 1 (.ptr p 0 0 i) G7 = some y := fun i y hy => ldV_at (m5.le only_le).obj rfl hy
 simp only [ti65_f4, Nat.zero_add, lm7 4 _ rfl, ld8 g7w, optA_some, trRs]
 refine ⟨trivial, ?_⟩
 refine newB24 ?_
 refine appS m4 m5 (ys := [t]) elemsA_lit (fun t' ht' => by rw [List.mem_singleton] at ht'; subst ht'; exact htn) (by simp) (by omega) fun w' H1 D' k1 k2 k3 k4 k5 => ?_
 simp only [k1, noRsA_nil, k2, stepK_some, sets_cons, sets_nil', ret0]
 exact ⟨_, le_refl', fin _ D' { x with vS := w' } ⟨rfl, rfl, rfl, rfl⟩ k3 (fun k hk4 => by rw [k5 k (by omega), c7 k (by omega)]) k4⟩
end
end Go.Proofs.Ytofjhihigmimbaa
namespace Go.Proofs.Ytofjhihigmimbaa
open Go Go.AM Go.Proofs
section
variable {H G H' : AHeap} {D : Nat → Nat → Prop} {p n n' j : Nat} {x x' : Mo} {v w : AV} {K : AV → AHeap → Prop}
theorem mkPz {X : AHeap} {E : Nat → Nat → Prop} (g1 : Sep X E) (ha : ∃ m nx L, PA (X.only (E 0)) x.k m nx L ∧ RA (X.only (E 1)) x.r nx L)
  (hs : ∃ m mp v1 v2 L Q R, PS (X.only (E 2)) x.s m mp L Q n ∧ RS (X.only (E 3)) x.q v1 v2 L R n ∧ PlR Q R) (hm : Mn (X.only (E 4)) p x n) :
  Pz X (fun j i => j < 5 ∧ E j i) p x n ∧ ∀ j i, 5 ≤ j → ¬ (j < 5 ∧ E j i) := by
 obtain ⟨c1, c2⟩ := g1.cut
 refine ⟨⟨c1, ?_, ?_, by rw [c2 4 (by decide)]; exact hm⟩, fun j i hj hh => by have := hh.1; omega⟩
 ·obtain ⟨m, nx, L, h1, h2⟩ := ha
  exact ⟨m, nx, L, by rw [c2 0 (by decide)]; exact h1, by rw [c2 1 (by decide)]; exact h2⟩
 ·obtain ⟨m, mp, v1, v2, L, Q, R, h1, h2, h3⟩ := hs
  exact ⟨m, mp, v1, v2, L, Q, R, by rw [c2 2 (by decide)]; exact h1, by rw [c2 3 (by decide)]; exact h2, h3⟩
theorem sS_mono {A B : AHeap} {s q : Nat} (hn : n ≤ n') (h : ∃ m mp v1 v2 L Q R, PS A s m mp L Q n ∧ RS B q v1 v2 L R n ∧ PlR Q R) : ∃ m mp v1 v2 L Q R, PS A s m mp L Q n' ∧ RS B q v1 v2 L R n' ∧ PlR Q R := by
 obtain ⟨m, mp, v1, v2, L, Q, R, h1, h2, h3⟩ := h
 exact ⟨m, mp, v1, v2, L, Q, R, h1.mono hn, h2.mono hn, h3⟩
theorem outs_nl {q : Rq} (ok : q.Ok) {t : Tr} : ∀ y ∈ q.outs Rq.reqP t, y.nl = true → y.data = [] := by
 have hp := piece_same q t
 have h1 : ((q.piece t).reqP).nl = true → ((q.piece t).reqP).data = [] := by
  show (q.piece t).nl = true → (q.piece t).data = []
  rw [hp.2.2.2.2.2.2.2.2, hp.2.2.2.2.2.2.2.1]
  exact ok.nl
 intro y hy
 unfold Rq.outs at hy
 split at hy
 ·split at hy
  ·split at hy
   ·rw [List.mem_singleton] at hy; rw [hy]; exact h1
   ·cases hy
  ·split at hy
   ·rw [List.mem_singleton] at hy; rw [hy]; intro _; rfl
   ·cases hy
 ·split at hy
  ·rw [List.mem_singleton] at hy; rw [hy]; intro _; rfl
  ·cases hy
theorem outs_len {q : Rq} {t : Tr} {f : Rq → Tr} : (q.outs f t).length ≤ 1 := by
 unfold Rq.outs
 split <;> (try split) <;> (try split) <;> simp
theorem elems_d {nl : Bool} {l : List (List Dat)} (h : nl = true → l = []) : elemsA (.d (.sl nl l)) H = some (avs l) := rfl
set_option maxHeartbeats 2000000 in
theorem back_c (h : Pz H D p x n) (h5 : ∀ j i, 5 ≤ j → ¬ D j i) (hn : n < 2 ^ 19) {t : Tr} (ht : t.nl = true → t.data = []) (hk : ∀ H' D' x', Pz H' D' p x' (n + 1) → (∀ j i, 5 ≤ j → ¬ D' j i) → K (.tup []) H') : CallsA Try.prog 66 [.ptr p 0 0 0, t.av] H K := by
 apply C66
 unfold S66
 refine box_open rfl fun u G hG hle hu => ?_
 have hG : G u = some (.mem 0 0 8 [t.cells]) := hG
 obtain ⟨s1, s2, _, s4⟩ := h.sep.grow hle hu (by rw [hG]; rfl) 5
 obtain ⟨am, nx, L, hP, hR⟩ := h.a
 generalize hD1 : (swp D 5 fun i => D 5 i ∨ i = u) = D1 at s1 s2 s4
 have hmG : Mn (G.only (D1 4)) p x n := by rw [s2 4 (by decide)]; exact h.m
 have lm : ∀ (i : Nat) (y : AV), x.cells[i]? = some y → ldV false 1 (.ptr p 0 0 i) G = some y := fun i y hy => ldV_at (hmG.le only_le).obj rfl hy
 simp only [drA_true, ti65_f0, nilCk_ptr, Nat.zero_add, Nat.add_zero, lm 0 _ rfl, ld8 hG, optA_some, frzLK_ptr, frzLK_tr, frzLK_nil]
 refine s1.call 0 (ptake_c (K := fun v H1 => ∃ L' out nl, ∃ e : Int, PA H1 x.k am nx L' ∧ v = .tup [.d (.sl nl (out.map Tr.dats)), .d (.int .i64 e)] ∧ (nl = true → out = []) ∧ (∀ y ∈ out, y.nl = true → y.data = []) ∧ out.length ≤ 1 ∧
   ∀ B : AHeap, RA B x.r nx L → CallsA Try.prog 48 [.ptr x.r 0 0 0, t.av] B fun v2 B2 => ∃ out2 nl2, RA B2 x.r nx L' ∧ v2 = .tup [.d (.sl nl2 (out2.map Tr.dats)), .d (.int .i64 e)] ∧ SimL out out2)
  (by rw [s2 0 (by decide)]; exact hP) ht (fun hv => ⟨L, [], true, 2, by rw [s2 0 (by decide)]; exact hP, rfl, fun _ => rfl, by simp, by simp, fun B hB => rtake_c hB ht (fun _ => ⟨[], true, hB, rfl, trivial⟩) (fun hv2 => absurd hv2 hv) fun hv2 => absurd hv2 hv⟩)
  (fun hv hno => ⟨L, [], true, 0, by rw [s2 0 (by decide)]; exact hP, rfl, fun _ => rfl, by simp, by simp, fun B hB => rtake_c hB ht (fun hv2 => absurd hv hv2) (fun _ _ => ⟨[], true, hB, rfl, trivial⟩) fun _ hkd i q hi hid hs => absurd (hno hkd i q hi hid) hs⟩)
  fun hv hkd i q hi hid hs nl H1 hnl p1 _ => ⟨_, _, nl, 0, p1, rfl, hnl, outs_nl (hP.ok q (List.mem_of_getElem? hi)), outs_len, fun B hB => rtake_c hB ht (fun hv2 => absurd hv hv2) (fun _ hno => absurd (hno hkd i q hi hid) hs) fun _ _ i2 q2 hi2 hid2 hs2 n2 B2 _ r2 _ => by
   obtain ⟨rfl, rfl⟩ := id_eq hP.ids hi hi2 (hid.trans hid2.symm)
   exact ⟨_, n2, r2, rfl, outs_sim q t⟩⟩) ?_
 rintro v H1 G2 D2 ⟨L', out, nl, e, p1, rfl, hnl, hok, hlen, hsec⟩ t1 t2 t3
 have hm2 : Mn (G2.only (D2 4)) p x n := by rw [t3 4 (by decide)]; exact hmG
 have g2u : G2 u = some (.mem 0 0 8 [t.cells]) := by
  have := s4.trans hG
  rw [← t3 5 (by decide)] at this
  exact (only_some this).2
 have lm2 : ∀ (i : Nat) (y : AV), x.cells[i]? = some y → ldV false 1 (.ptr p 0 0 i) G2 = some y := fun i y hy => ldV_at (hm2.le only_le).obj rfl hy
 simp only [extractA_0, extractA_1, drA_true, ti65_f2, nilCk_ptr, Nat.zero_add, lm2 2 _ rfl, ld8 g2u, optA_some, frzLK_ptr, frzLK_tr, frzLK_nil]
 refine t1.call 1 (hsec _ (by rw [t3 1 (by decide), s2 1 (by decide)]; exact hR)) ?_
 rintro v B2 G3 D3 ⟨out2, nl2, r2, rfl, hsim⟩ u1 u2 u3
 have hm3 : Mn (G3.only (D3 4)) p x n := by rw [u3 4 (by decide)]; exact hm2
 have lm3 : ∀ (i : Nat) (y : AV), x.cells[i]? = some y → ldV false 1 (.ptr p 0 0 i) G3 = some y := fun i y hy => ldV_at (hm3.le only_le).obj rfl hy
 simp only [extractA_0, extractA_1, optA_some]
 refine jnX_inv (fun vs G' => G' = G3 ∧ vs = [.ptr p 0 0 0, .d (.sl nl (out.map Tr.dats))]) ?_ fun X hX => ?_
 rotate_left
 ·simp only [frzLK_d, frzLK_nil]
  refine sameList_c hsim (by omega) ?_
  simp only [ifA_t, intA_eql, decide_true, optA_some, frzLK_ptr, frzLK_d, frzLK_nil]
  exact differ_c (hm3.le only_le).obj (hX _ _ ⟨rfl, rfl⟩)
 rintro vs G' ⟨rfl, rfl⟩
 simp only [List.getD_cons_succ, List.getD_cons_zero, nilCk_ptr, ti65_f4, Nat.zero_add, lm3 4 _ rfl, optA_some]
 refine appS u1 hm3 (ys := out) rfl hok (by omega) (by omega) fun w' H4 D' k1 k2 k3 k4 k5 => ?_
 simp only [k1, noRsA_nil, k2, stepK_some, sets_cons, sets_nil', ret0]
 have c : ∀ k, k ≠ 4 → k ≠ 0 → k ≠ 1 → k ≠ 5 → (H4.set p ({ x with vS := w' } : Mo).obj).only (D' k) = H.only (D k) := fun k c1 c2 c3 c4 => by rw [k5 k c1, u3 k c3, t3 k c2, s2 k c4]
 obtain ⟨z1, z2⟩ := mkPz (x := { x with vS := w' }) k3 ⟨am, nx, L', by rw [k5 0 (by decide), u3 0 (by decide), t2]; exact p1, by rw [k5 1 (by decide), u2]; exact r2⟩ (by rw [c 2 (by decide) (by decide) (by decide) (by decide), c 3 (by decide) (by decide) (by decide) (by decide)]; exact sS_mono (Nat.le_succ n) h.s) k4
 exact ⟨_, le_refl', hk _ _ _ z1 z2⟩
end
end Go.Proofs.Ytofjhihigmimbaa
namespace Go.Proofs.Ytofjhihigmimbaa
open Go Go.AM Go.Proofs
section
variable {H G H' : AHeap} {D : Nat → Nat → Prop} {p n n' j : Nat} {x x' : Mo} {v w : AV} {K : AV → AHeap → Prop}
theorem tkOs_nl {L : List Rq} (ok : ∀ q ∈ L, q.Ok) {E : List Int} : ∀ y ∈ tkOs Rq.reqP L E, y.nl = true → y.data = [] := by
 intro y hy
 unfold tkOs at hy
 obtain ⟨i, _, h1⟩ := List.mem_flatMap.1 hy
 unfold outOf at h1
 cases hf : L.find? (fun q => q.id == i) with
 | none => rw [hf] at h1; cases h1
 | some q =>
  rw [hf] at h1
  simp only [Option.map_some, Option.getD_some, Rq.tkO] at h1
  split at h1
  ·rw [List.mem_singleton] at h1
   rw [h1]
   exact (ok q (List.mem_of_find?_eq_some hf)).nl
  ·cases h1
set_option maxHeartbeats 2000000 in
theorem ptk_c (h : Pz H D p x n) (h5 : ∀ j i, 5 ≤ j → ¬ D j i) (hn : n < 2 ^ 19) (hk : ∀ H' D' x', Pz H' D' p x' (n + 1) → (∀ j i, 5 ≤ j → ¬ D' j i) → K (.tup []) H') : CallsA Try.prog 63 [.ptr p 0 0 0] H K := by
 apply C63
 unfold S63
 obtain ⟨am, nx, L, hP, hR⟩ := h.a
 obtain ⟨sm, smp, sv1, sv2, sL, sQ, sR, hS, hRS, hpl⟩ := h.s
 have ids : ∀ {X : AHeap} {E : Nat → Nat → Prop}, Mn (X.only (E 4)) p x n → ∀ (i : Nat) (y : AV), x.cells[i]? = some y → ldV false 1 (.ptr p 0 0 i) X = some y := fun hm i y hy => ldV_at (hm.le only_le).obj rfl hy
 simp only [ti65_f0, nilCk_ptr, Nat.zero_add, Nat.add_zero, ids h.m 0 _ rfl, optA_some, frzLK_ptr, frzLK_nil]
 have hl100 := hP.len
 have hlo := tkOs_len (f := Rq.reqP) (L := L) (D := srt L)
 have hls := srt_len (L := L)
 refine h.sep.call 0 (ptick_c (K := fun v H1 => ∃ nl, PA H1 x.k am nx (L.map Rq.tk) ∧ v = .tup [.d (.sl nl ((tkOs Rq.reqP L (srt L)).map Tr.dats)), .d (.int .i64 0)]) hP fun nl H1 _ p1 _ => ⟨nl, p1, rfl⟩) ?_
 rintro v H1 G2 D2 ⟨nl, p1, rfl⟩ t1 t2 t3
 have hm2 : Mn (G2.only (D2 4)) p x n := by rw [t3 4 (by decide)]; exact h.m
 simp only [extractA_0, extractA_1, optA_some]
 refine jnX_inv (fun vs G' => ∃ D', vs = [.ptr p 0 0 0, .d (.sl nl ((tkOs Rq.reqP L (srt L)).map Tr.dats))] ∧ Sep G' D' ∧ PA (G'.only (D' 0)) x.k am nx (L.map Rq.tk) ∧ RA (G'.only (D' 1)) x.r nx (L.map Rq.tk) ∧ PS (G'.only (D' 2)) x.s sm smp (tickL sL) sQ n ∧ RS (G'.only (D' 3)) x.q sv1 sv2 sL sR n ∧ Mn (G'.only (D' 4)) p x n) ?_ fun X hX => ?_
 rotate_left
 ·simp only [ti65_f2, nilCk_ptr, Nat.zero_add, ids hm2 2 _ rfl, optA_some, frzLK_ptr, frzLK_nil]
  refine t1.call 1 (rtick_c (K := fun v H1 => ∃ nl, RA H1 x.r nx (L.map Rq.tk) ∧ v = .d (.sl nl ((tkOs Rq.reqR L (srt L)).map Tr.dats))) (by rw [t3 1 (by decide)]; exact hR) fun nl H1 _ r1 _ => ⟨nl, r1, rfl⟩) ?_
  rintro v H2 G3 D3 ⟨nl2, r2, rfl⟩ u1 u2 u3
  have hm3 : Mn (G3.only (D3 4)) p x n := by rw [u3 4 (by decide)]; exact hm2
  simp only [frzLK_d, frzLK_nil]
  refine sameList_c (tkOs_sim L (srt L)) (by omega) ?_
  simp only [ifA_t, intA_eql, decide_true, optA_some, ti65_f1, nilCk_ptr, Nat.zero_add, ids hm3 1 _ rfl, frzLK_ptr, frzLK_nil]
  refine u1.call 2 (stick_c (K := fun v H1 => PS H1 x.s sm smp (tickL sL) sQ n ∧ v = .d (.int .i64 0)) (by rw [u3 2 (by decide), t3 2 (by decide)]; exact hS) fun H1 h1 => ⟨h1, rfl⟩) ?_
  rintro v H4 G5 D5 ⟨p5, rfl⟩ w1 w2 w3
  have hm5 : Mn (G5.only (D5 4)) p x n := by rw [w3 4 (by decide)]; exact hm3
  simp only [intA_eql, decide_true, optA_some, frzLK_ptr, frzLK_d, frzLK_nil]
  exact differ_c (hm5.le only_le).obj (hX _ _ ⟨D5, rfl, w1, by rw [w3 0 (by decide), u3 0 (by decide), t2]; exact p1, by rw [w3 1 (by decide), u2]; exact r2, by rw [w2]; exact p5, by rw [w3 3 (by decide), u3 3 (by decide), t3 3 (by decide)]; exact hRS, hm5⟩)
 rintro vs G' ⟨D', rfl, g1, g2, g3, g4, g5, g6⟩
 simp only [List.getD_cons_succ, List.getD_cons_zero, nilCk_ptr, ti65_f3, Nat.zero_add, ids g6 3 _ rfl, optA_some, frzLK_ptr, frzLK_nil]
 refine g1.call 3 (rtickS_c (K := fun v H1 => ∃ w1, RS H1 x.q w1 sv2 (tickL sL) sR n ∧ v = .tup []) g5 fun H1 w1 h1 => ⟨w1, h1, rfl⟩) ?_
 rintro v H6 G7 D7 ⟨w1, r7, rfl⟩ a1 a2 a3
 have hm7 : Mn (G7.only (D7 4)) p x n := by rw [a3 4 (by decide)]; exact g6
 simp only [nilCk_ptr, ti65_f4, Nat.zero_add, ids hm7 4 _ rfl, optA_some]
 refine appS a1 hm7 (ys := tkOs Rq.reqP L (srt L)) rfl (tkOs_nl hP.ok) (by omega) (by omega) fun w' H8 D8 k1 k2 k3 k4 k5 => ?_
 generalize hH9 : H8.set p ({ x with vS := w' } : Mo).obj = H9 at k3 k4 k5
 have ids9 : ∀ (i : Nat) (y : AV), ({ x with vS := w' } : Mo).cells[i]? = some y → ldV false 1 (.ptr p 0 0 i) H9 = some y := fun i y hy => ldV_at (k4.le only_le).obj rfl hy
 have st : stoA false 1 (.ptr p 0 0 12) (.d (.int .i64 (IntKind.i64.wrap (x.now + 1)))) H9 = some (.junk, [(p, ({ x with vS := w', now := IntKind.i64.wrap (x.now + 1) } : Mo).obj)]) := stoA_at (k4.le only_le).obj (Nat.le_refl 0) rfl (show 12 < 15 by decide) rfl rfl
 obtain ⟨x1, x2, x3⟩ := setX k3 k4 { x with vS := w', now := IntKind.i64.wrap (x.now + 1) } rfl rfl rfl ⟨rfl, rfl, rfl, rfl, rfl⟩
 simp only [k1, noRsA_nil, k2, stepK_some, sets_cons, sets_nil', hH9, nilCk_ptr, ti65_f12, Nat.zero_add, ids9 12 _ rfl, optA_some, intA_add, st, ret0]
 have c : ∀ k, k < 4 → (H9.set p ({ x with vS := w', now := IntKind.i64.wrap (x.now + 1) } : Mo).obj).only (D8 k) = G7.only (D7 k) := fun k c1 => by rw [x3 k (by omega), k5 k (by omega)]
 obtain ⟨z1, z2⟩ := mkPz (x := { x with vS := w', now := IntKind.i64.wrap (x.now + 1) }) x1 ⟨am, nx, _, by rw [c 0 (by decide), a3 0 (by decide)]; exact g2, by rw [c 1 (by decide), a3 1 (by decide)]; exact g3⟩
  ⟨sm, smp, w1, sv2, _, sQ, sR, by rw [c 2 (by decide), a3 2 (by decide)]; exact g4.mono (Nat.le_succ n), by rw [c 3 (by decide), a2]; exact r7.mono (Nat.le_succ n), hpl⟩ x2
 exact ⟨_, le_refl', hk _ _ _ z1 z2⟩
end
end Go.Proofs.Ytofjhihigmimbaa
namespace Go.Proofs.Ytofjhihigmimbaa
open Go Go.AM Go.Proofs
section
variable {H G G' H' : AHeap} {D : Nat → Nat → Prop} {p n n' j : Nat} {x x' : Mo} {v w : AV} {K : AV → AHeap → Prop}
theorem Td.app {l : List Int} (h : Td H v l) (y : Int) (hl : l.length < 2 ^ 30) (hk : ∀ v' H', Td H' v' (l ++ [y]) → (∀ i, (H i).isSome → idOf v ≠ some i → H' i = H i) → (∀ i, idOf v' = some i → (idOf v = some i ∨ H i = none) ∧ (H' i).isSome) → aggL v' = [] ∧ v'.storable = true ∧ v'.cells = [v'] → K v' H') : newK H (fun n => apA 1 8 v (.lit [[.int .i64 y]]) H n) K := by
 have own : Own noHeap 1 H v (intsD l) → newK H (fun n => apA 1 8 v (.lit [[.int .i64 y]]) H n) K := fun ho => by
  refine ho.app (ys := intsD [y]) elemsA_lit (by decide) (by decide) (fun c hc => by simp [intsD] at hc; rw [hc]; rfl) (by rw [intsD_len, intsD_len]; simp [mostBytes]; omega) fun v' H' g1 g2 g3 _ => ?_
  have e : intsD l ++ intsD [y] = intsD (l ++ [y]) := by simp [intsD]
  rw [e] at g1
  rcases g1.2.2 with ⟨rfl, hh⟩ | rfl | ⟨i, ver, L, rfl, h2, h3, h4, _⟩
  ·exfalso
   have := congrArg List.length hh
   rw [intsD_len] at this; simp at this
  ·exact hk _ _ (.inr (.inl rfl)) g2 (fun i hi => by cases hi) ⟨rfl, rfl, rfl⟩
  ·have hlen : (intsD (l ++ [y])).length = (l ++ [y]).length := intsD_len
   rw [hlen] at h3 h4
   refine hk _ _ (.inr (.inr ⟨i, ver, 0, L, by rw [hlen], h2, by rw [List.drop_zero]; exact h3, by omega⟩)) g2 (fun j hj => ⟨g3 j hj, ?_⟩) ⟨rfl, rfl, rfl⟩
   cases hj; rw [h2]; rfl
 rcases h with ⟨rfl, rfl⟩ | rfl | ⟨i, ver, off, L, rfl, h1, h2, h3⟩
 ·exact own (Own.nil noHeap_le)
 ·exact own (Own.lit noHeap_le (by simp [intsD]))
 ·intro n hn
  have e : apA 1 8 (.rs i ver 1 off l.length) (.lit [[.int .i64 y]]) H n = some (.rs i (ver + 1) 1 0 (l.length + 1), [(i, .mem (ver + 1) 0 1 (avs (intsD (l ++ [y]))))]) := by
   have e1 : elemsA (.lit [[.int .i64 y]]) H = some (avs (intsD [y])) := rfl
   have e2 : ((avs (intsD [y])).all fun y => y.length == 1) = true := rfl
   have e3 : (avs (intsD [y])).length = 1 := rfl
   have e4 : avs (intsD l) ++ avs (intsD [y]) = avs (intsD (l ++ [y])) := by rw [← avs_append]; simp [intsD]
   have e5 : (l.length + 1) * 8 ≤ mostBytes := by simp [mostBytes]; omega
   simp only [apA, e1, e2, Nat.lt_add_one, Nat.zero_lt_succ, and_self, if_true, appA, h1, Nat.zero_le, h3, e3, e5, h2, Nat.zero_sub, e4]
  simp only [e, stepK, optA, AHeap.sets]
  have hlen : (l ++ [y]).length = l.length + 1 := by simp
  refine hk _ _ (.inr (.inr ⟨i, ver + 1, 0, _, by rw [hlen], set_self, ?_, ?_⟩)) (fun k hk hne => set_ne fun he => hne (by rw [he]; rfl)) (fun k hk => ?_) ⟨rfl, rfl, rfl⟩
  ·rw [List.drop_zero, ← intsD_len (l := l ++ [y]), ← avs_length]; exact List.take_length
  ·rw [avs_length, intsD_len]; omega
  ·cases hk; exact ⟨.inl rfl, by rw [set_self]; rfl⟩
theorem AnsP.at {ps : List (Bool × List UInt8)} (h : AnsP G v ps) {i : Nat} (hi : idOf v = some i) : ∃ o, G i = some o ∧ osz o = 2 := by
 rcases h with ⟨rfl, _⟩ | rfl | ⟨i, ver, fro, L, rfl, h2, h3⟩
 ·cases hi
 ·cases hi
 ·cases hi; exact ⟨_, h2, rfl⟩
theorem AnsV.keep2 {w' : AV} (h : AnsV G w v) (hk : ∀ i o, G i = some o → osz o = 2 → idOf w ≠ some i → G' i = G i ∧ idOf w' ≠ some i) : AnsV G' w' v := by
 obtain ⟨ps, h1, h2, h3, h4⟩ := h
 refine ⟨ps, h1.keep fun i o hi ho h5 => (hk i o ho h5 (h4 i hi)).1, h2, h3, fun i hi => ?_⟩
 obtain ⟨o, ho, h5⟩ := h1.at hi
 exact (hk i o ho h5 (h4 i hi)).2
theorem appT (hs : Sep H D) (hm : Mn (H.only (D 4)) p x n) (y : Int) (hn : n < 2 ^ 20)
  (hk : ∀ w H1 D', aggL w = [] → stoA false 1 (.ptr p 0 0 6) w H1 = some (.junk, [(p, ({ x with vT := w } : Mo).obj)]) → Sep (H1.set p ({ x with vT := w } : Mo).obj) D' → Mn ((H1.set p ({ x with vT := w } : Mo).obj).only (D' 4)) p { x with vT := w } (n + 1) → (∀ k, k ≠ 4 → (H1.set p ({ x with vT := w } : Mo).obj).only (D' k) = H.only (D k)) → K w H1) :
  newK H (fun i => apA 1 8 x.vT (.lit [[.int .i64 y]]) H i) K := by
 obtain ⟨l, o1, o3⟩ := hm.T
 have oid : ∀ i, idOf x.vT = some i → D 4 i := fun i hi => by
  obtain ⟨o, h1, _⟩ := hm.T.at hi
  exact (only_some h1).1
 have o1' : Td H x.vT l := o1.keep fun i hi => (only_in (oid i hi)).symm
 refine o1'.app y (by omega) fun w H1 w1 w2 w3 wst => ?_
 have hp4 : D 4 p := (only_some hm.obj).1
 have hout : ∀ i, (H i).isSome → ¬ D 4 i → H1 i = H i := fun i hi hd => w2 i hi fun hh => hd (oid i hh)
 obtain ⟨s1, s2⟩ := hs.to (H' := H1) (j := 4) (A := fun i => (D 4 i ∧ idOf x.vT ≠ some i) ∨ idOf w = some i) (fun i hi => by
  rcases hi with hi | hi
  ·rw [w2 i (hs.dom 4 i hi.1) hi.2]; exact hs.dom 4 i hi.1
  ·exact (w3 i hi).2) (fun i hi => by
  rcases hi with hi | hi
  ·exact .inl hi.1
  ·exact (w3 i hi).1.imp (oid i) id) hout
 have s4 : (swp D 4 fun i => (D 4 i ∧ idOf x.vT ≠ some i) ∨ idOf w = some i) 4 = fun i => (D 4 i ∧ idOf x.vT ≠ some i) ∨ idOf w = some i := swp_self
 have kk : ∀ i o, H.only (D 4) i = some o → idOf x.vT ≠ some i → H1.only (fun i => (D 4 i ∧ idOf x.vT ≠ some i) ∨ idOf w = some i) i = some o := fun i o hi hne => by
  obtain ⟨h1, h2⟩ := only_some hi
  rw [only_in (D := fun i => (D 4 i ∧ idOf x.vT ≠ some i) ∨ idOf w = some i) (.inl ⟨h1, hne⟩), w2 i (by rw [h2]; rfl) hne]; exact h2
 have sne : ∀ i o, H.only (D 4) i = some o → osz o ≠ 2 → idOf x.vT ≠ some i := fun i o hi ho hv => by
  obtain ⟨o', g1, g2⟩ := hm.T.at hv
  rw [g1] at hi; cases hi; exact ho g2
 have k9 : ∀ i o, H.only (D 4) i = some o → osz o ≠ 2 → H1.only (fun i => (D 4 i ∧ idOf x.vT ≠ some i) ∨ idOf w = some i) i = H.only (D 4) i := fun i o hi ho => by rw [hi]; exact kk i o hi (sne i o hi ho)
 have hmc : Mc (H1.only (fun i => (D 4 i ∧ idOf x.vT ≠ some i) ∨ idOf w = some i)) p x := hm.core.keep fun i o hi ho => kk i o hi (sne i o hi (by omega))
 have kS : ∀ {v : AV}, So (H.only (D 4)) v n → ∀ i, idOf v = some i → H1.only (fun i => (D 4 i ∧ idOf x.vT ≠ some i) ∨ idOf w = some i) i = H.only (D 4) i := fun hv i hi => by
  obtain ⟨o, g1, g2⟩ := hv.at hi
  exact k9 i o g1 (by omega)
 have hn1 := hmc.setP (x' := { x with vT := w }) (n' := n + 1) rfl ((hm.S.keep (kS hm.S)).mono (Nat.le_succ n)) ((hm.A.keep (kS hm.A)).mono (Nat.le_succ n)) hm.ne
  ⟨l ++ [y], w1.keep fun i hi => only_in (D := fun i => (D 4 i ∧ idOf x.vT ≠ some i) ∨ idOf w = some i) (.inr hi), by rw [List.length_append]; simp; omega⟩
  ((hm.c4.imp fun v hv => hv.keep2 fun i o ho g2 hne => ⟨by rw [ho]; exact kk i o ho hne, fun hw => by
   rcases (w3 i hw).1 with h1 | h1
   ·exact hne h1
   ·rw [(only_some ho).2] at h1; cases h1⟩).keep (by
   obtain ⟨es, cl, g1⟩ := hm.c4.isM
   exact k9 _ _ g1 (by simp [osz])))
 have hpA : (swp D 4 fun i => (D 4 i ∧ idOf x.vT ≠ some i) ∨ idOf w = some i) 4 p := by rw [s4]; exact .inl ⟨hp4, sne p _ hm.obj (by simp [osz])⟩
 obtain ⟨t1, t2, t3⟩ := s1.set (o := ({ x with vT := w } : Mo).obj) hpA
 have hp1 : H1 p = some x.obj := by rw [w2 p (hs.dom 4 p hp4) (sne p _ hm.obj (by simp [osz]))]; exact (only_some hm.obj).2
 refine hk w H1 _ wst.1 (stoA_at hp1 (Nat.le_refl 0) rfl (show 6 < 15 by decide) wst.2.1 wst.2.2) t1 ?_ fun k hk4 => (t3 k hk4).trans (s2 k hk4)
 rw [t2, s4]; exact hn1
end
end Go.Proofs.Ytofjhihigmimbaa
namespace Go.Proofs.Ytofjhihigmimbaa
open Go Go.AM Go.Proofs
section
variable {H G G' H' : AHeap} {D : Nat → Nat → Prop} {p n n' j : Nat} {x x' : Mo} {v w : AV} {K : AV → AHeap → Prop}
theorem rspL_nl {id : Int} {b : Nat} {ps : List (Bool × List UInt8)} (hp : ∀ y ∈ ps, y.1 = true → y.2 = []) : ∀ (j : Nat), ∀ y ∈ rspL (fun x => x) id b ps j, y.nl = true → y.data = []
 | 0, y, hy => by cases hy
 | j + 1, y, hy => by
  have h1 : ∀ y ∈ [rsp1 (fun x => x) id ps j], y.nl = true → y.data = [] := fun y hy => by
   rw [List.mem_singleton] at hy
   rw [hy]
   show (ps.getD j (true, [])).1 = true → (ps.getD j (true, [])).2 = []
   by_cases hj : j < ps.length
   ·have : ps.getD j (true, []) = ps[j] := by rw [List.getD_eq_getElem?_getD, List.getElem?_eq_getElem hj]; rfl
    rw [this]; exact hp _ (List.getElem_mem hj)
   ·have : ps.getD j (true, []) = (true, []) := by rw [List.getD_eq_getElem?_getD, List.getElem?_eq_none (by omega)]; rfl
    rw [this]; intro _; rfl
  simp only [rspL] at hy
  split at hy
  ·rcases List.mem_append.1 hy with hy | hy
   ·exact rspL_nl hp j y hy
   ·exact h1 y hy
  ·exact rspL_nl hp j y hy
theorem tkS_out {q : Nat} {L : List Rm} {Q : List Pn} {t : Tr} (ok : ∀ r ∈ L, r.Ok) : (∀ y ∈ (tkS (fun x => x) q L Q t).2.1, y.nl = true → y.data = []) ∧ (tkS (fun x => x) q L Q t).2.1.length ≤ 8 := by
 have hag : (∀ y ∈ againOf (fun x => x) L t, y.nl = true → y.data = []) ∧ (againOf (fun x => x) L t).length ≤ 8 := by
  unfold againOf
  split
  ·split
   ·exact ⟨by simp, by simp⟩
   ·rename_i r hr _
    have := (ok r (List.mem_of_find?_eq_some hr)).pc
    exact ⟨rspL_nl (fun y hy => (this.ok y hy).2) _, Nat.le_trans rspL_len this.len⟩
  ·exact ⟨by simp, by simp⟩
 unfold tkS
 split
 ·exact ⟨by simp, by simp⟩
 split
 ·exact ⟨by simp, by simp⟩
 split
 ·exact ⟨by simp, by simp⟩
 split
 ·exact hag
 split
 ·exact ⟨by simp, by simp⟩
 split <;> exact ⟨by simp, by simp⟩
theorem elems_lit1 {y : Dat} : elemsA (.lit [[y]]) H = some (avs [[y]]) := rfl
theorem bs3_1' {y : Dat} {n : Nat} : bsA ti3 1 [0] [.d y] H n = some (.lit [[y]], []) := rfl
theorem newI {y : Dat} (h : K (.lit [[y]]) H) : newK H (fun n => bsA ti3 1 [0] [.d y] H n) K := fun n hn => h
theorem boolA_eql' {a b : Bool} : boolA .eql (.d (.bool a)) (.d (.bool b)) = some (.d (.bool (a == b))) := boolA_eql
def Sam (x x' : Mo) : Prop := x'.k = x.k ∧ x'.s = x.s ∧ x'.r = x.r ∧ x'.q = x.q
set_option maxHeartbeats 4000000 in
theorem come_c (h : Pz H D p x n) (h5 : ∀ j i, 5 ≤ j → ¬ D j i) (hn : n < 2 ^ 18) {t : Tr} (ht : t.nl = true → t.data = []) (hk : ∀ H' D' x', Pz H' D' p x' (n + 2) → (∀ j i, 5 ≤ j → ¬ D' j i) → K (.tup []) H') : CallsA Try.prog 65 [.ptr p 0 0 0, t.av] H K := by
 apply C65
 unfold S65
 refine box_open rfl fun u G hG hle hu => ?_
 have hG : G u = some (.mem 0 0 8 [t.cells]) := hG
 obtain ⟨s1, s2, _, s4⟩ := h.sep.grow hle hu (by rw [hG]; rfl) 5
 obtain ⟨sm, smp, sv1, sv2, sL, sQ, sR, hS, hRS, hpl⟩ := h.s
 generalize hD1 : (swp D 5 fun i => D 5 i ∨ i = u) = D1 at s1 s2 s4
 have hmG : Mn (G.only (D1 4)) p x n := by rw [s2 4 (by decide)]; exact h.m
 have ids : ∀ {X : AHeap} {E : Nat → Nat → Prop} {z : Mo} {c : Nat}, Mn (X.only (E 4)) p z c → ∀ (i : Nat) (y : AV), z.cells[i]? = some y → ldV false 1 (.ptr p 0 0 i) X = some y := fun hm i y hy => ldV_at (hm.le only_le).obj rfl hy
 have hou : ∀ {X : AHeap} {E : Nat → Nat → Prop}, X.only (E 5) = G.only (D1 5) → X u = some (.mem 0 0 8 [t.cells]) := fun {X E} hx => by
  have := s4.trans hG
  rw [← hx] at this
  exact (only_some this).2
 have lu : ∀ {X : AHeap}, X u = some (.mem 0 0 8 [t.cells]) → ∀ (i : Nat) (y : AV), t.cells[i]? = some y → ldV false 1 (.ptr u 0 0 i) X = some y := fun hX i y hy => ldV_at hX rfl hy
 -- what comes ahead of the two calls: the tick at which it came
 refine jnX_inv (fun vs G' => ∃ (x' : Mo), vs = [.ptr p 0 0 0, .ptr u 0 0 0] ∧ Sam x x' ∧ Sep G' D1 ∧ Mn (G'.only (D1 4)) p x' n ∧ ∀ k, k ≠ 4 → G'.only (D1 k) = G.only (D1 k)) ?_ fun X hX => ?_
 rotate_left
 ·refine jnX_inv (fun vs G' => G' = G ∧ ∃ b : Bool, vs = [.ptr p 0 0 0, .ptr u 0 0 0, .d (.bool b)]) ?_ fun X9 hX9 => ?_
  rotate_left
  ·simp only [ti24_f0, ti24_f4, Nat.zero_add, Nat.add_zero, lu hG 0 _ rfl, lu hG 4 _ rfl, optA_some, intA_neq, intA_eql, ifA_ite]
   refine ite_of (fun _ => ?_) fun _ => hX9 _ _ ⟨rfl, _, rfl⟩
   exact ite_of (fun _ => hX9 _ _ ⟨rfl, _, rfl⟩) fun _ => hX9 _ _ ⟨rfl, _, rfl⟩
  rintro vs G' ⟨rfl, b, rfl⟩
  cases b
  ·simp only [List.getD_cons_succ, List.getD_cons_zero, ifA_f]
   exact hX _ _ ⟨x, rfl, ⟨rfl, rfl, rfl, rfl⟩, s1, hmG, fun _ _ => rfl⟩
  simp only [List.getD_cons_succ, List.getD_cons_zero, ifA_t]
  refine jnX_inv (fun vs G2 => ∃ (x' : Mo), vs = [.ptr p 0 0 0, .ptr u 0 0 0] ∧ Sam x x' ∧ Sep G2 D1 ∧ Mn (G2.only (D1 4)) p x' n ∧ ∀ k, k ≠ 4 → G2.only (D1 k) = G'.only (D1 k)) ?_ fun X20 hX20 => ?_
  ·rintro vs G2 ⟨x', rfl, hsam, g1, g2, g3⟩
   have hu2 := hou (X := G2) (E := D1) (g3 5 (by decide))
   have hms := ms5 g2.ms
   obtain ⟨o, f1, f2⟩ := (g2.c5.le only_le).put (v := .d (.int .i64 x'.now)) ⟨_, rfl⟩ t.id rfl (fun l hh => by cases hh)
   obtain ⟨m1, m2, m3⟩ := setMp g1 g2 (m := x'.m5) (o := o) g2.c5.isM (fun hh => absurd hh.symm hms.2.2.2.1) (fun hh => absurd hh.symm hms.2.2.2.2.2.2.1) (fun hh => absurd hh.symm hms.2.2.2.2.2.2.2.2.1) (fun hh => absurd hh.symm hms.2.2.2.2.2.2.2.2.2) (fun _ => f2.eqs)
   simp only [List.getD_cons_succ, List.getD_cons_zero, drA_true, nilCk_ptr, ti65_f11, ti65_f12, ti24_f1, Nat.zero_add, ids g2 11 _ rfl, ids g2 12 _ rfl, lu hu2 1 _ rfl, optA_some, aggL_d, noRsA_nil, f1, stepK_some, sets_cons, sets_nil']
   exact hX _ _ ⟨x', rfl, hsam, m1, m2, fun k hk4 => (m3 k hk4).trans (g3 k hk4)⟩
  ·obtain ⟨was, is, ⟨wi, rfl⟩, _, lk⟩ := (hmG.c5.le only_le).look (z := .d (.int .i64 0)) ⟨_, rfl⟩ t.id
   simp only [drA_true, nilCk_ptr, ti65_f11, ti24_f1, Nat.zero_add, ids hmG 11 _ rfl, lu hG 1 _ rfl, optA_some, keyI, lk, extractA_0, extractA_1]
   refine jnX_inv (fun vs G2 => G2 = G' ∧ ∃ b : Bool, vs = [.ptr p 0 0 0, .ptr u 0 0 0, .d (.bool b)]) ?_ fun X31 hX31 => ?_
   ·rintro vs G2 ⟨rfl, b, rfl⟩
    cases b
    ·simp only [List.getD_cons_succ, List.getD_cons_zero, ifA_f]
     exact hX20 _ _ ⟨x, rfl, ⟨rfl, rfl, rfl, rfl⟩, s1, hmG, fun _ _ => rfl⟩
    ·have st : stoA false 1 (.ptr p 0 0 13) (.d (.bool true)) G2 = some (.junk, [(p, ({ x with late := true } : Mo).obj)]) := stoA_at (hmG.le only_le).obj (Nat.le_refl 0) rfl (show 13 < 15 by decide) rfl rfl
     obtain ⟨x1, x2, x3⟩ := setX s1 hmG { x with late := true } rfl rfl rfl ⟨rfl, rfl, rfl, rfl, rfl⟩
     simp only [List.getD_cons_succ, List.getD_cons_zero, ifA_t, nilCk_ptr, ti65_f13, Nat.zero_add, optA_some, st, stepK_some, sets_cons, sets_nil']
     exact hX20 _ _ ⟨{ x with late := true }, rfl, ⟨rfl, rfl, rfl, rfl⟩, x1, x2, x3⟩
   ·cases is
    ·simp only [ifA_f]
     exact hX31 _ _ ⟨rfl, _, rfl⟩
    ·simp only [ifA_t, nilCk_ptr, ti65_f12, Nat.zero_add, ids hmG 12 _ rfl, optA_some, intA_sub, intA_geq]
     exact hX31 _ _ ⟨rfl, _, rfl⟩
 rintro vs G2 ⟨x', rfl, hsam, g1, g2, g3⟩
 have hu2 := hou (X := G2) (E := D1) (g3 5 (by decide))
 obtain ⟨i1, i2, i3, i4⟩ := hsam
 simp only [List.getD_cons_succ, List.getD_cons_zero, drA_true, nilCk_ptr, ti65_f1, Nat.zero_add, ids g2 1 _ rfl, ld8 hu2, optA_some, frzLK_ptr, frzLK_tr, frzLK_nil]
 have hPS2 : PS (G2.only (D1 2)) x'.s sm smp sL sQ n := by rw [g3 2 (by decide), s2 2 (by decide), i2]; exact hS
 refine g1.call 2 (stake_c (K := fun v H1 => ∃ pp nl, PS H1 x'.s sm smp (tkS (fun x => x) pp sL sQ t).1.1 (tkS (fun x => x) pp sL sQ t).1.2 (n + 1) ∧ v = .tup [.d (.sl nl ((tkS (fun x => x) pp sL sQ t).2.1.map Tr.dats)), .d (.bool (tkS (fun x => x) pp sL sQ t).2.2.1), .d (.int .i64 (tkS (fun x => x) pp sL sQ t).2.2.2)]) hPS2 (by omega) fun pp H1 h1 _ nl _ => ⟨pp, nl, h1, rfl⟩) ?_
 rintro v H3 G3 D3 ⟨pp, nl, p3, rfl⟩ t1 t2 t3
 have hm3 : Mn (G3.only (D3 4)) p x' n := by rw [t3 4 (by decide)]; exact g2
 have hu3 := hou (X := G3) (E := D3) ((t3 5 (by decide)).trans (g3 5 (by decide)))
 simp only [extractA_0, extractA_1, extractA_2, drA_true, nilCk_ptr, ti65_f3, Nat.zero_add, ids hm3 3 _ rfl, ld8 hu3, optA_some, frzLK_ptr, frzLK_tr, frzLK_nil]
 refine t1.call 3 (rtakeS_c (K := fun v H1 => ∃ w1 w2 nl, RS H1 x'.q w1 w2 (tkS (fun _ => false) pp sL sR t).1.1 (tkS (fun _ => false) pp sL sR t).1.2 (n + 1) ∧ v = .tup [.d (.sl nl ((tkS (fun _ => false) pp sL sR t).2.1.map Tr.dats)), .d (.bool (tkS (fun _ => false) pp sL sR t).2.2.1), .d (.int .i64 (tkS (fun _ => false) pp sL sR t).2.2.2)]) (by rw [t3 3 (by decide), g3 3 (by decide), s2 3 (by decide), i4]; exact hRS) (by omega) pp fun H1 w1 w2 h1 nl _ => ⟨w1, w2, nl, h1, rfl⟩) ?_
 rintro v H4 G4 D4 ⟨w1, w2, nl2, r4, rfl⟩ u1 u2 u3
 have hm4 : Mn (G4.only (D4 4)) p x' n := by rw [u3 4 (by decide)]; exact hm3
 have hu4 := hou (X := G4) (E := D4) (((u3 5 (by decide)).trans (t3 5 (by decide))).trans (g3 5 (by decide)))
 obtain ⟨e1, e2⟩ := tkS_same (f := fun x => x) (g := fun _ => false) (p := pp) (L := sL) (Q := sQ) (R := sR) (t := t)
 have hpl2 := tkS_pl (f := fun x => x) (g := fun _ => false) (p := pp) (L := sL) (t := t) hpl hS.qids hRS.qids
 obtain ⟨on, ol⟩ := tkS_out (q := pp) (L := sL) (Q := sQ) (t := t) hS.ok
 have hsim := tkS_sim (p := pp) (L := sL) (Q := sQ) (R := sR) (t := t)
 rw [← e1] at r4
 have e3 := congrArg Prod.fst e2
 have e4 := congrArg Prod.snd e2
 generalize (tkS (fun x => x) pp sL sQ t).2.1 = outs at *
 generalize (tkS (fun x => x) pp sL sQ t).2.2 = res at *
 simp only [extractA_0, extractA_1, extractA_2, optA_some]
 have hrest : ∃ m mp v1 v2 L Q R, PS (G4.only (D4 2)) x'.s m mp L Q (n + 1) ∧ RS (G4.only (D4 3)) x'.q v1 v2 L R (n + 1) ∧ PlR Q R := ⟨_, _, _, _, _, _, _, by rw [u3 2 (by decide), t2]; exact p3, by rw [u2]; exact r4, hpl2⟩
 have hask : ∃ m nx L, PA (G4.only (D4 0)) x'.k m nx L ∧ RA (G4.only (D4 1)) x'.r nx L := by
  rw [u3 0 (by decide), t3 0 (by decide), g3 0 (by decide), s2 0 (by decide), u3 1 (by decide), t3 1 (by decide), g3 1 (by decide), s2 1 (by decide), i1, i3]
  exact h.a
 refine jnX_inv (fun vs G' => G' = G4 ∧ vs = [.ptr p 0 0 0, .ptr u 0 0 0, .d (.sl nl (outs.map Tr.dats)), .d (.bool res.1)]) ?_ fun X hX => ?_
 rotate_left
 ·simp only [frzLK_d, frzLK_nil]
  refine sameList_c hsim (by omega) ?_
  simp only [← e3, ← e4, ifA_t, boolA_eql, beq_self_eq_true, intA_eql, decide_true, optA_some, frzLK_ptr, frzLK_d, frzLK_nil]
  exact differ_c (hm4.le only_le).obj (hX _ _ ⟨rfl, rfl⟩)
 rintro vs G5 ⟨rfl, rfl⟩
 simp only [List.getD_cons_succ, List.getD_cons_zero]
 refine jnX_inv (fun vs G' => ∃ (x2 : Mo) (D' : Nat → Nat → Prop), vs = [.ptr p 0 0 0, .d (.sl nl (outs.map Tr.dats))] ∧ Sam x' x2 ∧ Sep G' D' ∧ Mn (G'.only (D' 4)) p x2 (n + 1) ∧ ∀ k, k ≠ 4 → G'.only (D' k) = G5.only (D4 k)) ?_ fun X hX => ?_
 ·rintro vs G6 ⟨x2, D6, rfl, ⟨j1, j2, j3, j4⟩, a1, a2, a3⟩
  simp only [List.getD_cons_succ, List.getD_cons_zero, nilCk_ptr, ti65_f5, Nat.zero_add, ids a2 5 _ rfl, optA_some]
  refine appA_ a1 a2 (ys := outs) rfl on (by omega) (by omega) fun w' H8 D8 k1 k2 k3 k4 k5 => ?_
  simp only [k1, noRsA_nil, k2, stepK_some, sets_cons, sets_nil', ret0]
  obtain ⟨z1, z2⟩ := mkPz (x := { x2 with vA := w' }) (n := n + 2) k3 (by rw [k5 0 (by decide), k5 1 (by decide), a3 0 (by decide), a3 1 (by decide), j1, j3]; exact hask) (by rw [k5 2 (by decide), k5 3 (by decide), a3 2 (by decide), a3 3 (by decide), j2, j4]; exact sS_mono (by omega) hrest) k4
  exact ⟨_, le_refl', hk _ _ _ z1 z2⟩
 ·obtain ⟨res1, res2⟩ := res
  cases res1
  ·simp only [ifA_f]
   exact hX _ _ ⟨x', D4, rfl, ⟨rfl, rfl, rfl, rfl⟩, u1, hm4.mono (Nat.le_succ n), fun _ _ => rfl⟩
  ·simp only [ifA_t, drA_true, nilCk_ptr, ti65_f6, ti24_f1, Nat.zero_add, ids hm4 6 _ rfl, lu hu4 1 _ rfl, optA_some, rsOf_d, ap_nil, true_and, aggL_d, noRsA_nil]
   refine newI ?_
   refine appT u1 hm4 t.id (by omega) fun w' H8 D8 k1 k2 k3 k4 k5 => ?_
   simp only [k1, noRsA_nil, k2, stepK_some, sets_cons, sets_nil']
   generalize hH9 : H8.set p ({ x' with vT := w' } : Mo).obj = H9 at k3 k4 k5
   have hu9 := hou (X := H9) (E := D8) ((((k5 5 (by decide)).trans (u3 5 (by decide))).trans (t3 5 (by decide))).trans (g3 5 (by decide)))
   have hms := ms5 k4.ms
   obtain ⟨tv, _, ⟨ti, rfl⟩, lk, _⟩ := (k4.c3.le only_le).look (z := .d (.int .i64 0)) ⟨_, rfl⟩ t.id
   obtain ⟨o, f1, f2⟩ := (k4.c3.le only_le).put (v := .d (.int .i64 (IntKind.i64.wrap (ti + 1)))) ⟨_, rfl⟩ t.id rfl (fun l hh => by cases hh)
   obtain ⟨m1, m2, m3⟩ := setMp k3 k4 (o := o) k4.c3.isM (fun hh => absurd hh.symm hms.2.1) (fun hh => absurd hh.symm hms.2.2.2.2.1) (fun _ => f2.eqs) (fun hh => absurd hh hms.2.2.2.2.2.2.2.1) (fun hh => absurd hh hms.2.2.2.2.2.2.2.2.1)
   simp only [nilCk_ptr, ti65_f9, ti24_f1, Nat.zero_add, ids k4 9 _ rfl, lu hu9 1 _ rfl, optA_some, keyI, lk, intA_add, aggL_d, noRsA_nil, f1, stepK_some, sets_cons, sets_nil']
   exact hX _ _ ⟨{ x' with vT := w' }, D8, rfl, ⟨rfl, rfl, rfl, rfl⟩, m1, m2, fun k hk4 => (m3 k hk4).trans (k5 k hk4)⟩
end
end Go.Proofs.Ytofjhihigmimbaa
namespace Go.Proofs.Ytofjhihigmimbaa
open Go Go.AM Go.Proofs
section
variable {H G G' H' : AHeap} {D : Nat → Nat → Prop} {p n n' j : Nat} {x x' : Mo} {v w : AV} {K : AV → AHeap → Prop} {ps : List (Bool × List UInt8)}
theorem Td.head {y : Int} {l : List Int} (h : Td H v (y :: l)) : (∃ ad, indexAddrA ti55 1 v (.d (.int .i64 0)) = some ad ∧ ldV false 1 ad H = some (.d (.int .i64 y))) ∧ ∃ v', sliceA 1 v (some (.d (.int .i64 1))) none none H = some v' ∧ Td H v' l ∧ v'.storable = true ∧ v'.cells = [v'] ∧ ∀ i, idOf v' = some i → idOf v = some i := by
 rcases h with ⟨_, h⟩ | rfl | ⟨i, ver, off, L, rfl, h1, h2, h3⟩
 ·cases h
 ·refine ⟨⟨.vptr [.int .i64 y] 0, rfl, rfl⟩, .lit (intsD l), ?_, .inr (.inl rfl), rfl, rfl, fun i hi => by cases hi⟩
  simp [sliceA, bnd, intsD, headLen]
  exact List.take_of_length_le (by simp)
 ·simp only [List.length_cons] at h2 h3
  have hL : L[off]? = some [.d (.int .i64 y)] := by
   have h4 := congrArg (fun z => z[0]?) h2
   simpa [intsD, avs, List.getElem?_take, List.getElem?_drop] using h4
  refine ⟨⟨.ptr i ver off 0, by simp [indexAddrA, ti55], by simp [ldV, h1, hL, partV]⟩, .rs i ver 1 (off + 1) l.length, ?_, .inr (.inr ⟨i, ver, off + 1, L, rfl, h1, ?_, by omega⟩), rfl, rfl, fun i hi => hi⟩
  ·simp [sliceA, bnd, h1]; omega
  ·have h4 := congrArg (fun z => z.drop 1) h2
   simp only [List.drop_take, List.drop_drop] at h4
   simpa [intsD, avs, Nat.add_comm] using h4
theorem AnsP.fro {i ver fro fro' : Nat} {L : List (List AV)} (h : AnsP G v ps) (hi : G i = some (.mem ver fro 1 L)) : AnsP (G.set i (.mem ver fro' 1 L)) v ps := by
 rcases h with h | h | ⟨k, ver2, fro2, L2, rfl, h2, h3⟩
 ·exact .inl h
 ·exact .inr (.inl h)
 ·by_cases he : k = i
  ·subst he
   rw [hi] at h2; cases h2
   exact .inr (.inr ⟨k, ver, fro', L, rfl, set_self, h3⟩)
  ·exact .inr (.inr ⟨k, ver2, fro2, L2, rfl, by rw [set_ne he]; exact h2, h3⟩)
theorem Mn.fro {i ver fro fro' : Nat} {L : List (List AV)} (h : Mn G p x n) (hi : G i = some (.mem ver fro 1 L)) (hT : idOf x.vT ≠ some i) : Mn (G.set i (.mem ver fro' 1 L)) p x n := by
 have kO : ∀ {k : Nat} {o' : AObj}, G k = some o' → osz o' ≠ 2 → (G.set i (.mem ver fro' 1 L)) k = G k := fun hk ho => set_ne (ne_osz hk hi (by exact ho))
 have kS : ∀ {v : AV}, So G v n → ∀ k, idOf v = some k → (G.set i (.mem ver fro' 1 L)) k = G k := fun hv k hk => by
  obtain ⟨o', g1, g2⟩ := hv.at hk
  exact kO g1 (by omega)
 have kM : ∀ {V : AV → Prop} {m : Nat}, Mw V G m → (G.set i (.mem ver fro' 1 L)) m = G m := fun hv => by
  obtain ⟨es, cl, g1⟩ := hv.isM
  exact kO g1 (by simp [osz])
 refine ⟨(kO h.obj (by simp [osz])).trans h.obj, h.S.keep (kS h.S), h.A.keep (kS h.A), h.ne, h.T.keep fun k hk => set_ne fun he => hT (he ▸ hk), h.c1.keep (kM h.c1), h.c2.keep (kM h.c2), h.c3.keep (kM h.c3), (h.c4.imp fun v hv => ?_).keep (kM h.c4), h.c5.keep (kM h.c5), h.ms⟩
 obtain ⟨ps, g1, g2⟩ := hv
 exact ⟨ps, g1.fro hi, g2⟩
theorem avs_toDatss : ∀ (l : List (List Dat)), toDatss (avs l) = some l := by
 intro l
 exact toDatss_avs
theorem giveAns {l : List AV} {X : List AV → AHeap → Prop} (hs : Sep H D) (hm : Mn (H.only (D 4)) p x n) (hv : AnsP (H.only (D 4)) v ps) (hT : ∀ i, idOf v = some i → idOf x.vT ≠ some i)
  (hk : ∀ nl H', Sep H' D → Mn (H'.only (D 4)) p x n → AnsP (H'.only (D 4)) v ps → (∀ k, k ≠ 4 → H'.only (D k) = H.only (D k)) → (∀ i es cl, H i = some (.map es cl) → H' i = some (.map es cl)) → frzLK l H' fun l' H'' => X (.d (.sl nl (pcD ps)) :: l') H'') : frzLK (v :: l) H X := by
 have hlen : (pcD ps).length = ps.length := by simp [pcD]
 rcases hv with ⟨rfl, rfl⟩ | rfl | ⟨i, ver, fro, L, rfl, h2, h3, h4⟩
 ·rw [frzLK_d]
  exact hk true H hs hm (.inl ⟨rfl, rfl⟩) (fun _ _ => rfl) fun _ _ _ hh => hh
 ·rw [frzLK_lit]
  exact hk false H hs hm (.inr (.inl rfl)) (fun _ _ => rfl) fun _ _ _ hh => hh
 ·obtain ⟨d4, hi⟩ := only_some h2
  have e : frzA (.rs i ver 1 0 ps.length) H = some (.d (.sl false (pcD ps)), [(i, .mem ver (max fro (0 + ps.length)) 1 L)]) := by
   simp only [frzA, frz, hi, if_true, List.drop_zero, h3, avs_toDatss, hlen]
  rw [frzLK_of e]
  obtain ⟨t1, t2, t3⟩ := hs.set (o := .mem ver (max fro (0 + ps.length)) 1 L) d4
  simp only [sets_cons, sets_nil']
  exact hk false _ t1 (by rw [t2]; exact hm.fro h2 (hT i rfl)) (by rw [t2]; exact AnsP.fro (.inr (.inr ⟨i, ver, fro, L, rfl, h2, h3, h4⟩)) h2) t3 fun k es cl hh => by
   rw [set_ne fun he => by rw [he, hi] at hh; cases hh]; exact hh
end
end Go.Proofs.Ytofjhihigmimbaa
namespace Go.Proofs.Ytofjhihigmimbaa
open Go Go.AM Go.Proofs
section
variable {H G G' H' : AHeap} {D : Nat → Nat → Prop} {p n n' j : Nat} {x x' : Mo} {v w : AV} {K : AV → AHeap → Prop} {ps : List (Bool × List UInt8)}
theorem popT (hs : Sep H D) (hm : Mn (H.only (D 4)) p x n) {l : List Int} (hT : Td (H.only (D 4)) w l) (hl : l.length ≤ n) (hid : ∀ i, idOf w = some i → idOf x.vT = some i) :
  Sep (H.set p ({ x with vT := w } : Mo).obj) D ∧ Mn ((H.set p ({ x with vT := w } : Mo).obj).only (D 4)) p { x with vT := w } n ∧ ∀ k, k ≠ 4 → (H.set p ({ x with vT := w } : Mo).obj).only (D k) = H.only (D k) := by
 have hp4 : D 4 p := (only_some hm.obj).1
 obtain ⟨t1, t2, t3⟩ := hs.set (o := ({ x with vT := w } : Mo).obj) hp4
 refine ⟨t1, ?_, t3⟩
 rw [t2]
 exact hm.core.setP rfl hm.S hm.A hm.ne ⟨l, hT, hl⟩ (hm.c4.imp fun v hv => hv.keep2 fun i o _ _ hne => ⟨rfl, fun hh => hne (hid i hh)⟩)
theorem bs5_3 {a b c : Dat} {m : Nat} : bsA ti5 3 [0, 1, 2] [.d a, .d b, .d c] H m = some (.lit [[a], [b], [c]], []) := rfl
theorem bs22_l {l : List (List Dat)} {m : Nat} : bsA ti22 1 [0] [.lit l] H m = some (.lit [[.sl false l]], []) := rfl
theorem new53 {a b c : Dat} (h : K (.lit [[a], [b], [c]]) H) : newK H (fun m => bsA ti5 3 [0, 1, 2] [.d a, .d b, .d c] H m) K := fun m hm => h
theorem new22 {l : List (List Dat)} (h : K (.lit [[.sl false l]]) H) : newK H (fun m => bsA ti22 1 [0] [.lit l] H m) K := fun m hm => h
theorem pcD_add {ps : List (Bool × List UInt8)} {l : List UInt8} : pcD ps ++ [[.sl false (bs l)]] = pcD (ps ++ [(false, l)]) := by simp [pcD]
theorem anS_out {L : List Rm} {Q : List Pn} {id : Int} (ok : ∀ r ∈ L, r.Ok) (hp : ∀ y ∈ ps, y.1 = true → y.2 = []) : (∀ y ∈ (anS (fun x => x) L Q id ps).2.2.1, y.nl = true → y.data = []) ∧ (anS (fun x => x) L Q id ps).2.2.1.length ≤ 20 := by
 unfold anS
 by_cases hb : Bad ps
 ·rw [if_pos hb]; exact ⟨by simp, by simp⟩
 ·rw [if_neg hb]
  have pk := PcOk.of hb hp
  have hl := pk.len
  cases hw : waiting L id with
  | some r => exact ⟨rspL_nl hp _, Nat.le_trans rspL_len (by omega)⟩
  | none =>
   simp only
   split
   ·exact ⟨rspL_nl hp _, Nat.le_trans rspL_len (by omega)⟩
   ·exact ⟨by simp, by simp⟩
theorem lookA_congr {z : AV} {m : Nat} {k : Dat} {b : Bool} (h : H' m = H m) : lookA z (.map m) (.d k) b H' = lookA z (.map m) (.d k) b H := by
 simp only [lookA, h]
set_option maxHeartbeats 4000000 in
theorem hand_c (h : Pz H D p x n) (h5 : ∀ j i, 5 ≤ j → ¬ D j i) (hn : n < 2 ^ 18) {nn : Int} (hk : ∀ H' D' x', Pz H' D' p x' (n + 1) → (∀ j i, 5 ≤ j → ¬ D' j i) → K (.tup []) H') : CallsA Try.prog 28 [.ptr p 0 0 0, .d (.int .i64 nn)] H K := by
 apply C28
 unfold S28
 obtain ⟨sm, smp, sv1, sv2, sL, sQ, sR, hS, hRS, hpl⟩ := h.s
 have ids : ∀ {X : AHeap} {E : Nat → Nat → Prop} {z : Mo} {c : Nat}, Mn (X.only (E 4)) p z c → ∀ (i : Nat) (y : AV), z.cells[i]? = some y → ldV false 1 (.ptr p 0 0 i) X = some y := fun hm i y hy => ldV_at (hm.le only_le).obj rfl hy
 obtain ⟨l, hT, hl⟩ := h.m.T
 have hT' : Td H x.vT l := hT.keep fun i hi => by
  obtain ⟨o, g1, _⟩ := (show To (H.only (D 4)) x.vT n from ⟨l, hT, hl⟩).at hi
  rw [g1]; exact (only_some g1).2
 have hlen : lenSl x.vT = some (.d (.int .i64 l.length)) := by
  rcases hT with ⟨e, rfl⟩ | e | ⟨i, ver, off, L, e, _⟩
  ·rw [e]; rfl
  ·rw [e]; simp only [lenSl, intsD_len]
  ·rw [e]; rfl
 simp only [nilCk_ptr, ti65_f6, Nat.zero_add, ids h.m 6 _ rfl, optA_some, hlen, intA_eql, ifA_ite]
 cases l with
 | nil =>
  rw [if_pos (by simp), ret0]
  obtain ⟨z1, z2⟩ := mkPz h.sep h.a (sS_mono (Nat.le_succ n) h.s) (h.m.mono (Nat.le_succ n))
  exact ⟨_, le_refl', hk _ _ _ z1 z2⟩
 | cons y l =>
 rw [if_neg (by simp; omega)]
 obtain ⟨⟨ad, q1, q2⟩, vT', q3, q4, q5, q6, q7⟩ := hT'.head
 have q4' : Td (H.only (D 4)) vT' l := q4.keep fun i hi => by
  obtain ⟨o, g1, _⟩ := (show To (H.only (D 4)) x.vT n from ⟨_, hT, hl⟩).at (q7 i hi)
  rw [g1]; exact (only_some g1).2.symm
 obtain ⟨t1, t2, t3⟩ := popT h.sep h.m q4' (by simp only [List.length_cons] at hl; omega) q7
 have st : stoA false 1 (.ptr p 0 0 6) vT' H = some (.junk, [(p, ({ x with vT := vT' } : Mo).obj)]) := stoA_at (h.m.le only_le).obj (Nat.le_refl 0) rfl (show 6 < 15 by decide) q5 q6
 simp only [q1, q2, q3, optA_some, st, stepK_some, sets_cons, sets_nil']
 generalize hH1 : H.set p ({ x with vT := vT' } : Mo).obj = H1 at t1 t2 t3
 -- the answer is there
 refine jnX_inv (fun vs G' => ∃ (D' : Nat → Nat → Prop) (e1 e2 : AV), vs = [.ptr p 0 0 0, .d (.int .i64 nn), .d (.int .i64 y), e1, e2] ∧ Sep G' D' ∧ Mn (G'.only (D' 4)) p { x with vT := vT' } n ∧ ∀ k, k ≠ 4 → G'.only (D' k) = H.only (D k)) ?_ fun X hX => ?_
 rotate_left
 ·obtain ⟨av0, is, _, _, lk⟩ := (t2.c4.le only_le).look (z := .d (.sl true [])) ⟨[], .inl ⟨rfl, rfl⟩, by simp, by simp, fun i hi => by cases hi⟩ y
  simp only [nilCk_ptr, ti65_f10, Nat.zero_add, ids t2 10 _ rfl, optA_some, keyI, lk, extractA_0, extractA_1, unA_not]
  cases is
  rotate_left
  ·simp only [Bool.not_true, ifA_f]
   exact hX _ _ ⟨D, _, _, rfl, t1, t2, t3⟩
  simp only [Bool.not_false, ifA_t]
  have b1 := pc_bounds (i := nn) (m := 8) (by decide) (by decide)
  generalize hM : (if (0 : Int) > nn then 0 else nn).tmod 8 = M at b1
  refine loop_ind (fun c vs G' => ∃ (kk : Nat) (av : AV) (ps : List (Bool × List UInt8)), kk ≤ 8 ∧ c = 8 - kk ∧ ps.length = kk ∧ vs = [.ptr p 0 0 0, .d (.int .i64 nn), .d (.int .i64 y), av, .d (.int .i64 (kk : Int))] ∧ Own H1 1 G' av (pcD ps) ∧ ∀ z ∈ ps, z.2.length ≤ 200 ∧ (z.1 = true → z.2 = [])) (n := 8) ⟨0, _, [], by omega, rfl, rfl, rfl, Own.nil le_refl', by simp⟩ ?_
  rintro X2 c vs G' ⟨kk, av, ps, hk8, rfl, hpk, rfl, ho, hok⟩ hX2
  obtain ⟨s1, s2⟩ := t1.le ho.le
  have m1 : Mn (G'.only (D 4)) p { x with vT := vT' } n := by rw [s2]; exact t2
  simp only [List.getD_cons_succ, List.getD_cons_zero, fmax, intA_rem (show (8 : Int) ≠ 0 by decide), hM, intA_leq, optA_some, ifA_ite]
  by_cases hkM : (kk : Int) ≤ M
  ·rw [if_pos hkM]
   obtain ⟨tv, _, ⟨ti, rfl⟩, lk3, _⟩ := (m1.c3.le only_le).look (z := .d (.int .i64 0)) ⟨_, rfl⟩ y
   have hw : IntKind.i64.wrap ((kk : Int) + 1) = ((kk + 1 : Nat) : Int) := by rw [wrap_i64 (by omega) (by omega)]; omega
   simp only [cv8, nilCk_ptr, ti65_f9, Nat.zero_add, ids m1 9 _ rfl, optA_some, keyI, lk3]
   refine new53 (new22 ?_)
   have e3 : ([[.int .u8 ((b8 y).toNat : Int)], [.int .u8 ((b8 (kk : Int)).toNat : Int)], [.int .u8 ((b8 ti).toNat : Int)]] : List (List Dat)) = bs [b8 y, b8 kk, b8 ti] := rfl
   rw [e3]
   refine ho.app (ys := [[.sl false (bs [b8 y, b8 kk, b8 ti])]]) elemsA_lit (by decide) (by decide) (by simp) (by simp [pcD, mostBytes]; omega) fun av' G2 ho2 _ _ _ => ?_
   rw [pcD_add] at ho2
   simp only [intA_add, hw, optA_some]
   refine hX2 (8 - (kk + 1)) _ _ (by omega) ⟨kk + 1, av', _, by omega, rfl, by simp [hpk], rfl, ho2, fun z hz => ?_⟩
   rcases List.mem_append.1 hz with hz | hz
   ·exact hok z hz
   ·rw [List.mem_singleton] at hz; rw [hz]; exact ⟨by simp, fun hh => by cases hh⟩
  ·rw [if_neg hkM]
   have ast : av.storable = true ∧ ∀ l, av ≠ .agg l := by
    rcases ho.2.2 with ⟨rfl, _⟩ | rfl | ⟨i, ver, L, rfl, _⟩ <;> exact ⟨rfl, fun l hh => by cases hh⟩
   have hpn : (pcD ps).length = ps.length := by simp [pcD]
   -- the answer's object comes to the pair
   have put : ∀ (D2 : Nat → Nat → Prop), Sep G' D2 → Mn (G'.only (D2 4)) p { x with vT := vT' } n → (∀ k, k ≠ 4 → G'.only (D2 k) = H.only (D k)) → AnsV (G'.only (D2 4)) vT' av → optA (nilCkA (.ptr p 0 0 0)) fun v52 => optA (fieldA ti65 v52 10) fun v53 => optA (ldV false 1 v53 G') fun v54 => stepK (muA Try.prog 3 v54 (.d (.int .i64 y)) av G') G' fun v55 H56 => X [.ptr p 0 0 0, .d (.int .i64 nn), .d (.int .i64 y), av, .d (.int .i64 (kk : Int))] H56 := by
    intro D2 a1 a2 a3 a4
    have hms := ms5 a2.ms
    obtain ⟨o, f1, f2⟩ := (a2.c4.le (G := G'.only (D2 4)) (H := G') only_le).put (v := av) a4 y ast.1 ast.2
    have hans : ∀ {v2 : AV}, AnsV (G'.only (D2 4)) vT' v2 → AnsV ((G'.only (D2 4)).set x.m4 o) vT' v2 := fun hv => hv.keep fun i o' ho' h2 _ => set_ne fun he => by
     obtain ⟨es, cl, g1⟩ := a2.c4.isM
     have g1 : G'.only (D2 4) x.m4 = some (.map es cl) := g1
     rw [he, g1] at ho'; cases ho'; simp [osz] at h2
    obtain ⟨m1', m2', m3'⟩ := setMp a1 a2 (m := x.m4) (o := o) a2.c4.isM (fun hh => absurd hh.symm hms.2.2.1) (fun hh => absurd hh.symm hms.2.2.2.2.2.1) (fun hh => absurd hh.symm hms.2.2.2.2.2.2.2.1) (fun _ => (f2.eqs (G := G'.only (D2 4))).imp fun v2 hv2 => hans hv2) (fun hh => absurd hh hms.2.2.2.2.2.2.2.2.2)
    simp only [nilCk_ptr, ti65_f10, Nat.zero_add, ids a2 10 _ rfl, optA_some, f1, stepK_some, sets_cons, sets_nil']
    exact hX _ _ ⟨D2, _, _, rfl, m1', m2', fun k hk4 => (m3' k hk4).trans (a3 k hk4)⟩
   rcases ho.2.2 with ⟨rfl, h0⟩ | rfl | ⟨i, ver, L, rfl, g1, g2, g3, g4⟩
   ·refine put D s1 m1 (fun k hk4 => (s2 k).trans (t3 k hk4)) ⟨[], .inl ⟨rfl, rfl⟩, by simp, by simp, fun i hi => by cases hi⟩
   ·exact put D s1 m1 (fun k hk4 => (s2 k).trans (t3 k hk4)) ⟨ps, .inr (.inl rfl), by omega, hok, fun i hi => by cases hi⟩
   ·obtain ⟨b1', b2, b3, b4⟩ := t1.grow ho.le g4 (by rw [g1]; rfl) 4
    refine put _ b1' (t2.le b3) (fun k hk4 => (b2 k hk4).trans (t3 k hk4)) ⟨ps, .inr (.inr ⟨i, ver, 0, L, by rw [hpn], b4.trans g1, by rw [← hpn]; exact g2, by rw [← hpn]; exact g3⟩), by omega, hok, fun i' hi' hv => ?_⟩
    cases hi'
    obtain ⟨o, g5, _⟩ := t2.T.at hv
    rw [(only_some g5).2] at g4; cases g4
 rintro vs G1 ⟨D1, e1, e2, rfl, g1, g2, g3⟩
 obtain ⟨v, _, ⟨ps, hp, hpl', hpo, hpT⟩, lk, _⟩ := (g2.c4.le (H := G1) only_le).look (z := .d (.sl true [])) ⟨[], .inl ⟨rfl, rfl⟩, by simp, by simp, fun i hi => by cases hi⟩ y
 simp only [List.getD_cons_succ, List.getD_cons_zero, drA_true, nilCk_ptr, ti65_f1, ti65_f10, Nat.zero_add, ids g2 1 _ rfl, ids g2 10 _ rfl, optA_some, keyI, lk, frzLK_ptr, frzLK_d]
 refine giveAns g1 g2 hp hpT fun nl G2 h1 h2 h3 h4 h4m => ?_
 simp only [frzLK_nil]
 have c2 : ∀ k, k ≠ 4 → G2.only (D1 k) = H.only (D k) := fun k hk4 => (h4 k hk4).trans (g3 k hk4)
 refine h1.call 2 (sanswer_c (K := fun v H1 => ∃ Q' nl', (if (anS (fun x => x) sL sQ y ps).2.1 then PDn sQ y Q' else Q' = sQ) ∧ PS H1 x.s sm smp (anS (fun x => x) sL sQ y ps).1 Q' n ∧ v = .tup [.d (.sl nl' ((anS (fun x => x) sL sQ y ps).2.2.1.map Tr.dats)), .d (.int .i64 (anS (fun x => x) sL sQ y ps).2.2.2)]) (by rw [c2 2 (by decide)]; exact hS) (by omega) (by omega) (fun z hz => (hpo z hz).2) fun H1 Q' k1 k2 nl' _ => ⟨Q', nl', k1, k2, rfl⟩) ?_
 rintro v3 B3 G3 D3 ⟨Q', nl3, hQ', p3, rfl⟩ u1 u2 u3
 have hm3 : Mn (G3.only (D3 4)) p { x with vT := vT' } n := by rw [u3 4 (by decide)]; exact h2
 have hp3 : AnsP (G3.only (D3 4)) v ps := by rw [u3 4 (by decide)]; exact h3
 have hmap : G3 x.m4 = G1 x.m4 := by
  obtain ⟨es, cl, k1⟩ := g2.c4.isM
  have k1 : G1.only (D1 4) x.m4 = some (.map es cl) := k1
  obtain ⟨k2, k3⟩ := only_some k1
  have k4 := h4m _ _ _ k3
  have k5 : (G2.only (D1 4)) x.m4 = some (.map es cl) := by rw [only_in k2]; exact k4
  rw [← u3 4 (by decide)] at k5
  rw [(only_some k5).2, k3]
 have lk3 : lookA (.d (.sl true [])) (.map x.m4) (.d (.int .i64 y)) false G3 = some v := (lookA_congr hmap).trans lk
 simp only [extractA_0, extractA_1, drA_true, nilCk_ptr, ti65_f3, ti65_f10, Nat.zero_add, ids hm3 3 _ rfl, ids hm3 10 _ rfl, optA_some, keyI, lk3, frzLK_ptr, frzLK_d]
 refine giveAns u1 hm3 hp3 hpT fun nl4 G4 w1 w2 w3 w4 _ => ?_
 simp only [frzLK_nil]
 have c4 : ∀ k, k ≠ 4 → k ≠ 2 → G4.only (D3 k) = H.only (D k) := fun k hk4 hk2 => by rw [w4 k hk4, u3 k hk2, c2 k hk4]
 refine w1.call 3 (ranswerS_c (K := fun v H1 => ∃ r1 r2 R' nl', (if (anS (fun _ => false) sL sR y ps).2.1 then PDn sR y R' else R' = sR) ∧ RS H1 x.q r1 r2 (anS (fun _ => false) sL sR y ps).1 R' n ∧ v = .tup [.d (.sl nl' ((anS (fun _ => false) sL sR y ps).2.2.1.map Tr.dats)), .d (.int .i64 (anS (fun _ => false) sL sR y ps).2.2.2)]) (by rw [c4 3 (by decide) (by decide)]; exact hRS) (by omega) (by omega) (fun z hz => by have := (hpo z hz).1; omega) (fun z hz => (hpo z hz).2) fun H1 r1 r2 R' k1 k2 nl' _ => ⟨r1, r2, R', nl', k1, k2, rfl⟩) ?_
 rintro v5 B5 G5 D5 ⟨r1, r2, R', nl5, hR', p5, rfl⟩ x1 x2 x3
 have hm5 : Mn (G5.only (D5 4)) p { x with vT := vT' } n := by rw [x3 4 (by decide)]; exact w2
 obtain ⟨f1, _, f2⟩ := anS_same (f := fun x => x) (g := fun _ => false) (L := sL) (id := y) (ps := ps) hpl
 have hsim := anS_sim (L := sL) (id := y) (ps := ps) hpl
 have hpl5 := anS_pl hpl hQ' hR'
 obtain ⟨on, ol⟩ := anS_out (Q := sQ) (id := y) hS.ok fun z hz => (hpo z hz).2
 rw [← f1] at p5
 simp only [extractA_0, extractA_1, optA_some]
 refine jnX_inv (fun vs G' => G' = G5 ∧ vs = [.ptr p 0 0 0, .d (.int .i64 nn), .d (.int .i64 y), e1, e2, .d (.sl nl3 ((anS (fun x => x) sL sQ y ps).2.2.1.map Tr.dats))]) ?_ fun X hX => ?_
 rotate_left
 ·simp only [frzLK_d, frzLK_nil]
  refine sameList_c hsim (by omega) ?_
  simp only [← f2, ifA_t, intA_eql, decide_true, optA_some, frzLK_ptr, frzLK_d, frzLK_nil]
  exact differ_c (hm5.le only_le).obj (hX _ _ ⟨rfl, rfl⟩)
 rintro vs G6 ⟨rfl, rfl⟩
 simp only [List.getD_cons_succ, List.getD_cons_zero, nilCk_ptr, ti65_f5, Nat.zero_add, ids hm5 5 _ rfl, optA_some]
 refine appA_ (n := n) (x := { x with vT := vT' }) x1 hm5 (ys := (anS (fun x => x) sL sQ y ps).2.2.1) rfl on (by omega) (by omega) fun w' H8 D8 k1 k2 k3 k4 k5 => ?_
 simp only [k1, noRsA_nil, k2, stepK_some, sets_cons, sets_nil']
 generalize hH9 : H8.set p ({ x with vT := vT', vA := w' } : Mo).obj = H9 at k3 k4 k5
 have hms := ms5 k4.ms
 obtain ⟨o, y1, y2⟩ := (k4.c5.le (H := H9) only_le).put (v := .d (.int .i64 x.now)) ⟨_, rfl⟩ y rfl (fun l hh => by cases hh)
 obtain ⟨m1, m2, m3⟩ := setMp k3 k4 (o := o) k4.c5.isM (fun hh => absurd hh.symm hms.2.2.2.1) (fun hh => absurd hh.symm hms.2.2.2.2.2.2.1) (fun hh => absurd hh.symm hms.2.2.2.2.2.2.2.2.1) (fun hh => absurd hh.symm hms.2.2.2.2.2.2.2.2.2) (fun _ => y2.eqs)
 simp only [drA_true, nilCk_ptr, ti65_f11, ti65_f12, Nat.zero_add, ids k4 11 _ rfl, ids k4 12 _ rfl, optA_some, aggL_d, noRsA_nil, y1, stepK_some, sets_cons, sets_nil', ret0]
 have c9 : ∀ k, k ≠ 4 → (H9.set x.m5 o).only (D8 k) = G6.only (D5 k) := fun k hk4 => (m3 k hk4).trans (k5 k hk4)
 obtain ⟨z1, z2⟩ := mkPz (x := { x with vT := vT', vA := w' }) (n := n + 1) m1 (by rw [c9 0 (by decide), c9 1 (by decide), x3 0 (by decide), x3 1 (by decide), c4 0 (by decide) (by decide), c4 1 (by decide) (by decide)]; exact h.a)
  ⟨_, _, _, _, _, _, _, by rw [c9 2 (by decide), x3 2 (by decide), w4 2 (by decide), u2]; exact p3.mono (Nat.le_succ n), by rw [c9 3 (by decide), x2]; exact p5.mono (Nat.le_succ n), hpl5⟩ m2
 exact ⟨_, le_refl', hk _ _ _ z1 z2⟩
end
end Go.Proofs.Ytofjhihigmimbaa
namespace Go.Proofs.Ytofjhihigmimbaa
open Go Go.AM Go.Proofs
section
variable {H G G' H' : AHeap} {D : Nat → Nat → Prop} {p n n' j : Nat} {x x' : Mo} {v w : AV} {K : AV → AHeap → Prop} {l : List Tr}
theorem apart_of (hv : v ≠ .junk) (hw : w ≠ .junk) (h : ∀ i, idOf v = some i → idOf w ≠ some i) : apart v w := by
 cases v <;> first | exact absurd rfl hv | (cases w <;> first | exact absurd rfl hw | exact trivial | exact fun he => h _ rfl (by rw [he]; rfl) | (intro he; exact h _ rfl (by rw [he]; rfl)))
theorem tr_len {c : List Dat} (h : c ∈ l.map Tr.dats) : c.length = 8 := by obtain ⟨t, _, rfl⟩ := List.mem_map.1 h; rfl
theorem own_ix (h : Own noHeap 8 H v (l.map Tr.dats)) {k : Nat} {t : Tr} (hk : l[k]? = some t) : ∃ ad, indexAddrA ti60 8 v (.d (.int .i64 (k : Int))) = some ad ∧ (∀ G, AHeap.le H G → ldV true 8 ad G = some t.av) ∧ ad ≠ .junk ∧ ∀ i, idOf ad = some i → idOf v = some i := by
 have hk2 : (l.map Tr.dats)[k]? = some t.dats := by rw [List.getElem?_map, hk]; rfl
 have hkl := (List.getElem?_eq_some_iff.1 hk).1
 rcases h.2.2 with ⟨rfl, h1⟩ | rfl | ⟨i, ver, L, rfl, h2, h3, h4, _⟩
 ·rw [h1] at hk2; simp at hk2
 ·refine ⟨.vptr t.dats 0, ?_, fun G _ => rfl, (by intro hh; cases hh), fun i hi => by cases hi⟩
  have e : t.dats.length = 8 := rfl
  simp only [indexAddrA, ti60, Int.natCast_nonneg, if_true, Int.toNat_natCast, hk2, e]
 ·have hlen : (l.map Tr.dats).length = l.length := by simp
  have hL : L[k]? = some (t.dats.map AV.d) := by
   have h5 := congrArg (fun z => z[k]?) h3
   simp only [List.getElem?_take, avs, List.getElem?_map, hk] at h5
   rw [if_pos (by omega)] at h5
   simpa using h5
  refine ⟨.ptr i ver k 0, ?_, fun G hle => ?_, (by intro hh; cases hh), fun i hi => hi⟩
  ·have h6 : (k : Int) < ((l.map Tr.dats).length : Int) := by omega
   simp only [indexAddrA, ti60, Int.natCast_nonneg, h6, and_self, if_true, Int.toNat_natCast, Nat.zero_add]
  ·simp only [ldV, hle _ _ h2, if_true, hL]; rfl
theorem own_lo (h : Own noHeap 8 H v (l.map Tr.dats)) {k : Nat} (hk : k ≤ l.length) : ∃ s, sliceA 8 v (some (.d (.int .i64 (k : Int)))) none none H = some s ∧ elemsA s H = some (avs ((l.drop k).map Tr.dats)) := by
 have hlen : (l.map Tr.dats).length = l.length := by simp
 rcases h.2.2 with ⟨rfl, h1⟩ | rfl | ⟨i, ver, L, rfl, h2, h3, h4, _⟩
 ·have h0 : l = [] := by cases l with | nil => rfl | cons a r => cases h1
  subst h0
  have : k = 0 := by simpa using hk
  subst this
  exact ⟨.d (.sl true []), by simp [sliceA, bnd, headLen], rfl⟩
 ·have hh : k = 0 ∨ headLen 8 (l.map Tr.dats) = true := by
   cases l with
   | nil => left; simpa using hk
   | cons a r => right; rfl
  refine ⟨.lit ((l.drop k).map Tr.dats), ?_, rfl⟩
  have e : ((l.map Tr.dats).drop k).take ((l.map Tr.dats).length - k) = (l.drop k).map Tr.dats := by
   rw [List.map_drop, List.take_of_length_le (by simp)]
  simp only [sliceA, bnd, Int.natCast_nonneg, if_true, Int.toNat_natCast, hlen, hk, Nat.le_refl, hh, and_self]
  rw [← hlen, e]
 ·refine ⟨.rs i ver 8 (0 + k) (l.length - k), ?_, ?_⟩
  ·simp only [sliceA, h2, if_true, bnd, Int.natCast_nonneg, Int.toNat_natCast, hlen, hk, and_self, Nat.zero_add]
   have : l.length ≤ L.length := by omega
   simp [this]
  ·have h5 := congrArg (fun z => z.drop k) h3
   simp only [List.drop_take, hlen] at h5
   have h6 : (avs (l.map Tr.dats)).drop k = avs ((l.drop k).map Tr.dats) := by simp [avs, List.map_drop]
   simp only [elemsA, h2, if_true, Nat.zero_add]
   rw [h5, h6]
   simp [avs]
theorem own_hi (h : Own noHeap 8 H v (l.map Tr.dats)) {k : Nat} (hk : k ≤ l.length) : ∃ s, sliceA 8 v none (some (.d (.int .i64 (k : Int)))) none H = some s ∧ elemsA s H = some (avs ((l.take k).map Tr.dats)) := by
 have hlen : (l.map Tr.dats).length = l.length := by simp
 have e1 : ((l.map Tr.dats).drop 0).take (k - 0) = (l.take k).map Tr.dats := by simp [List.map_take]
 rcases h.2.2 with ⟨rfl, h1⟩ | rfl | ⟨i, ver, L, rfl, h2, h3, h4, _⟩
 ·have h0 : l = [] := by cases l with | nil => rfl | cons a r => cases h1
  subst h0
  have : k = 0 := by simpa using hk
  subst this
  exact ⟨.d (.sl true []), by simp [sliceA, bnd, headLen], rfl⟩
 ·by_cases hkl : k = l.length
  ·refine ⟨.lit ((l.take k).map Tr.dats), ?_, rfl⟩
   simp only [sliceA, bnd, Int.natCast_nonneg, if_true, Int.toNat_natCast, hlen, hk, Nat.zero_le, true_or, and_self, hkl, e1]
   rw [← hkl, e1]
   simp
  ·refine ⟨.d (.sl false ((l.take k).map Tr.dats)), ?_, rfl⟩
   simp only [sliceA, bnd, Int.natCast_nonneg, if_true, Int.toNat_natCast, hlen, hk, Nat.zero_le, true_or, and_self, hkl, if_false, e1]
 ·refine ⟨.rs i ver 8 (0 + 0) (k - 0), ?_, ?_⟩
  ·simp only [sliceA, h2, if_true, bnd, Int.natCast_nonneg, Int.toNat_natCast, Nat.zero_le, true_and]
   have : 0 + k ≤ L.length := by omega
   simp
   omega
  ·have h5 := congrArg (fun z => z.take k) h3
   simp only [List.take_take, hlen, Nat.min_eq_left hk] at h5
   have h6 : (avs (l.map Tr.dats)).take k = avs ((l.take k).map Tr.dats) := by simp [avs, List.map_take]
   simp only [elemsA, h2, if_true, Nat.zero_add, List.drop_zero, Nat.sub_zero]
   rw [h5, h6]
   have e7 : (avs ((l.take k).map Tr.dats)).length = k := by simp [avs]; omega
   simp [avs]; omega
theorem zbd {H : AHeap} : bdA Try.prog ti24 [] [] H = some (z0.av, []) := by
 simp only [bdA, frzAL, buildA, ti24, fillA, List.zip_nil_right, Option.map_some]
 rfl
theorem newE (h : K (.lit []) H) : newK H (fun m => bsA ti24 0 [] [] H m) K := fun m hm => h
set_option maxHeartbeats 2000000 in
theorem pick_c (h : Own noHeap 8 H v (l.map Tr.dats)) (hl : l.length < 2 ^ 38) {pl : Int} {b : Bool}
  (hk : ∀ (t : Tr) (w : AV) (l' : List Tr) (is : Bool) (H' : AHeap), AHeap.le H H' → Own noHeap 8 H' w (l'.map Tr.dats) → (∀ y ∈ l', y ∈ l) → l'.length ≤ l.length → (t = z0 ∨ t ∈ l) → (∀ i, idOf w = some i → (H' i).isSome ∧ (idOf v = some i ∨ H i = none)) → K (.tup [t.av, w, .d (.bool is)]) H') :
  CallsA Try.prog 64 [v, .d (.int .i64 pl), .d (.bool b)] H K := by
 apply C64m
 unfold S64m
 refine alloc_open fun u G hG hle hu => ?_
 have hlen : lenSl v = some (.d (.int .i64 l.length)) := by rw [h.len]; simp
 have hG1 : Own noHeap 8 G v (l.map Tr.dats) := own_more h hle
 have vid : ∀ i, idOf v = some i → (H i).isSome := fun i hi => h.rd.2.2 i hi
 have vu : ∀ i, idOf v = some i → i ≠ u := fun i hi he => by have := vid i hi; rw [he, hu] at this; cases this
 have leS : ∀ {X : AHeap} {o : AObj}, AHeap.le H X → AHeap.le H (X.set u o) := fun hx => le_set_own hx hu
 simp only [hlen, optA_some, intA_eql, ifA_ite]
 by_cases h0 : l = []
 ·subst h0
  rw [if_pos (by simp)]
  simp only [zbd, stepK_some, sets_nil', sto8 rfl hG, sets_cons, ld8 set_self, optA_some]
  refine ⟨_, le_refl', hk z0 v [] false _ (leS hle) (own_more h (leS hle)) (by simp) (by simp) (.inl rfl) fun i hi => ⟨?_, .inl hi⟩⟩
  rw [le_keep (leS hle) (vid i hi)]; exact vid i hi
 have hl0 : 0 < l.length := by cases l with | nil => exact absurd rfl h0 | cons a r => simp
 rw [if_neg (by omega)]
 have hne : ((l.length : Int)) ≠ 0 := by omega
 obtain ⟨k, hkl, hkk⟩ : ∃ k : Nat, k < l.length ∧ (if (0 : Int) > pl then 0 else pl).tmod (l.length : Int) = (k : Int) := by
  have hp : 0 ≤ (if (0 : Int) > pl then 0 else pl) := by split <;> omega
  have h1 := Int.tmod_nonneg (l.length : Int) hp
  have h2 := Int.tmod_lt_of_pos (if (0 : Int) > pl then 0 else pl) (show (0 : Int) < l.length by omega)
  exact ⟨((if (0 : Int) > pl then 0 else pl).tmod (l.length : Int)).toNat, by omega, by omega⟩
 obtain ⟨t, ht⟩ : ∃ t, l[k]? = some t := ⟨_, List.getElem?_eq_getElem hkl⟩
 have htm := List.mem_of_getElem? ht
 obtain ⟨ad, a1, a2, a3, a4⟩ := own_ix hG1 ht
 simp only [fmax, intA_rem hne, hkk, optA_some, a1, a2 G le_refl']
 cases b
 rotate_left
 ·simp only [ifA_t, sto8 rfl hG, stepK_some, sets_cons, sets_nil', ld8 set_self, optA_some]
  refine ⟨_, le_refl', hk t v l true _ (leS hle) (own_more h (leS hle)) (fun _ hy => hy) (Nat.le_refl _) (.inr htm) fun i hi => ⟨?_, .inl hi⟩⟩
  rw [le_keep (leS hle) (vid i hi)]; exact vid i hi
 simp only [ifA_f, drA_true]
 refine newE ?_
 obtain ⟨s1, b1, b2⟩ := own_hi hG1 (k := k) (by omega)
 have vj : v ≠ .junk := by rcases h.2.2 with ⟨rfl, _⟩ | rfl | ⟨i, ver, L, rfl, _⟩ <;> (intro hh; cases hh)
 refine ⟨apart_of (by intro hh; cases hh) vj (by intro i hi; cases hi), ?_⟩
 simp only [b1, optA_some]
 refine ⟨apart_of (by intro hh; cases hh) a3 (by intro i hi; cases hi), ?_⟩
 refine (Own.lit (H0 := noHeap) (H := G) (sz := 8) (l := ([] : List (List Dat))) noHeap_le (by simp)).app (ys := (l.take k).map Tr.dats) b2 (by decide) (by decide) (fun c hc => tr_len hc) (by simp [mostBytes]; omega) fun w1 G1 c1 c2 c3 _ => ?_
 rw [List.nil_append] at c1
 have hle1 : AHeap.le G G1 := fun i o hi => by rw [c2 i (by rw [hi]; rfl) (by intro hh; cases hh)]; exact hi
 have w1new : ∀ i, idOf w1 = some i → G i = none := fun i hi => (c3 i hi).resolve_left fun hh => by cases hh
 have w1j : w1 ≠ .junk := by rcases c1.2.2 with ⟨rfl, _⟩ | rfl | ⟨i, ver, L, rfl, _⟩ <;> (intro hh; cases hh)
 have w1v : ∀ i, idOf w1 = some i → idOf v ≠ some i := fun i hi hv => by
  have h1 := vid i hv
  rw [← le_keep hle h1, w1new i hi] at h1; cases h1
 have hw : IntKind.i64.wrap ((k : Int) + 1) = ((k + 1 : Nat) : Int) := by rw [wrap_i64 (by omega) (by omega)]; omega
 obtain ⟨s2, d1, d2⟩ := own_lo (own_more hG1 hle1) (k := k + 1) (by omega)
 simp only [intA_add, hw, optA_some]
 refine ⟨apart_of (by intro hh; cases hh) vj (by intro i hi; cases hi), apart_of w1j vj w1v, apart_of (by intro hh; cases hh) vj (by intro i hi; cases hi), ?_⟩
 simp only [d1, optA_some]
 refine ⟨apart_of w1j a3 fun i hi hh => w1v i hi (a4 i hh), ?_⟩
 refine c1.app (ys := (l.drop (k + 1)).map Tr.dats) d2 (by decide) (by decide) (fun c hc => tr_len hc) (by simp [mostBytes]; omega) fun w2 G2 f1 f2 f3 _ => ?_
 rw [← List.map_append] at f1
 have hle2 : AHeap.le G G2 := fun i o hi => by
  have h1 := hle1 i o hi
  rw [f2 i (by rw [h1]; rfl) fun hh => by have := w1new i hh; rw [hi] at this; cases this]; exact h1
 have w2new : ∀ i, idOf w2 = some i → G i = none := fun i hi => by
  rcases f3 i hi with hh | hh
  ·exact w1new i hh
  ·cases hg : G i with
   | none => rfl
   | some o => rw [hle1 i o hg] at hh; cases hh
 have hGu : (G u).isSome := by rw [hG]; rfl
 have w2u : ∀ i, idOf w2 = some i → i ≠ u := fun i hi he => by have := w2new i hi; rw [he] at this; rw [this] at hGu; cases hGu
 have hG2u := hle2 _ _ hG
 simp only [trRs, sto8 rfl hG2u, stepK_some, sets_cons, sets_nil', ld8 set_self, optA_some]
 have hle3 := leS (X := G2) (o := .mem 0 0 8 [t.cells]) (le_trans' hle hle2)
 refine ⟨_, le_refl', hk t w2 (l.take k ++ l.drop (k + 1)) true _ hle3 (f1.other noHeap_le fun i hi => set_ne (w2u i hi)) (fun y hy => ?_) (by rw [List.length_append, List.length_take, List.length_drop]; omega) (.inr htm) fun i hi => ⟨?_, .inr ?_⟩⟩
 ·rcases List.mem_append.1 hy with hy | hy
  ·exact List.mem_of_mem_take hy
  ·exact List.mem_of_mem_drop hy
 ·rw [set_ne (w2u i hi)]; exact f1.rd.2.2 i hi
 ·cases hg : H i with
  | none => rfl
  | some o => have := w2new i hi; rw [hle i o hg] at this; cases this
end
end Go.Proofs.Ytofjhihigmimbaa
namespace Go.Proofs.Ytofjhihigmimbaa
open Go Go.AM Go.Proofs
section
variable {H G G' H' : AHeap} {D : Nat → Nat → Prop} {p n n' j : Nat} {x x' : Mo} {v w : AV} {K : AV → AHeap → Prop}
theorem putS (hs : Sep H D) (hm : Mn (H.only (D 4)) p x n) {l : List Tr} {w : AV} {H1 : AHeap} (w1 : Own noHeap 8 H1 w (l.map Tr.dats)) (w2 : ∀ i, (H i).isSome → idOf x.vS ≠ some i → H1 i = H i) (w3 : ∀ i, idOf w = some i → idOf x.vS = some i ∨ H i = none) (o2 : ∀ t ∈ l, t.nl = true → t.data = []) (hl : l.length ≤ 200 * (n + 1)) :
  ∃ D', aggL w = [] ∧ stoA false 1 (.ptr p 0 0 4) w H1 = some (.junk, [(p, ({ x with vS := w } : Mo).obj)]) ∧ Sep (H1.set p ({ x with vS := w } : Mo).obj) D' ∧ Mn ((H1.set p ({ x with vS := w } : Mo).obj).only (D' 4)) p { x with vS := w } (n + 1) ∧ ∀ k, k ≠ 4 → (H1.set p ({ x with vS := w } : Mo).obj).only (D' k) = H.only (D k) := by
 have oid : ∀ i, idOf x.vS = some i → D 4 i := fun i hi => by
  obtain ⟨o, h1, _⟩ := hm.S.at hi
  exact (only_some h1).1
 have hp4 : D 4 p := (only_some hm.obj).1
 have wid : ∀ i, idOf w = some i → (H1 i).isSome ∧ (D 4 i ∨ H i = none) := fun i hi => by
  refine ⟨?_, (w3 i hi).imp (oid i) id⟩
  rcases w1.2.2 with ⟨rfl, _⟩ | rfl | ⟨j, ver, L, rfl, h2, _⟩
  ·cases hi
  ·cases hi
  ·cases hi; rw [h2]; rfl
 have hout : ∀ i, (H i).isSome → ¬ D 4 i → H1 i = H i := fun i hi hd => w2 i hi fun hh => hd (oid i hh)
 obtain ⟨s1, s2⟩ := hs.to (H' := H1) (j := 4) (A := fun i => (D 4 i ∧ idOf x.vS ≠ some i) ∨ idOf w = some i) (fun i hi => by
  rcases hi with hi | hi
  ·rw [w2 i (hs.dom 4 i hi.1) hi.2]; exact hs.dom 4 i hi.1
  ·exact (wid i hi).1) (fun i hi => by
  rcases hi with hi | hi
  ·exact .inl hi.1
  ·exact (wid i hi).2) hout
 have s4 : (swp D 4 fun i => (D 4 i ∧ idOf x.vS ≠ some i) ∨ idOf w = some i) 4 = fun i => (D 4 i ∧ idOf x.vS ≠ some i) ∨ idOf w = some i := swp_self
 have kk : ∀ i o, H.only (D 4) i = some o → idOf x.vS ≠ some i → H1.only (fun i => (D 4 i ∧ idOf x.vS ≠ some i) ∨ idOf w = some i) i = some o := fun i o hi hne => by
  obtain ⟨h1, h2⟩ := only_some hi
  rw [only_in (D := fun i => (D 4 i ∧ idOf x.vS ≠ some i) ∨ idOf w = some i) (.inl ⟨h1, hne⟩), w2 i (by rw [h2]; rfl) hne]; exact h2
 have sne : ∀ i o, H.only (D 4) i = some o → osz o ≠ 9 → idOf x.vS ≠ some i := fun i o hi ho hv => by
  obtain ⟨o', g1, g2⟩ := hm.S.at hv
  rw [g1] at hi; cases hi; exact ho g2
 have k9 : ∀ i o, H.only (D 4) i = some o → osz o ≠ 9 → H1.only (fun i => (D 4 i ∧ idOf x.vS ≠ some i) ∨ idOf w = some i) i = H.only (D 4) i := fun i o hi ho => by rw [hi]; exact kk i o hi (sne i o hi ho)
 have hmc : Mc (H1.only (fun i => (D 4 i ∧ idOf x.vS ≠ some i) ∨ idOf w = some i)) p x := hm.core.keep fun i o hi ho => kk i o hi (sne i o hi (by omega))
 have hn1 := hmc.setP (x' := { x with vS := w }) (n' := n + 1) rfl ⟨l, w1.other noHeap_le fun i hi => only_in (D := fun i => (D 4 i ∧ idOf x.vS ≠ some i) ∨ idOf w = some i) (.inr hi), o2, hl⟩
  ((hm.A.keep fun i hi => by
   obtain ⟨o, g1, _⟩ := hm.A.at hi
   rw [g1]; exact kk i o g1 fun hv => hm.ne i hv hi).mono (Nat.le_succ n))
  (fun i hi hA => by
   rcases w3 i hi with hv | hv
   ·exact hm.ne i hv hA
   ·obtain ⟨o, g1, _⟩ := hm.A.at hA
    rw [(only_some g1).2] at hv; cases hv)
  ((hm.T.keep fun i hi => by
   obtain ⟨o, g1, g2⟩ := hm.T.at hi
   exact k9 i o g1 (by omega)).mono (Nat.le_succ n))
  ((hm.c4.imp fun v hv => hv.keep fun i o ho g2 _ => k9 i o ho (by omega)).keep (by
   obtain ⟨es, cl, g1⟩ := hm.c4.isM
   exact k9 _ _ g1 (by simp [osz])))
 have hpA : (swp D 4 fun i => (D 4 i ∧ idOf x.vS ≠ some i) ∨ idOf w = some i) 4 p := by rw [s4]; exact .inl ⟨hp4, sne p _ hm.obj (by simp [osz])⟩
 obtain ⟨t1, t2, t3⟩ := s1.set (o := ({ x with vS := w } : Mo).obj) hpA
 have hp1 : H1 p = some x.obj := by rw [w2 p (hs.dom 4 p hp4) (sne p _ hm.obj (by simp [osz]))]; exact (only_some hm.obj).2
 have wst : w.storable = true ∧ w.cells = [w] ∧ aggL w = [] := by
  rcases w1.2.2 with ⟨rfl, _⟩ | rfl | ⟨j, ver, L, rfl, h2, _⟩ <;> exact ⟨rfl, rfl, rfl⟩
 refine ⟨_, wst.2.2, (stoA_at hp1 (Nat.le_refl 0) rfl (show 4 < 15 by decide) wst.1 wst.2.1), t1, ?_, fun k hk4 => (t3 k hk4).trans (s2 k hk4)⟩
 rw [t2, s4]; exact hn1
theorem putA (hs : Sep H D) (hm : Mn (H.only (D 4)) p x n) {l : List Tr} {w : AV} {H1 : AHeap} (w1 : Own noHeap 8 H1 w (l.map Tr.dats)) (w2 : ∀ i, (H i).isSome → idOf x.vA ≠ some i → H1 i = H i) (w3 : ∀ i, idOf w = some i → idOf x.vA = some i ∨ H i = none) (o2 : ∀ t ∈ l, t.nl = true → t.data = []) (hl : l.length ≤ 200 * (n + 1)) :
  ∃ D', aggL w = [] ∧ stoA false 1 (.ptr p 0 0 5) w H1 = some (.junk, [(p, ({ x with vA := w } : Mo).obj)]) ∧ Sep (H1.set p ({ x with vA := w } : Mo).obj) D' ∧ Mn ((H1.set p ({ x with vA := w } : Mo).obj).only (D' 4)) p { x with vA := w } (n + 1) ∧ ∀ k, k ≠ 4 → (H1.set p ({ x with vA := w } : Mo).obj).only (D' k) = H.only (D k) := by
 have oid : ∀ i, idOf x.vA = some i → D 4 i := fun i hi => by
  obtain ⟨o, h1, _⟩ := hm.A.at hi
  exact (only_some h1).1
 have hp4 : D 4 p := (only_some hm.obj).1
 have wid : ∀ i, idOf w = some i → (H1 i).isSome ∧ (D 4 i ∨ H i = none) := fun i hi => by
  refine ⟨?_, (w3 i hi).imp (oid i) id⟩
  rcases w1.2.2 with ⟨rfl, _⟩ | rfl | ⟨j, ver, L, rfl, h2, _⟩
  ·cases hi
  ·cases hi
  ·cases hi; rw [h2]; rfl
 have hout : ∀ i, (H i).isSome → ¬ D 4 i → H1 i = H i := fun i hi hd => w2 i hi fun hh => hd (oid i hh)
 obtain ⟨s1, s2⟩ := hs.to (H' := H1) (j := 4) (A := fun i => (D 4 i ∧ idOf x.vA ≠ some i) ∨ idOf w = some i) (fun i hi => by
  rcases hi with hi | hi
  ·rw [w2 i (hs.dom 4 i hi.1) hi.2]; exact hs.dom 4 i hi.1
  ·exact (wid i hi).1) (fun i hi => by
  rcases hi with hi | hi
  ·exact .inl hi.1
  ·exact (wid i hi).2) hout
 have s4 : (swp D 4 fun i => (D 4 i ∧ idOf x.vA ≠ some i) ∨ idOf w = some i) 4 = fun i => (D 4 i ∧ idOf x.vA ≠ some i) ∨ idOf w = some i := swp_self
 have kk : ∀ i o, H.only (D 4) i = some o → idOf x.vA ≠ some i → H1.only (fun i => (D 4 i ∧ idOf x.vA ≠ some i) ∨ idOf w = some i) i = some o := fun i o hi hne => by
  obtain ⟨h1, h2⟩ := only_some hi
  rw [only_in (D := fun i => (D 4 i ∧ idOf x.vA ≠ some i) ∨ idOf w = some i) (.inl ⟨h1, hne⟩), w2 i (by rw [h2]; rfl) hne]; exact h2
 have sne : ∀ i o, H.only (D 4) i = some o → osz o ≠ 9 → idOf x.vA ≠ some i := fun i o hi ho hv => by
  obtain ⟨o', g1, g2⟩ := hm.A.at hv
  rw [g1] at hi; cases hi; exact ho g2
 have k9 : ∀ i o, H.only (D 4) i = some o → osz o ≠ 9 → H1.only (fun i => (D 4 i ∧ idOf x.vA ≠ some i) ∨ idOf w = some i) i = H.only (D 4) i := fun i o hi ho => by rw [hi]; exact kk i o hi (sne i o hi ho)
 have hmc : Mc (H1.only (fun i => (D 4 i ∧ idOf x.vA ≠ some i) ∨ idOf w = some i)) p x := hm.core.keep fun i o hi ho => kk i o hi (sne i o hi (by omega))
 have hn1 := hmc.setP (x' := { x with vA := w }) (n' := n + 1) rfl 
  ((hm.S.keep fun i hi => by
   obtain ⟨o, g1, _⟩ := hm.S.at hi
   rw [g1]; exact kk i o g1 fun hv => hm.ne i hi hv).mono (Nat.le_succ n))
  ⟨l, w1.other noHeap_le fun i hi => only_in (D := fun i => (D 4 i ∧ idOf x.vA ≠ some i) ∨ idOf w = some i) (.inr hi), o2, hl⟩
  (fun i hS hi => by
   rcases w3 i hi with hv | hv
   ·exact hm.ne i hS hv
   ·obtain ⟨o, g1, _⟩ := hm.S.at hS
    rw [(only_some g1).2] at hv; cases hv)
  ((hm.T.keep fun i hi => by
   obtain ⟨o, g1, g2⟩ := hm.T.at hi
   exact k9 i o g1 (by omega)).mono (Nat.le_succ n))
  ((hm.c4.imp fun v hv => hv.keep fun i o ho g2 _ => k9 i o ho (by omega)).keep (by
   obtain ⟨es, cl, g1⟩ := hm.c4.isM
   exact k9 _ _ g1 (by simp [osz])))
 have hpA : (swp D 4 fun i => (D 4 i ∧ idOf x.vA ≠ some i) ∨ idOf w = some i) 4 p := by rw [s4]; exact .inl ⟨hp4, sne p _ hm.obj (by simp [osz])⟩
 obtain ⟨t1, t2, t3⟩ := s1.set (o := ({ x with vA := w } : Mo).obj) hpA
 have hp1 : H1 p = some x.obj := by rw [w2 p (hs.dom 4 p hp4) (sne p _ hm.obj (by simp [osz]))]; exact (only_some hm.obj).2
 have wst : w.storable = true ∧ w.cells = [w] ∧ aggL w = [] := by
  rcases w1.2.2 with ⟨rfl, _⟩ | rfl | ⟨j, ver, L, rfl, h2, _⟩ <;> exact ⟨rfl, rfl, rfl⟩
 refine ⟨_, wst.2.2, (stoA_at hp1 (Nat.le_refl 0) rfl (show 5 < 15 by decide) wst.1 wst.2.1), t1, ?_, fun k hk4 => (t3 k hk4).trans (s2 k hk4)⟩
 rw [t2, s4]; exact hn1
end
end Go.Proofs.Ytofjhihigmimbaa
namespace Go.Proofs.Ytofjhihigmimbaa
open Go Go.AM Go.Proofs
section
variable {H G G' H' : AHeap} {D : Nat → Nat → Prop} {p n n' j u : Nat} {x x' : Mo} {v w : AV} {K : AV → AHeap → Prop} {o : AObj}
theorem Pz.same (h : Pz H D p x n) (hn : n ≤ n') (hs : Sep G D) (he : ∀ k, G.only (D k) = H.only (D k)) : Pz G D p x n' := by
 obtain ⟨h1, h2, h3, h4⟩ := h
 exact ⟨hs, by rw [he 0, he 1]; exact h2, by rw [he 2, he 3]; exact sS_mono hn h3, by rw [he 4]; exact h4.mono hn⟩
theorem Pz.le (h : Pz H D p x n) (hle : AHeap.le H G) : Pz G D p x n := by
 obtain ⟨s1, s2⟩ := h.sep.le hle
 exact h.same (Nat.le_refl n) s1 s2
theorem Pz.mono (h : Pz H D p x n) (hn : n ≤ n') : Pz H D p x n' := h.same hn h.sep fun _ => rfl
theorem Sep.out (hs : Sep H D) (hu : ∀ j, ¬ D j u) : Sep (H.set u o) D ∧ ∀ j, (H.set u o).only (D j) = H.only (D j) := by
 have k : ∀ j i, D j i → (H.set u o) i = H i := fun j i hi => set_ne fun he => hu j (he ▸ hi)
 exact ⟨⟨fun j i hi => by rw [k j i hi]; exact hs.dom j i hi, hs.one⟩, fun j => only_congr (fun i hi => k j i hi) fun i => Iff.rfl⟩
theorem Pz.out (h : Pz H D p x n) (hu : ∀ j, ¬ D j u) : Pz (H.set u o) D p x n := by
 obtain ⟨s1, s2⟩ := h.sep.out (o := o) hu
 exact h.same (Nat.le_refl n) s1 s2
theorem le_set2 (hle : AHeap.le H G) : AHeap.le (H.set u o) (G.set u o) := fun i a hi => by
 by_cases he : i = u
 ·subst he; rw [set_self] at hi ⊢; exact hi
 ·rw [set_ne he] at hi ⊢; exact hle i a hi
theorem none_out (hs : Sep H D) (hu : H u = none) (j : Nat) : ¬ D j u := fun hd => by have := hs.dom j u hd; rw [hu] at this; cases this
theorem pickS {l l' : List Tr} {H1 : AHeap} (h : Pz H D p x n) (hle : AHeap.le H H1) (hw : Own noHeap 8 H1 w (l'.map Tr.dats)) (hsub : ∀ y ∈ l', y ∈ l) (hlen : l'.length ≤ l.length) (hl : l.length ≤ 200 * n) (hok : ∀ t ∈ l, t.nl = true → t.data = []) (hid : ∀ i, idOf w = some i → idOf x.vS = some i ∨ H i = none) :
  ∃ D', aggL w = [] ∧ stoA false 1 (.ptr p 0 0 4) w H1 = some (.junk, [(p, ({ x with vS := w } : Mo).obj)]) ∧ Pz (H1.set p ({ x with vS := w } : Mo).obj) D' p { x with vS := w } (n + 1) ∧ ∀ k, k ≠ 4 → (H1.set p ({ x with vS := w } : Mo).obj).only (D' k) = H.only (D k) := by
 obtain ⟨D', k1, k2, k3, k4, k5⟩ := putS h.sep h.m hw (fun i hi _ => le_keep hle hi) hid (fun t ht => hok t (hsub t ht)) (by omega)
 exact ⟨D', k1, k2, ⟨k3, by rw [k5 0 (by decide), k5 1 (by decide)]; exact h.a, by rw [k5 2 (by decide), k5 3 (by decide)]; exact sS_mono (Nat.le_succ n) h.s, k4⟩, k5⟩
theorem pickA {l l' : List Tr} {H1 : AHeap} (h : Pz H D p x n) (hle : AHeap.le H H1) (hw : Own noHeap 8 H1 w (l'.map Tr.dats)) (hsub : ∀ y ∈ l', y ∈ l) (hlen : l'.length ≤ l.length) (hl : l.length ≤ 200 * n) (hok : ∀ t ∈ l, t.nl = true → t.data = []) (hid : ∀ i, idOf w = some i → idOf x.vA = some i ∨ H i = none) :
  ∃ D', aggL w = [] ∧ stoA false 1 (.ptr p 0 0 5) w H1 = some (.junk, [(p, ({ x with vA := w } : Mo).obj)]) ∧ Pz (H1.set p ({ x with vA := w } : Mo).obj) D' p { x with vA := w } (n + 1) ∧ ∀ k, k ≠ 4 → (H1.set p ({ x with vA := w } : Mo).obj).only (D' k) = H.only (D k) := by
 obtain ⟨D', k1, k2, k3, k4, k5⟩ := putA h.sep h.m hw (fun i hi _ => le_keep hle hi) hid (fun t ht => hok t (hsub t ht)) (by omega)
 exact ⟨D', k1, k2, ⟨k3, by rw [k5 0 (by decide), k5 1 (by decide)]; exact h.a, by rw [k5 2 (by decide), k5 3 (by decide)]; exact sS_mono (Nat.le_succ n) h.s, k4⟩, k5⟩
theorem Pz.cut (h : Pz H D p x n) : Pz H (fun j i => j < 5 ∧ D j i) p x n ∧ ∀ j i, 5 ≤ j → ¬ (j < 5 ∧ D j i) := mkPz h.sep h.a h.s h.m
theorem So.whole (h : So (H.only (D 4)) v n) : ∃ l : List Tr, Own noHeap 8 H v (l.map Tr.dats) ∧ (∀ t ∈ l, t.nl = true → t.data = []) ∧ l.length ≤ 200 * n ∧ ∀ i, idOf v = some i → D 4 i := by
 obtain ⟨l, h1, h2, h3⟩ := h
 have hid : ∀ i, idOf v = some i → D 4 i ∧ (H.only (D 4)) i = H i := fun i hi => by
  obtain ⟨a, g1, _⟩ := (show So (H.only (D 4)) v n from ⟨l, h1, h2, h3⟩).at hi
  have := only_some g1
  exact ⟨this.1, by rw [g1, this.2]⟩
 exact ⟨l, h1.other noHeap_le fun i hi => (hid i hi).2.symm, h2, h3, fun i hi => (hid i hi).1⟩
theorem frzLK_mv {a : Mv} {l : List AV} {X : List AV → AHeap → Prop} : frzLK (a.av :: l) H X = frzLK l H fun l' H' => X (a.av :: l') H' := by
 simp only [Mv.av, Mv.cells, frzLK_agg, frzL_cons, frz_d, frzL_nil, sets_nil', List.append_nil, optA_some]
theorem tok {l : List Tr} {t : Tr} (hl : ∀ t ∈ l, t.nl = true → t.data = []) (h : t = z0 ∨ t ∈ l) : t.nl = true → t.data = [] := by
 rcases h with rfl | h
 ·intro _; rfl
 ·exact hl t h
set_option maxHeartbeats 4000000 in
theorem do_c (h : Pz H D p x n) (h5 : ∀ j i, 5 ≤ j → ¬ D j i) (hn : n < 2 ^ 16) {a : Mv} (hk : ∀ H' D' x', Pz H' D' p x' (n + 3) → (∀ j i, 5 ≤ j → ¬ D' j i) → K (.tup []) H') : CallsA Try.prog 26 [.ptr p 0 0 0, a.av] H K := by
 apply C26
 unfold S26
 refine box_open rfl fun u G0 hG0 hle0 hu0 => ?_
 have hG0 : G0 u = some (.mem 0 0 5 [a.cells]) := hG0
 simp only [zbd, stepK_some, sets_nil']
 refine alloc_open fun b G hG hle hb => ?_
 have hbH : H b = none := by
  cases hh : H b with
  | none => rfl
  | some o => rw [hle0 _ _ hh] at hb; cases hb
 have hub : u ≠ b := fun he => by rw [he, hb] at hG0; cases hG0
 simp only [sto8 rfl hG, stepK_some, sets_cons, sets_nil']
 have hleG : AHeap.le H (G.set b (.mem 0 0 8 [z0.cells])) := le_set_own (le_trans' hle0 hle) hbH
 generalize hG1 : G.set b (.mem 0 0 8 [z0.cells]) = G1 at hleG
 have g1u : G1 u = some (.mem 0 0 5 [a.cells]) := by rw [← hG1, set_ne hub]; exact hle _ _ hG0
 have g1b : G1 b = some (.mem 0 0 8 [z0.cells]) := by rw [← hG1]; exact set_self
 have hz := h.le hleG
 have nb : ∀ j, ¬ D j b := none_out h.sep hbH
 have lu : ∀ (i : Nat) (y : AV), a.cells[i]? = some y → ldV false 1 (.ptr u 0 0 i) G1 = some y := fun i y hy => ldV_at g1u rfl hy
 have la : ldV true 5 (.ptr u 0 0 0) G1 = some a.av := by simp only [ldV, g1u, if_true]; rfl
 have lm : ∀ (i : Nat) (y : AV), x.cells[i]? = some y → ldV false 1 (.ptr p 0 0 i) G1 = some y := fun i y hy => ldV_at (hz.m.le only_le).obj rfl hy
 have done : ∀ (X : AHeap) (D' : Nat → Nat → Prop) (x' : Mo) (m : Nat), m ≤ n + 3 → Pz X D' p x' m → retF [] X K := fun X D' x' m hm hp => by
  rw [ret0]
  obtain ⟨c1, c2⟩ := (hp.mono hm).cut
  exact ⟨_, le_refl', hk X _ x' c1 c2⟩
 simp only [ti68_f0, Nat.zero_add, Nat.add_zero, lu 0 _ rfl, optA_some, intA_eql, ifA_ite]
 refine ite_of (fun _ => ?_) fun h0 => ?_
 ·simp only [la, optA_some, frzLK_ptr, frzLK_mv, frzLK_nil]
  exact pairAsk_c hz h5 (by omega) fun H' D' x' k1 k2 => done H' D' x' _ (by omega) k1
 refine ite_of (fun _ => ?_) fun h1 => ?_
 ·simp only [frzLK_ptr, frzLK_nil]
  exact ptk_c hz h5 (by omega) fun H' D' x' k1 k2 => done H' D' x' _ (by omega) k1
 refine jnX_inv (fun vs G' => ∃ c : Bool, G' = G1 ∧ vs = [.ptr p 0 0 0, .ptr u 0 0 0, .ptr b 0 0 0, .d (.int .i64 a.do_), .d (.bool c)]) ?_ fun X hX => ?_
 rotate_left
 ·refine ite_of (fun _ => hX _ _ ⟨_, rfl, rfl⟩) fun _ => hX _ _ ⟨_, rfl, rfl⟩
 rintro vs G2 ⟨c, rfl, rfl⟩
 -- what is common to all that pick
 obtain ⟨lS, oS, okS, lenS, idS⟩ := hz.m.S.whole
 obtain ⟨lA, oA, okA, lenA, idA⟩ := hz.m.A.whole
 cases c
 rotate_left
 ·simp only [List.getD_cons_succ, List.getD_cons_zero, ifA_t, drA_true, nilCk_ptr, ti65_f4, ti68_f0, ti68_f1, Nat.zero_add, Nat.add_zero, lm 4 _ rfl, lu 0 _ rfl, lu 1 _ rfl, optA_some, intA_eql]
  refine pick_c oS (by omega) fun t w l' is H1 hle1 hw hsub hlen ht hid => ?_
  have h1b := hle1 _ _ g1b
  have hzb := hz.out (u := b) (o := .mem 0 0 8 [t.cells]) nb
  have hvb : ∀ i, idOf x.vS = some i → i ≠ b := fun i hi he => nb 4 (he ▸ idS i hi)
  have hwb : ∀ i, idOf w = some i → i ≠ b := fun i hi he => by
   rcases (hid i hi).2 with hh | hh
   ·exact hvb i hh he
   ·rw [he, g1b] at hh; cases hh
  obtain ⟨D', k1, k2, k3, k4⟩ := pickS hzb (le_set2 hle1) (hw.other noHeap_le fun i hi => set_ne (hwb i hi)) hsub hlen lenS okS (fun i hi => by
   rcases (hid i hi).2 with hh | hh
   ·exact .inl hh
   ·exact .inr (by rw [set_ne (hwb i hi)]; exact hh))
  have hpb : b ≠ p := fun he => nb 4 (he ▸ (only_some hz.m.obj).1)
  have l8 : ldV true 8 (.ptr b 0 0 0) ((H1.set b (.mem 0 0 8 [t.cells])).set p ({ x with vS := w } : Mo).obj) = some t.av := ld8 (by rw [set_ne hpb, set_self])
  simp only [extractA_0, extractA_1, extractA_2, optA_some, trRs, sto8 rfl h1b, stepK_some, sets_cons, sets_nil', k1, noRsA_nil, k2]
  cases is
  ·simp only [ifA_f]
   exact done _ D' _ (n + 1) (by omega) k3
  ·simp only [ifA_t, l8, optA_some, frzLK_ptr, frzLK_tr, frzLK_nil]
   obtain ⟨c1, c2⟩ := k3.cut
   exact come_c c1 c2 (by omega) (tok okS ht) fun H' D' x' k1 k2 => done H' D' x' _ (by omega) k1
 simp only [List.getD_cons_succ, List.getD_cons_zero, ifA_f]
 refine jnX_inv (fun vs G' => ∃ c : Bool, G' = G2 ∧ vs = [.ptr p 0 0 0, .ptr u 0 0 0, .ptr b 0 0 0, .d (.int .i64 a.do_), .d (.bool c)]) ?_ fun X hX => ?_
 rotate_left
 ·simp only [intA_eql, optA_some, ifA_ite]
  refine ite_of (fun _ => hX _ _ ⟨_, rfl, rfl⟩) fun _ => hX _ _ ⟨_, rfl, rfl⟩
 rintro vs G3 ⟨c, rfl, rfl⟩
 cases c
 rotate_left
 ·simp only [List.getD_cons_succ, List.getD_cons_zero, ifA_t, drA_true, nilCk_ptr, ti65_f5, ti68_f0, ti68_f1, Nat.zero_add, Nat.add_zero, lm 5 _ rfl, lu 0 _ rfl, lu 1 _ rfl, optA_some, intA_eql]
  refine pick_c oA (by omega) fun t w l' is H1 hle1 hw hsub hlen ht hid => ?_
  have h1b := hle1 _ _ g1b
  have hzb := hz.out (u := b) (o := .mem 0 0 8 [t.cells]) nb
  have hvb : ∀ i, idOf x.vA = some i → i ≠ b := fun i hi he => nb 4 (he ▸ idA i hi)
  have hwb : ∀ i, idOf w = some i → i ≠ b := fun i hi he => by
   rcases (hid i hi).2 with hh | hh
   ·exact hvb i hh he
   ·rw [he, g1b] at hh; cases hh
  obtain ⟨D', k1, k2, k3, k4⟩ := pickA hzb (le_set2 hle1) (hw.other noHeap_le fun i hi => set_ne (hwb i hi)) hsub hlen lenA okA (fun i hi => by
   rcases (hid i hi).2 with hh | hh
   ·exact .inl hh
   ·exact .inr (by rw [set_ne (hwb i hi)]; exact hh))
  have hpb : b ≠ p := fun he => nb 4 (he ▸ (only_some hz.m.obj).1)
  have l8 : ldV true 8 (.ptr b 0 0 0) ((H1.set b (.mem 0 0 8 [t.cells])).set p ({ x with vA := w } : Mo).obj) = some t.av := ld8 (by rw [set_ne hpb, set_self])
  simp only [extractA_0, extractA_1, extractA_2, optA_some, trRs, sto8 rfl h1b, stepK_some, sets_cons, sets_nil', k1, noRsA_nil, k2]
  cases is
  ·simp only [ifA_f]
   exact done _ D' _ (n + 1) (by omega) k3
  ·simp only [ifA_t, l8, optA_some, frzLK_ptr, frzLK_tr, frzLK_nil]
   obtain ⟨c1, c2⟩ := k3.cut
   exact back_c c1 c2 (by omega) (tok okA ht) fun H' D' x' k1 k2 => done H' D' x' _ (by omega) k1
 simp only [List.getD_cons_succ, List.getD_cons_zero, ifA_f, intA_eql, optA_some, ifA_ite]
 refine ite_of (fun _ => ?_) fun h6 => ?_
 ·simp only [drA_true, nilCk_ptr, ti65_f4, ti68_f1, Nat.zero_add, lm 4 _ rfl, lu 1 _ rfl, optA_some]
  refine pick_c oS (by omega) fun t w l' is H1 hle1 hw hsub hlen ht hid => ?_
  obtain ⟨D', k1, k2, k3, k4⟩ := pickS hz hle1 hw hsub hlen lenS okS fun i hi => (hid i hi).2
  simp only [extractA_0, extractA_1, extractA_2, optA_some, k1, noRsA_nil, k2, stepK_some, sets_cons, sets_nil']
  exact done _ D' _ (n + 1) (by omega) k3
 refine ite_of (fun _ => ?_) fun h7 => ?_
 ·simp only [drA_true, nilCk_ptr, ti65_f5, ti68_f1, Nat.zero_add, lm 5 _ rfl, lu 1 _ rfl, optA_some]
  refine pick_c oA (by omega) fun t w l' is H1 hle1 hw hsub hlen ht hid => ?_
  obtain ⟨D', k1, k2, k3, k4⟩ := pickA hz hle1 hw hsub hlen lenA okA fun i hi => (hid i hi).2
  simp only [extractA_0, extractA_1, extractA_2, optA_some, k1, noRsA_nil, k2, stepK_some, sets_cons, sets_nil']
  exact done _ D' _ (n + 1) (by omega) k3
 refine ite_of (fun _ => ?_) fun h8 => ?_
 ·simp only [ti68_f2, Nat.zero_add, lu 2 _ rfl, optA_some, frzLK_ptr, frzLK_d, frzLK_nil]
  exact hand_c hz h5 (by omega) fun H' D' x' k1 k2 => done H' D' x' _ (by omega) k1
 refine ite_of (fun _ => ?_) fun h9 => ?_
 rotate_left
 ·exact done _ D x n (by omega) hz
 -- a request is forgotten
 obtain ⟨am, nx, L, hP, hR⟩ := hz.a
 simp only [drA_true, nilCk_ptr, ti65_f0, ti65_f2, ti68_f1, Nat.zero_add, Nat.add_zero, lm 0 _ rfl, lm 2 _ rfl, lu 1 _ rfl, optA_some, frzLK_ptr, frzLK_d, frzLK_nil]
 obtain ⟨s1, s2, _, s4⟩ := h.sep.grow hleG hu0 (by rw [g1u]; rfl) 5
 generalize hD1 : (swp D 5 fun i => D 5 i ∨ i = u) = D1 at s1 s2 s4
 have e4 : ∀ k, k ≠ 5 → G3.only (D1 k) = G3.only (D k) := fun k hk5 => by rw [s2 k hk5, (h.sep.le hleG).2 k]
 have no1 : (∀ (i : Nat) (q : Rq), L[i]? = some q → q.id = a.place → q.state = 1) → ∀ (i : Nat) (q : Rq), L[i]? = some q → q.id = a.place → ¬ (q.state = 2 ∨ q.state = 3) := fun hh i q hi hid => by have := hh i q hi hid; omega
 refine s1.call 0 (pforget_c (K := fun v H1 => ∃ L', ∃ e : Int, PA H1 x.k am nx L' ∧ v = .d (.int .i64 e) ∧ ∀ B : AHeap, RA B x.r nx L → CallsA Try.prog 50 [.ptr x.r 0 0 0, .d (.int .i64 a.place)] B fun v2 B2 => RA B2 x.r nx L' ∧ v2 = .d (.int .i64 e)) (by rw [e4 0 (by decide)]; exact hP)
  (fun i q hi hid hs H1 p1 _ => ⟨_, 0, p1, rfl, fun B hB => rforget_c hB (fun i2 q2 hi2 hid2 hs2 B2 r2 _ => by
   obtain ⟨rfl, rfl⟩ := id_eq hP.ids hi hi2 (hid.trans hid2.symm)
   exact ⟨r2, rfl⟩) fun hn => absurd (hn i q hi hid) (by omega)⟩)
  fun hn => ⟨L, 5, by rw [e4 0 (by decide)]; exact hP, rfl, fun B hB => rforget_c hB (fun i2 q2 hi2 hid2 hs2 => absurd hs2 (no1 hn i2 q2 hi2 hid2)) fun _ => ⟨hB, rfl⟩⟩) ?_
 rintro v H1 G4 D4 ⟨L', e, p1, rfl, hsec⟩ t1 t2 t3
 have hm4 : Mn (G4.only (D4 4)) p x n := by rw [t3 4 (by decide), e4 4 (by decide)]; exact hz.m
 have g4u : G4 u = G3 u := by
  have h1 : (G3.only (D1 5)) u = some (.mem 0 0 5 [a.cells]) := s4.trans g1u
  rw [← t3 5 (by decide)] at h1
  rw [(only_some h1).2, g1u]
 have g4p : G4 p = G3 p := by rw [(hm4.le only_le).obj, (hz.m.le only_le).obj]
 refine ⟨g4u, g4p, ?_⟩
 refine t1.call 1 (hsec _ (by rw [t3 1 (by decide), e4 1 (by decide)]; exact hR)) ?_
 rintro v2 H2 G5 D5 ⟨r2, rfl⟩ u1 u2 u3
 have hm5 : Mn (G5.only (D5 4)) p x n := by rw [u3 4 (by decide)]; exact hm4
 simp only [intA_eql, decide_true, optA_some, frzLK_ptr, frzLK_d, frzLK_nil]
 refine differ_c (hm5.le only_le).obj ?_
 exact done G5 D5 x n (by omega) ⟨u1, ⟨am, nx, L', by rw [u3 0 (by decide), t2]; exact p1, by rw [u2]; exact r2⟩, by rw [u3 2 (by decide), u3 3 (by decide), t3 2 (by decide), t3 3 (by decide), e4 2 (by decide), e4 3 (by decide)]; exact hz.s, hm5⟩
end
end Go.Proofs.Ytofjhihigmimbaa
namespace Go.Proofs.Ytofjhihigmimbaa
open Go Go.AM Go.Proofs
section
variable {H G G' H' : AHeap} {D : Nat → Nat → Prop} {p n n' j u : Nat} {x x' : Mo} {v w : AV} {K : AV → AHeap → Prop} {o : AObj}
theorem newMap (hs : Sep H D) (hk : ∀ m H' D', Sep H' D' → H'.only (D' 4) = (H.only (D 4)).set m (.map [] 0) → (∀ i, ((H.only (D 4)) i).isSome → i ≠ m) → (∀ k, k ≠ 4 → H'.only (D' k) = H.only (D k)) → K (.map m) H') :
  newK H (fun n => some (.map n, [(n, .map [] 0)])) K := by
 intro m hm
 obtain ⟨s1, s2, s3⟩ := hs.new (o := .map [] 0) hm 4
 exact hk m _ _ s1 s2 (fun i hi he => by
  obtain ⟨o, ho⟩ := Option.isSome_iff_exists.1 hi
  have := (only_some ho).2
  rw [he, hm] at this; cases this) s3
theorem bd65_7 {s q m1 m2 m3 m4 m5 : Nat} {H : AHeap} : bdA Try.prog ti65 [1, 3, 7, 8, 9, 10, 11] [.ptr s 0 0 0, .ptr q 0 0 0, .map m1, .map m2, .map m3, .map m4, .map m5] H =
  some (.agg [.nilptr, .ptr s 0 0 0, .nilptr, .ptr q 0 0 0, .d (.sl true []), .d (.sl true []), .d (.sl true []), .map m1, .map m2, .map m3, .map m4, .map m5, .d (.int .i64 0), .d (.bool false), .d (.bool false)], []) := by kernel_rfl
theorem mw_new {V : AV → Prop} {m : Nat} (h : H m = some (.map [] 0)) : Mw V H m := ⟨[], 0, h, by simp, by simp⟩
set_option maxHeartbeats 2000000 in
theorem newPair_c (hk : ∀ p H' D' x, Pz H' D' p x 0 → (∀ j i, 5 ≤ j → ¬ D' j i) → K (.ptr p 0 0 0) H') : CallsA Try.prog 25 [] H K := by
 apply C25
 unfold S25
 simp only [frzLK_nil, frzLK_d]
 refine (Sep.nil (H := H)).call 2 (snew_c (K := fun v H1 => ∃ k m mp, PS H1 k m mp [] [] 0 ∧ v = .ptr k 0 0 0) fun k m mp H1 h1 _ _ _ _ => ⟨k, m, mp, h1, rfl⟩) ?_
 rintro v H1 G1 D1 ⟨s, sm, smp, hS, rfl⟩ s1 e1 r1
 simp only [bd49_0, stepK_some, sets_nil']
 refine rnewS_c fun q G2 hR hle2 hq => ?_
 obtain ⟨s2, r2, _, q2⟩ := s1.grow hle2 hq (by rw [hR.node]; rfl) 3
 generalize hD2 : (swp D1 3 fun i => D1 3 i ∨ i = q) = D2 at s2 r2 q2
 have hR2 : RS (G2.only (D2 3)) q (.d (.sl true [])) (.d (.sl true [])) [] [] 0 := hR.on fun i hi => by
  rcases hi with rfl | hi | hi
  ·rw [← hD2, swp_self]; exact .inr rfl
  ·cases hi
  ·cases hi
 have hnil : ∀ k, k = 0 ∨ k = 1 ∨ k = 4 → G2.only (D2 k) = H.only (fun _ => False) := fun k hk => by rw [r2 k (by omega), r1 k (by omega)]
 refine newMap s2 fun m1 G3 D3 s3 e3 f3 r3 => ?_
 refine newMap s3 fun m2 G4 D4 s4 e4 f4 r4 => ?_
 refine newMap s4 fun m3 G5 D5 s5 e5 f5 r5 => ?_
 refine newMap s5 fun m4 G6 D6 s6 e6 f6 r6 => ?_
 refine newMap s6 fun m5 G7 D7 s7 e7 f7 r7 => ?_
 have g1 : (G3.only (D3 4)) m1 = some (.map [] 0) := by rw [e3, set_self]
 have n12 : m1 ≠ m2 := f4 m1 (by rw [g1]; rfl)
 have g12 : (G4.only (D4 4)) m1 = some (.map [] 0) := by rw [e4, set_ne n12]; exact g1
 have g22 : (G4.only (D4 4)) m2 = some (.map [] 0) := by rw [e4, set_self]
 have n13 : m1 ≠ m3 := f5 m1 (by rw [g12]; rfl)
 have n23 : m2 ≠ m3 := f5 m2 (by rw [g22]; rfl)
 have g13 : (G5.only (D5 4)) m1 = some (.map [] 0) := by rw [e5, set_ne n13]; exact g12
 have g23 : (G5.only (D5 4)) m2 = some (.map [] 0) := by rw [e5, set_ne n23]; exact g22
 have g33 : (G5.only (D5 4)) m3 = some (.map [] 0) := by rw [e5, set_self]
 have n14 : m1 ≠ m4 := f6 m1 (by rw [g13]; rfl)
 have n24 : m2 ≠ m4 := f6 m2 (by rw [g23]; rfl)
 have n34 : m3 ≠ m4 := f6 m3 (by rw [g33]; rfl)
 have g14 : (G6.only (D6 4)) m1 = some (.map [] 0) := by rw [e6, set_ne n14]; exact g13
 have g24 : (G6.only (D6 4)) m2 = some (.map [] 0) := by rw [e6, set_ne n24]; exact g23
 have g34 : (G6.only (D6 4)) m3 = some (.map [] 0) := by rw [e6, set_ne n34]; exact g33
 have g44 : (G6.only (D6 4)) m4 = some (.map [] 0) := by rw [e6, set_self]
 have n15 : m1 ≠ m5 := f7 m1 (by rw [g14]; rfl)
 have n25 : m2 ≠ m5 := f7 m2 (by rw [g24]; rfl)
 have n35 : m3 ≠ m5 := f7 m3 (by rw [g34]; rfl)
 have n45 : m4 ≠ m5 := f7 m4 (by rw [g44]; rfl)
 have g15 : (G7.only (D7 4)) m1 = some (.map [] 0) := by rw [e7, set_ne n15]; exact g14
 have g25 : (G7.only (D7 4)) m2 = some (.map [] 0) := by rw [e7, set_ne n25]; exact g24
 have g35 : (G7.only (D7 4)) m3 = some (.map [] 0) := by rw [e7, set_ne n35]; exact g34
 have g45 : (G7.only (D7 4)) m4 = some (.map [] 0) := by rw [e7, set_ne n45]; exact g44
 have g55 : (G7.only (D7 4)) m5 = some (.map [] 0) := by rw [e7, set_self]
 simp only [bd65_7, stepK_some, sets_nil']
 refine box_open rfl fun p G8 hG8 hle8 hp => ?_
 obtain ⟨s8, r8, l8, p8⟩ := s7.grow hle8 hp (by rw [hG8]; rfl) 4
 generalize hD8 : (swp D7 4 fun i => D7 4 i ∨ i = p) = D8 at s8 r8 l8 p8
 have c8 : ∀ k, k ≠ 4 → G8.only (D8 k) = G2.only (D2 k) := fun k hk4 => by rw [r8 k hk4, r7 k hk4, r6 k hk4, r5 k hk4, r4 k hk4, r3 k hk4]
 refine s8.call 0 (pnew_c (K := fun v H1 => ∃ k m, PA H1 k m 0 [] ∧ v = .tup [.ptr k 0 0 0, .d (.int .i64 0)]) (fun hn => absurd ⟨Int.le_refl 0, by decide⟩ hn) fun _ k m H1 h1 _ => ⟨k, m, h1, rfl⟩) ?_
 rintro v H9 G9 D9 ⟨k, am, hP, rfl⟩ s9 e9 r9
 have p9 : (G9.only (D9 4)) p = G8 p := by rw [r9 4 (by decide)]; exact p8
 have hG9 : G9 p = G8 p := by
  have := p9.trans hG8
  rw [(only_some this).2, hG8]
 have hp9 : D9 4 p := (only_some (p9.trans hG8)).1
 have st1 := stoA_at (H := G9) (v := .ptr k 0 0 0) (hG9.trans hG8) (Nat.le_refl 0) rfl (show 0 < 15 by decide) rfl rfl
 simp only [extractA_0, extractA_1, optA_some, nilCk_ptr, ti65_f0, Nat.zero_add, Nat.add_zero, st1, stepK_some, sets_cons, sets_nil']
 obtain ⟨s10, e10, r10⟩ := s9.set (j := 4) (o := .mem 0 0 15 [[.ptr k 0 0 0, .ptr s 0 0 0, .nilptr, .ptr q 0 0 0, .d (.sl true []), .d (.sl true []), .d (.sl true []), .map m1, .map m2, .map m3, .map m4, .map m5, .d (.int .i64 0), .d (.bool false), .d (.bool false)]]) hp9
 refine s10.call 1 (rnew_c (K := fun v H1 => ∃ r, RA H1 r 0 [] ∧ v = .tup [.ptr r 0 0 0, .d (.int .i64 0)]) (fun hn => absurd ⟨Int.le_refl 0, by decide⟩ hn) fun _ r H1 h1 _ => ⟨r, h1, rfl⟩) ?_
 rintro v H11 G11 D11 ⟨r, hA, rfl⟩ s11 e11 r11
 have p11 : (G11.only (D11 4)) p = some (.mem 0 0 15 [[.ptr k 0 0 0, .ptr s 0 0 0, .nilptr, .ptr q 0 0 0, .d (.sl true []), .d (.sl true []), .d (.sl true []), .map m1, .map m2, .map m3, .map m4, .map m5, .d (.int .i64 0), .d (.bool false), .d (.bool false)]]) := by
  rw [r11 4 (by decide)]
  exact (congrArg (fun z => z p) e10).trans set_self
 have st2 := stoA_at (H := G11) (v := .ptr r 0 0 0) (only_some p11).2 (Nat.le_refl 0) rfl (show 2 < 15 by decide) rfl rfl
 let x : Mo := ⟨k, s, r, q, .d (.sl true []), .d (.sl true []), .d (.sl true []), m1, m2, m3, m4, m5, 0, false⟩
 obtain ⟨s12, e12, r12⟩ := s11.set (j := 4) (o := x.obj) (only_some p11).1
 have st3 : stoA false 1 (.ptr p 0 0 14) (.d (.bool false)) (G11.set p x.obj) = some (.junk, [(p, x.obj)]) := stoA_at (show (G11.set p x.obj) p = some (.mem 0 0 15 [x.cells]) from set_self) (Nat.le_refl 0) rfl (show 14 < 15 by decide) rfl rfl
 have st2' : stoA false 1 (.ptr p 0 0 2) (.ptr r 0 0 0) G11 = some (.junk, [(p, x.obj)]) := st2
 simp only [extractA_0, extractA_1, optA_some, nilCk_ptr, ti65_f2, ti65_f14, Nat.zero_add, st2', stepK_some, sets_cons, sets_nil', intA_neq, ne_eq, not_true_eq_false, decide_false, st3, set_set]
 have keepm : ∀ m, (G7.only (D7 4)) m = some (.map [] 0) → ((G11.set p x.obj).only (D11 4)) m = some (.map [] 0) := fun m hm => by
  have hmp : m ≠ p := fun he => by rw [he] at hm; rw [(only_some hm).2] at hp; cases hp
  rw [e12, set_ne hmp, r11 4 (by decide)]
  have h1 := congrArg (fun z => z m) e10
  refine h1.trans ?_
  show ((G9.only (D9 4)).set p _) m = _
  rw [set_ne hmp, r9 4 (by decide)]
  exact l8 _ _ hm
 have mn : Mn ((G11.set p x.obj).only (D11 4)) p x 0 := by
  refine ⟨by rw [e12, set_self], ⟨[], Own.nil noHeap_le, by simp, by simp⟩, ⟨[], Own.nil noHeap_le, by simp, by simp⟩, (by intro i hi; cases hi), ⟨[], .inl ⟨rfl, rfl⟩, by simp⟩, mw_new (keepm _ g15), mw_new (keepm _ g25), mw_new (keepm _ g35), mw_new (keepm _ g45), mw_new (keepm _ g55), ?_⟩
  show [m1, m2, m3, m4, m5].Nodup
  simp [n12, n13, n14, n15, n23, n24, n25, n34, n35, n45]
 have hc : ∀ k, k = 2 ∨ k = 3 → (G11.set p x.obj).only (D11 k) = G2.only (D2 k) := fun k hk => by rw [r12 k (by omega), r11 k (by omega), r10 k (by omega), r9 k (by omega), c8 k (by omega)]
 obtain ⟨z1, z2⟩ := mkPz (x := x) s12 ⟨am, 0, [], by rw [r12 0 (by decide), r11 0 (by decide), r10 0 (by decide), e9]; exact hP, by rw [r12 1 (by decide), e11]; exact hA⟩ ⟨sm, smp, _, _, [], [], [], by rw [hc 2 (.inl rfl), r2 2 (by decide), e1]; exact hS, by rw [hc 3 (.inr rfl)]; exact hR2, fun y => ⟨rfl, fun _ => rfl⟩⟩ mn
 simp only [retF, frzLK_ptr, frzLK_nil]
 exact ⟨_, le_refl', hk p _ _ x z1 z2⟩
end
end Go.Proofs.Ytofjhihigmimbaa
namespace Go.Proofs.Ytofjhihigmimbaa
open Go Go.AM Go.Proofs
abbrev Mv.dats (a : Mv) : List Dat := [.int .i64 a.do_, .int .i64 a.place, .int .i64 a.pieces, .int .i64 a.tries, .bool a.once]
section
variable {H G G' H' : AHeap} {D : Nat → Nat → Prop} {p n n' j u : Nat} {x x' : Mo} {v w : AV} {K : AV → AHeap → Prop} {o : AObj}
theorem ix57 {nl : Bool} {l : List Mv} {j : Nat} {a : Mv} (h : l[j]? = some a) : indexAddrA ti57 5 (.d (.sl nl (l.map Mv.dats))) (.d (.int .i64 (j : Int))) = some (.vptr a.dats 0) := by
 have h1 : (l.map Mv.dats)[j]? = some a.dats := by rw [List.getElem?_map, h]; rfl
 simp only [indexAddrA, ti57, Int.natCast_nonneg, if_true, Int.toNat_natCast, h1, List.length_cons, List.length_nil, Nat.zero_add, Nat.reduceAdd]
theorem pairs_law {nl : Bool} {l : List Mv} (hl : l.length < 2 ^ 62) (hk : ∀ H', K (.d (.bool true)) H') : CallsA Try.prog 8 [.d (.sl nl (l.map Mv.dats))] H K := by
 apply C8
 unfold S8
 have aw : ∀ G, CallsA Try.prog 13 [] G fun v5 H6 => retF [v5] H6 K := fun G => awake_c (by simp only [go_sem]; exact ⟨_, le_refl', hk _⟩)
 simp only [lenSl_d, List.length_map, optA_some, intA_gtr, ifA_ite, frzLK_nil]
 refine ite_of (fun _ => aw _) fun h300 => ?_
 refine newPair_c fun p G D x hz h5 => ?_
 refine loop_ind (fun c vs G' => ∃ (j : Nat) (D' : Nat → Nat → Prop) (x' : Mo), j ≤ l.length ∧ c = l.length - j ∧ vs = [.d (.sl nl (l.map Mv.dats)), .ptr p 0 0 0, .d (.int .i64 (j : Int))] ∧ Pz G' D' p x' (3 * j) ∧ ∀ k i, 5 ≤ k → ¬ D' k i) (n := l.length) ⟨0, D, x, Nat.zero_le _, rfl, rfl, hz, h5⟩ ?_
 rintro X c vs G1 ⟨j, D1, x1, hj, rfl, rfl, hz1, h51⟩ hX
 by_cases hjl : j < l.length
 ·have hlt : (j : Int) < (l.length : Int) := by omega
  obtain ⟨a, ha⟩ : ∃ a, l[j]? = some a := ⟨_, List.getElem?_eq_getElem (by omega)⟩
  have hw : IntKind.i64.wrap ((j : Int) + 1) = ((j + 1 : Nat) : Int) := by rw [wrap_i64 (by omega) (by omega)]; omega
  have ra : ldV true 5 (.vptr a.dats 0) G1 = some a.av := rfl
  simp only [List.getD_cons_succ, List.getD_cons_zero, lenSl_d, List.length_map, optA_some, intA_lss, hlt, decide_true, ifA_t, ix57 ha, ra, frzLK_ptr, frzLK_mv, frzLK_nil]
  refine do_c hz1 h51 (by omega) fun G2 D2 x2 hz2 h52 => ?_
  have lm : ∀ {X : AHeap}, AHeap.le G2 X → ∀ (i : Nat) (y : AV), x2.cells[i]? = some y → ldV false 1 (.ptr p 0 0 i) X = some y := fun hX i y hy => ldV_at (hX _ _ (hz2.m.le only_le).obj) rfl hy
  obtain ⟨am, nx, L, hP, hR⟩ := hz2.a
  obtain ⟨sm, smp, sv1, sv2, sL, sQ, sR, hS, hRS, hpl⟩ := hz2.s
  refine jnX_inv (fun vs G3 => AHeap.le G2 G3 ∧ vs = [.d (.sl nl (l.map Mv.dats)), .ptr p 0 0 0, .d (.int .i64 (j : Int)), .d (.bool false)]) ?_ fun X24 hX24 => ?_
  ·rintro vs G3 ⟨hle, rfl⟩
   simp only [List.getD_cons_succ, List.getD_cons_zero, ifA_f, intA_add, hw, optA_some]
   exact hX (l.length - (j + 1)) _ _ (by omega) ⟨j + 1, D2, x2, by omega, rfl, rfl, (hz2.le hle).mono (by omega), h52⟩
  ·simp only [drA_true, nilCk_ptr, ti65_f14, ti65_f0, ti65_f2, Nat.zero_add, Nat.add_zero, lm le_refl' 14 _ rfl, lm le_refl' 0 _ rfl, lm le_refl' 2 _ rfl, optA_some, ifA_f, frzLK_ptr, frzLK_nil]
   refine sameAsker_c (hP.le only_le) (hR.le only_le) fun G3 hle3 => ?_
   simp only [unA_not, Bool.not_true, optA_some, ifA_f, nilCk_ptr, ti65_f1, ti65_f3, Nat.zero_add, lm hle3 1 _ rfl, lm hle3 3 _ rfl, frzLK_ptr, frzLK_nil]
   refine srem_c (hS.le (le_trans' only_le hle3)) fun nl1 G4 hle4 => ?_
   have hle4' := le_trans' hle3 hle4
   refine ⟨?_, ?_⟩
   ·show G4 p = G3 p
    rw [hle4' _ _ (hz2.m.le only_le).obj, hle3 _ _ (hz2.m.le only_le).obj]
   refine rrem_c (hRS.le (le_trans' only_le hle4')) fun nl2 G5 hle5 => ?_
   simp only [frzLK_d, frzLK_nil]
   refine sameInts_c ?_ ?_
   ·unfold rsrt
    rw [List.length_mergeSort, List.length_map]
    have := hS.len; omega
   ·simp only [unA_not, Bool.not_true, optA_some]
    exact hX24 _ _ ⟨le_trans' hle4' hle5, rfl⟩
 ·have hjl : j = l.length := by omega
  subst hjl
  simp only [List.getD_cons_succ, List.getD_cons_zero, lenSl_d, List.length_map, optA_some, intA_lss, Int.lt_irrefl, decide_false, ifA_f, frzLK_nil]
  exact aw _
theorem mv_open {ys : List Dat} (h : DatOk Try.prog 8 68 ys) : ∃ a : Mv, ys = a.dats := by
 rw [datOk_struct Try.underlying68] at h
 simp only [datFs_cons, datFs_nil] at h
 obtain ⟨x0, y0, rfl, h0, x1, y1, rfl, h1, x2, y2, rfl, h2, x3, y3, rfl, h3, x4, y4, rfl, h4, rfl⟩ := h
 simp only [datOk_int Try.underlying3, datOk_bool Try.underlying4] at h0 h1 h2 h3 h4
 obtain ⟨a0, rfl, _⟩ := h0
 obtain ⟨a1, rfl, _⟩ := h1
 obtain ⟨a2, rfl, _⟩ := h2
 obtain ⟨a3, rfl, _⟩ := h3
 obtain ⟨b4, rfl⟩ := h4
 exact ⟨⟨a0, a1, a2, a3, b4⟩, rfl⟩
theorem mvs_open {l : List (List Dat)} (h : ∀ c ∈ l, DatOk Try.prog 8 68 c) : ∃ zs : List Mv, l = zs.map Mv.dats := by
 induction l with
 | nil => exact ⟨[], rfl⟩
 | cons c l ih =>
  obtain ⟨a, rfl⟩ := mv_open (h c (by simp))
  obtain ⟨zs, rfl⟩ := ih fun x hx => h x (by simp [hx])
  exact ⟨a :: zs, rfl⟩
theorem pairs_row (xs : List Dat) (h2 : DatOk Try.prog 9 57 xs) : CallsA Try.prog 8 [argAV (aggT Try.prog 57) xs] noHeap fun v _ => v = .d (.bool true) := by
 rw [datOk_slice Try.underlying57] at h2
 obtain ⟨nl, l, rfl, _, hl, hlen⟩ := h2
 obtain ⟨zs, rfl⟩ := mvs_open hl
 rw [show aggT Try.prog 57 = false by kernel_rfl]
 have hb : zs.length < 2 ^ 62 := by
  rw [List.length_map] at hlen
  have : Nat.ble 1 (Try.prog.bytesOf 68) = true := by kernel_rfl
  have := Nat.le_of_ble_eq_true this
  have h3 : zs.length * 1 ≤ zs.length * Try.prog.bytesOf 68 := Nat.mul_le_mul_left _ this
  unfold reachBytes at hlen
  omega
 exact pairs_law hb fun _ => rfl
end
end Go.Proofs.Ytofjhihigmimbaa

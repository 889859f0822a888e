/- Several of my texts as one. -/
import Derived.Test.YtofjhihigmimbaaG10a
set_option linter.unnecessarySimpa false
/- Askers side by side. -/
set_option autoImplicit false
set_option maxRecDepth 100000
set_option linter.unusedVariables false
set_option linter.unusedSimpArgs false
namespace Go.Proofs.Ytofjhihigmimbaa
open Go Go.AM Go.Proofs
/-- Two packets that are the same. -/
def Tr.Sim (a b : Tr) : Prop := a.kind = b.kind ∧ a.id = b.id ∧ a.bits = b.bits ∧ a.seq = b.seq ∧ a.once = b.once ∧ a.fin = b.fin ∧ a.ask = b.ask ∧ a.data = b.data
theorem Tr.Sim.refl (a : Tr) : a.Sim a := ⟨rfl, rfl, rfl, rfl, rfl, rfl, rfl, rfl⟩
def SimL : List Tr → List Tr → Prop
  | [], [] => True
  | a :: l, b :: m => a.Sim b ∧ SimL l m
  | _, _ => False
theorem SimL.len : ∀ {l m : List Tr}, SimL l m → l.length = m.length
  | [], [], _ => rfl
  | a :: l, b :: m, h => by simp only [List.length_cons, SimL.len h.2]
theorem SimL.get {l : List Tr} : ∀ {m : List Tr}, SimL l m → ∀ {j : Nat} {a b : Tr}, l[j]? = some a → m[j]? = some b → a.Sim b := by
  induction l with
  | nil => intro m _ j a b ha; simp at ha
  | cons x l ih =>
    intro m h j a b ha hb
    cases m with
    | nil => exact h.elim
    | cons y m =>
      cases j with
      | zero => simp at ha hb; subst ha hb; exact h.1
      | succ j => exact ih h.2 (by simpa using ha) (by simpa using hb)
theorem SimL.app : ∀ {l m l' m' : List Tr}, SimL l m → SimL l' m' → SimL (l ++ l') (m ++ m')
  | [], [], _, _, _, h => h
  | a :: l, b :: m, _, _, h, h' => ⟨h.1, SimL.app h.2 h'⟩
theorem req_sim (q : Rq) : q.reqP.Sim q.reqR := ⟨rfl, rfl, rfl, rfl, rfl, rfl, rfl, rfl⟩
theorem outs_sim (q : Rq) (t : Tr) : SimL (q.outs Rq.reqP t) (q.outs Rq.reqR t) := by
  unfold Rq.outs
  split
  · split
    · split
      · exact ⟨req_sim _, trivial⟩
      · trivial
    · split
      · exact ⟨Tr.Sim.refl _, trivial⟩
      · trivial
  · split
    · exact ⟨Tr.Sim.refl _, trivial⟩
    · trivial
theorem tkOs_sim (L : List Rq) : ∀ D : List Int, SimL (tkOs Rq.reqP L D) (tkOs Rq.reqR L D)
  | [] => trivial
  | x :: D => by
    have h1 : SimL (outOf Rq.reqP L x) (outOf Rq.reqR L x) := by
      unfold outOf
      cases L.find? fun q => q.id == x with
      | none => trivial
      | some q =>
        simp only [Option.map_some, Option.getD_some, Rq.tkO]
        split
        · exact ⟨req_sim _, trivial⟩
        · trivial
    unfold tkOs
    rw [List.flatMap_cons, List.flatMap_cons]
    exact h1.app (tkOs_sim L D)
section
variable {H G : AHeap} {K : AV → AHeap → Prop}
theorem sameTrans_c {a b : Tr} (h : a.Sim b) (hk : K (.d (.bool true)) H) : CallsA Try.prog 34 [a.av, b.av] H K := by
  obtain ⟨k1, i1, b1, s1, o1, f1, q1, n1, d1⟩ := a
  obtain ⟨k2, i2, b2, s2, o2, f2, q2, n2, d2⟩ := b
  obtain ⟨e1, e2, e3, e4, e5, e6, e7, e8⟩ := h
  simp only at e1 e2 e3 e4 e5 e6 e7 e8
  subst e1 e2 e3 e4 e5 e6 e7 e8
  apply C34
  unfold S34
  refine box_open rfl fun u G hG hle hu => ?_
  refine box_open rfl fun w G2 hG2 hle2 hw => ?_
  have u2 := hle2 _ _ hG
  simp only [Tr.av, Tr.cells, List.length_cons, List.length_nil] at u2 hG2
  have hbool : ∀ x : Bool, (x == x) = true := fun x => by simp
  simp only [ti24_f0, ti24_f1, ti24_f2, ti24_f3, ti24_f4, ti24_f5, ti24_f6, ti24_f7, getM_of u2, getM_of hG2, decide_true, hbool, beq_self_eq_true, go_sem]
  exact ⟨H, fun i o hi => hle2 _ _ (hle _ _ hi), hk⟩
theorem ix60 {nl : Bool} {l : List Tr} {j : Nat} {t : Tr} (h : l[j]? = some t) {H : AHeap} : ∃ p, indexAddrA ti60 8 (.d (.sl nl (l.map Tr.dats))) (.d (.int .i64 (j : Int))) = some p ∧ ldV true 8 p H = some t.av := by
  refine ⟨.vptr t.dats 0, ?_, rfl⟩
  have h1 : (l.map Tr.dats)[j]? = some t.dats := by rw [List.getElem?_map, h]; rfl
  simp only [indexAddrA, ti60, Int.natCast_nonneg, if_true, Int.toNat_natCast, h1, List.length_cons, List.length_nil, Nat.zero_add, Nat.reduceAdd]
theorem sameList_c {nl nl2 : Bool} {l m : List Tr} (h : SimL l m) (hl : l.length < 2 ^ 40) (hk : K (.d (.bool true)) H) : CallsA Try.prog 49 [.d (.sl nl (l.map Tr.dats)), .d (.sl nl2 (m.map Tr.dats))] H K := by
  apply C49
  unfold S49
  have hlen := h.len
  simp only [lenSl_d, List.length_map, hlen, optA_some, intA_neq, ifA_ite, ne_eq, not_true_eq_false, if_false]
  refine loop_ind (fun n vs G => ∃ j : Nat, j ≤ m.length ∧ n = m.length - j ∧ vs = [.d (.sl nl (l.map Tr.dats)), .d (.sl nl2 (m.map Tr.dats)), .d (.int .i64 (j : Int))] ∧ G = H) (n := m.length) ⟨0, Nat.zero_le _, rfl, rfl, rfl⟩ ?_
  rintro X n vs G ⟨j, hj, rfl, rfl, rfl⟩ hX
  by_cases hjl : j = m.length
  · subst hjl
    simp only [List.getD_cons_succ, List.getD_cons_zero, lenSl_d, List.length_map, hlen, Int.lt_irrefl, Int.reduceEq, Int.reduceNe, Int.reduceLT, Int.reduceLE, not_true_eq_false, not_false_eq_true, decide_true, decide_false, Int.reduceAdd, Int.reduceSub, Int.reduceMul, go_sem]
    exact ⟨_, le_refl', hk⟩
  · have hlt : (j : Int) < (m.length : Int) := by omega
    obtain ⟨a, ha⟩ : ∃ a, l[j]? = some a := ⟨_, List.getElem?_eq_getElem (by omega)⟩
    obtain ⟨b, hb⟩ : ∃ b, m[j]? = some b := ⟨_, List.getElem?_eq_getElem (by omega)⟩
    obtain ⟨p1, g1, g2⟩ := ix60 (nl := nl) ha (H := G)
    obtain ⟨p2, g3, g4⟩ := ix60 (nl := nl2) hb (H := G)
    have hw : IntKind.i64.wrap ((j : Int) + 1) = ((j + 1 : Nat) : Int) := by rw [wrap_i64 (by omega) (by omega)]; omega
    simp only [List.getD_cons_succ, List.getD_cons_zero, lenSl_d, List.length_map, hlen, optA_some, intA_lss, ifA_ite, hlt, if_true, drA_true, g1, g2, g3, g4, frzLK_tr, frzLK_nil]
    refine sameTrans_c (h.get ha hb) ?_
    simp only [unA_not, Bool.not_true, optA_some, ifA_f, intA_add, hw]
    exact hX (m.length - (j + 1)) _ _ (by omega) ⟨j + 1, by omega, rfl, rfl, rfl⟩
def pcD (X : List (Bool × List UInt8)) : List (List Dat) := X.map fun x => [.sl x.1 (bs x.2)]
theorem ix51 {nl : Bool} {l : List (Bool × List UInt8)} {j : Nat} {x : Bool × List UInt8} (h : l[j]? = some x) {H : AHeap} : indexAddrA ti51 1 (.d (.sl nl (pcD l))) (.d (.int .i64 (j : Int))) = some (.vptr [.sl x.1 (bs x.2)] 0) := by
  have h1 : (pcD l)[j]? = some [.sl x.1 (bs x.2)] := by unfold pcD; rw [List.getElem?_map, h]; rfl
  simp only [indexAddrA, ti51, Int.natCast_nonneg, if_true, Int.toNat_natCast, h1, List.length_cons, List.length_nil, Nat.zero_add]
theorem samePieces_c {nl nl2 : Bool} {l m : List (Bool × List UInt8)} (hlen : l.length = m.length) (h : ∀ (j : Nat) (x y : Bool × List UInt8), l[j]? = some x → m[j]? = some y → x.2 = y.2) (hl : l.length < 2 ^ 40) (hk : K (.d (.bool true)) H) : CallsA Try.prog 54 [.d (.sl nl (pcD l)), .d (.sl nl2 (pcD m))] H K := by
  apply C54
  unfold S54
  have e1 : (pcD l).length = m.length := by unfold pcD; rw [List.length_map, hlen]
  have e2 : (pcD m).length = m.length := by unfold pcD; rw [List.length_map]
  simp only [lenSl_d, e1, e2, optA_some, intA_neq, ifA_ite, ne_eq, not_true_eq_false, if_false]
  refine loop_ind (fun n vs G => ∃ j : Nat, j ≤ m.length ∧ n = m.length - j ∧ vs = [.d (.sl nl (pcD l)), .d (.sl nl2 (pcD m)), .d (.int .i64 (j : Int))] ∧ G = H) (n := m.length) ⟨0, Nat.zero_le _, rfl, rfl, rfl⟩ ?_
  rintro X n vs G ⟨j, hj, rfl, rfl, rfl⟩ hX
  by_cases hjl : j = m.length
  · subst hjl
    simp only [List.getD_cons_succ, List.getD_cons_zero, lenSl_d, e1, Int.lt_irrefl, Int.reduceEq, Int.reduceNe, Int.reduceLT, Int.reduceLE, not_true_eq_false, not_false_eq_true, decide_true, decide_false, Int.reduceAdd, Int.reduceSub, Int.reduceMul, go_sem]
    exact ⟨_, le_refl', hk⟩
  · have hlt : (j : Int) < (m.length : Int) := by omega
    obtain ⟨a, ha⟩ : ∃ a, l[j]? = some a := ⟨_, List.getElem?_eq_getElem (by omega)⟩
    obtain ⟨b, hb⟩ : ∃ b, m[j]? = some b := ⟨_, List.getElem?_eq_getElem (by omega)⟩
    have hab := h j a b ha hb
    have hw : IntKind.i64.wrap ((j : Int) + 1) = ((j + 1 : Nat) : Int) := by rw [wrap_i64 (by omega) (by omega)]; omega
    simp only [List.getD_cons_succ, List.getD_cons_zero, lenSl_d, e1, hlt, if_true, ix51 ha (H := G), ix51 hb (H := G), hab, hw, beq_self_eq_true, Bool.not_true, go_sem]
    exact hX (m.length - (j + 1)) _ _ (by omega) ⟨j + 1, by omega, rfl, rfl, rfl⟩
theorem rowsP_eq {q : Rq} : q.rowsP 8 = pcD (((List.range 8).filter q.has).map fun k => q.T.getD k (true, [])) := by
  unfold Rq.rowsP pcD
  rw [List.map_map]; rfl
theorem rowsR_eq {q : Rq} {j : Nat} : q.rowsR j = pcD ((List.range j).map fun k => (false, (q.P.getD k (true, [])).2)) := by
  unfold Rq.rowsR pcD
  rw [List.map_map]; rfl
theorem has_done {q : Rq} (ok : q.Ok) (hs : q.state = 2) : (List.range 8).filter q.has = List.range (q.last + 1) := by
  have hb := ok.done hs
  have hl := ok.last
  have : ∀ l : Fin 8, ((List.range 8).filter fun k => decide (k ≤ l.1)) = List.range (l.1 + 1) := by decide +kernel
  rw [← this ⟨q.last, by omega⟩]
  refine List.filter_congr fun k _ => ?_
  simp [Rq.has, hb]
theorem samePcs_c {q : Rq} (ok : q.Ok) (hs : q.state = 2) {nl nl2 : Bool} (hk : K (.d (.bool true)) H) : CallsA Try.prog 54 [.d (.sl nl (q.rowsP 8)), .d (.sl nl2 (q.rowsR (q.last + 1)))] H K := by
  rw [rowsP_eq, rowsR_eq, has_done ok hs]
  have hl := ok.last
  refine samePieces_c (by simp) (fun j x y hx hy => ?_) (by simp; omega) hk
  rw [List.getElem?_map] at hx hy
  have hj : j < q.last + 1 := by
    have := (List.getElem?_eq_some_iff.1 (show ((List.range (q.last + 1)).map fun k => q.T.getD k (true, []))[j]? = some x by rw [List.getElem?_map]; exact hx)).1
    simpa using this
  rw [List.getElem?_range hj] at hx hy
  simp only [Option.map_some, Option.some.injEq] at hx hy
  obtain ⟨a, ha⟩ : ∃ a, q.T[j]? = some a := ⟨_, List.getElem?_eq_getElem (by rw [ok.T]; omega)⟩
  obtain ⟨b, hb⟩ : ∃ b, q.P[j]? = some b := ⟨_, List.getElem?_eq_getElem (by rw [ok.P]; omega)⟩
  rw [List.getD_eq_getElem?_getD, ha, Option.getD_some] at hx
  rw [List.getD_eq_getElem?_getD, hb, Option.getD_some] at hy
  subst hx hy
  exact ok.pcs j a b (by have := ok.done hs; simp [Rq.has, this]; omega) ha hb
end
end Go.Proofs.Ytofjhihigmimbaa
/- A lemma of M10t, for claims that do not take M10t. -/
set_option autoImplicit false
namespace Go.Proofs.Ytofjhihigmimbaa
open Go Go.AM Go.Proofs
theorem frzL_map {l : List Dat} {G : AHeap} : frzL (l.map AV.d) G = some (l.map AV.d, []) := by
  induction l with
  | nil => rfl
  | cons a l ih => simp only [List.map_cons, frzL, frz, AHeap.sets, ih, List.append_nil]
end Go.Proofs.Ytofjhihigmimbaa

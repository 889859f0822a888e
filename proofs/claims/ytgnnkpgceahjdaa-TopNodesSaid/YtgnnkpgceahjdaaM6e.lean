/- A fast link: Add and New. -/
import Derived.Test.YtgnnkpgceahjdaaM6d
set_option autoImplicit false
set_option maxRecDepth 100000
set_option linter.unusedVariables false
set_option linter.unusedSimpArgs false
set_option linter.unnecessarySimpa false
namespace Go.Proofs.Ytgnnkpgceahjdaa
open Go Go.AM Go.Proofs
def newPt (nl : Bool) (row : List Int) : Pt := ⟨nl, row, 0, 0, 0, 0, 0⟩
theorem newPt_ok {nl : Bool} {row : List Int} (hw : ∀ x ∈ row, -9223372036854775808 ≤ x ∧ x ≤ 9223372036854775807) (hl : row.length < 2 ^ 40) : (newPt nl row).Ok := ⟨z600, z10, (fun h => by cases h), hw, hl⟩
theorem bs163_1 {p i e o : Nat} {H : AHeap} {n : Nat} : bsA ti163 1 [0] [.ptr p i e o] H n = some (.rs n 0 1 0 1, [(n, .mem 0 0 1 [[.ptr p i e o]])]) := rfl
theorem bd169_eq {nl : Bool} {l : List (List Dat)} {H : AHeap} : bdA Try.prog ti169 [0] [.d (.sl nl l)] H = some (.agg [.d (.sl nl l), .d (.int .i64 0), .d (.int .i64 0), .d (.int .i64 0), .d (.int .i64 0), .d (.int .i64 0), .d (.sl true []), .d (.sl true [])], []) := by
  simp only [bdA, bd169, cell55, fillA, setCells, List.zip_cons_cons, List.zip_nil_right, Option.map_some, Nat.reduceLeDiff, List.cons_append, go_sem]
theorem bd159_eq {a b c : Dat} {H : AHeap} : bdA Try.prog ti159 [0, 1, 2] [.d a, .d b, .d c] H = some (.agg [.d a, .d b, .d c, .d (.sl true []), .d (.int .i64 0)], []) := by
  simp only [bdA, bd159, cell3, cell55, fillA, setCells, List.zip_cons_cons, List.zip_nil_right, Option.map_some, Nat.reduceLeDiff, List.cons_append, go_sem]
section
variable {H : AHeap} {k : Nat} {sv : AV} {ids : List Nat} {sts : List Pt} {f : Int} {K : AV → AHeap → Prop}
theorem pNew_c (hk : ∀ k H', LinkAt H' k (.d (.sl true [])) [] [] 0 → AHeap.le H H' → H k = none → K (.tup [.ptr k 0 0 0, .d (.int .i64 0)]) H') : CallsA Try.prog 25 [.d (.int .i64 3), .d (.int .i64 4), .d (.sl true [])] H K := by
  apply C25
  unfold S25
  simp only [intA_lss, intA_gtr, optA_some, Int.reduceEq, Int.reduceNe, Int.reduceLT, Int.reduceLE, not_true_eq_false, not_false_eq_true, decide_true, decide_false, Int.reduceAdd, Int.reduceSub, Int.reduceMul, ifA_f, frzLK_d, frzLK_nil]
  apply C75
  unfold S75
  refine box_open rfl fun k1 G hG hle hk1 => ?_
  simp only [AV.cells, go_sem] at hG ⊢
  refine ⟨G, le_refl', ?_⟩
  simp only [go_sem]
  refine sortedNil_c hG ?_
  simp only [bd159_eq, go_sem]
  refine box_open rfl fun k2 G2 hG2 hle2 hk2 => ?_
  simp only [AV.cells, go_sem] at hG2 ⊢
  exact ⟨G2, le_refl', hk k2 G2 ⟨hG2, ⟨rfl, .nil, fun j hj => by simp at hj, .inl ⟨rfl, rfl⟩, by simp, by simp⟩⟩ (le_trans' hle hle2) (le_none hle hk2)⟩
/-- A slice of pointers gets one more. -/
theorem Pts.more (h : Pts H sv ids sts) (hn : sts.length < 40) {p : Nat} {s : Pt} (hp : H p = some (pObj s)) (hs : s.Ok) (hpn : p ∉ ids) {m : Nat} (hm : H m = some (.mem 0 0 1 [[.ptr p 0 0 0]])) {K : AV → AHeap → Prop}
    (hk : ∀ v' H', Pts H' v' (ids ++ [p]) (sts ++ [s]) → (∀ i, (H i).isSome → idOf sv ≠ some i → H' i = H i) → (∀ i, idOf v' = some i → idOf sv = some i ∨ H i = none) → K v' H') : newK H (fun n => apA 1 8 sv (.rs m 0 1 0 1) H n) K := by
  intro n hnn
  have hx : elemsA (.rs m 0 1 0 1) H = some [[.ptr p 0 0 0]] := by
    simp only [elemsA, hm, if_true]
    rfl
  have hnd : (ids ++ [p]).Nodup := List.nodup_append.2 ⟨h.nd, by simp, fun a ha b hb he => by rw [List.mem_singleton] at hb; subst hb; subst he; exact hpn ha⟩
  have objs : ∀ H' : AHeap, (∀ i ∈ ids, H' i = H i) → H' p = H p → ∀ j, j < (sts ++ [s]).length → H' ((ids ++ [p]).getD j 0) = some (pObj ((sts ++ [s]).getD j default)) := fun H' h1 h2 j hj => by
    rw [List.length_append, List.length_singleton] at hj
    by_cases hjl : j < sts.length
    · have e1 : (ids ++ [p]).getD j 0 = ids.getD j 0 := by rw [List.getD_eq_getElem?_getD, List.getElem?_append_left (by rw [h.len]; exact hjl), ← List.getD_eq_getElem?_getD]
      have e2 : (sts ++ [s]).getD j default = sts.getD j default := by rw [List.getD_eq_getElem?_getD, List.getElem?_append_left hjl, ← List.getD_eq_getElem?_getD]
      rw [e1, e2, h1 _ (h.mem hjl)]
      exact h.obj j hjl
    · have hje : j = sts.length := by omega
      subst hje
      have e1 : (ids ++ [p]).getD sts.length 0 = p := by rw [← h.len]; simp
      have e2 : (sts ++ [s]).getD sts.length default = s := by simp
      rw [e1, e2, h2, hp]
  have oks : ∀ x ∈ sts ++ [s], x.Ok := fun x hx => by
    rcases List.mem_append.1 hx with hx | hx
    · exact h.ok x hx
    · rw [List.mem_singleton] at hx; subst hx; exact hs
  have pne : p ≠ n := fun he => by rw [he, hnn] at hp; cases hp
  simp only [apA, hx]
  rcases h.sl with ⟨rfl, rfl⟩ | ⟨i, ver, L, rfl, h3, h4, h5⟩
  · have hids : ids = [] := List.eq_nil_of_length_eq_zero (by rw [h.len]; rfl)
    subst hids
    have e : appA 1 8 (.d (.sl true [])) [[.ptr p 0 0 0]] H n = some (.rs n 0 1 0 1, [(n, .mem 0 0 1 [[.ptr p 0 0 0]])]) := rfl
    simp only [List.all_cons, List.length_cons, List.length_nil, BEq.rfl, List.all_nil, Bool.and_self, Nat.reduceAdd, Nat.lt_irrefl, and_self, e, stepK, optA, AHeap.sets]
    rw [if_pos (by decide)]
    refine hk _ _ ⟨rfl, hnd, objs _ (fun i hi => by cases hi) (set_ne pne), .inr ⟨n, 0, _, rfl, set_self, rfl, Nat.le_refl _⟩, oks, by simp⟩ (fun i hi _ => set_ne fun he => by rw [he, hnn] at hi; cases hi) fun i hi => by cases hi; exact .inr hnn
  · have e : appA 1 8 (.rs i ver 1 0 sts.length) [[.ptr p 0 0 0]] H n = some (.rs i (ver + 1) 1 0 (sts.length + 1), [(i, .mem (ver + 1) 0 1 (ids.map (fun p => [.ptr p 0 0 0]) ++ [[.ptr p 0 0 0]]))]) := by
      simp only [appA, h3, Nat.zero_add, Nat.zero_le, h5, List.length_cons, List.length_nil, true_and, List.drop_zero, h4, Nat.sub_self]
      rw [if_pos (by unfold mostBytes; omega)]
    have hi : (H i).isSome := by rw [h3]; rfl
    have pni : p ≠ i := fun he => by rw [he, h3] at hp; cases hp
    rw [e, if_pos (show 0 < 1 ∧ 0 < 8 ∧ ([[AV.ptr p 0 0 0]].all fun y => y.length == 1) = true from ⟨by omega, by omega, rfl⟩)]
    simp only [stepK, optA, AHeap.sets]
    refine hk _ _ ⟨by simp [h.len], hnd, objs _ (fun j hj => set_ne fun he => h.sne (i := i) rfl (he ▸ hj)) (set_ne pni), .inr ⟨i, ver + 1, _, by rw [List.length_append, List.length_singleton], set_self, ?_, ?_⟩, oks, by rw [List.length_append, List.length_singleton]; omega⟩ (fun j hj hne => set_ne fun he => hne (by rw [he]; rfl)) fun j hj => .inl hj
    · rw [List.map_append, List.take_of_length_le (by simp [h.len])]
      rfl
    · simp [h.len]
theorem pAdd_c (h : LinkAt H k sv ids sts f) {nl : Bool} {row : List Int} (hw : ∀ x ∈ row, -9223372036854775808 ≤ x ∧ x ≤ 9223372036854775807) (hl : row.length < 2 ^ 40) (hnl : nl = true → row = [])
    (hfull : sts.length = 40 → K (.tup [.d (.int .i64 0), .d (.int .i64 4)]) H) (hk : sts.length < 40 → ∀ H' sv' ids', LinkAt H' k sv' ids' (sts ++ [newPt nl row]) f → (∀ i, (H i).isSome → ¬ foot k sv ids i → H' i = H i) → (∀ i, foot k sv' ids' i → foot k sv ids i ∨ H i = none) → K (.tup [.d (.int .i64 sts.length), .d (.int .i64 0)]) H') : CallsA Try.prog 27 [.ptr k 0 0 0, .d (.sl nl (ints row))] H K := by
  have hn := h.sts.n40
  have hagg := h.sts.aggs
  apply C27
  unfold S27
  simp only [go_sem]
  refine pnone_c h ?_
  simp only [nilCk_ptr, ti159_f3, getM_of h.node, h.sts.lenS, go_sem]
  split
  · rename_i h40
    exact ⟨H, le_refl', hfull (by omega)⟩
  rename_i h40
  have hlt : sts.length < 40 := by omega
  try simp only [nilCk_ptr, ti159_f3, getM_of h.node, rsOf_d, ap_nil, go_sem]
  refine ⟨_, clone_c hl hnl ⟨rfl, le_refl'⟩, ?_⟩
  simp only [rsOf_d, ap_nil, bd169_eq, go_sem]
  refine box_open rfl fun p G hG hle hp => ?_
  simp only [AV.cells, rsOf_ptr, ap_nil, go_sem] at hG ⊢
  intro m hm
  simp only [bs163_1, go_sem]
  have hB := h.le (le_trans' hle (le_set (o := .mem 0 0 1 [[.ptr p 0 0 0]]) le_refl' hm))
  have hpm : p ≠ m := le_ne hG hm
  have hpn : p ∉ ids := fun hh => by have := h.sts.isS (i := p) (.inr hh); rw [hp] at this; cases this
  have hGm : (G.set m (.mem 0 0 1 [[.ptr p 0 0 0]])) p = some (pObj (newPt nl row)) := by rw [set_ne hpm]; exact hG
  have hmn : H m = none := le_none hle hm
  refine hB.sts.more hlt hGm (newPt_ok hw hl) hpn set_self fun v' H' hS hO hI => ?_
  have kS : (H k).isSome := by rw [h.node]; rfl
  have hnode' : H' k = some (.mem 0 0 5 [[.d (.int .i64 3), .d (.int .i64 4), .d (.sl true []), sv, .d (.int .i64 f)]]) := by
    rw [hO k (by rw [hB.node]; rfl) (fun he => h.kne.1 k he rfl)]; exact hB.node
  have hv' : aggL v' = [] := hS.aggs
  have hst : v'.storable = true ∧ v'.cells = [v'] := by
    rcases hS.sl with ⟨h1, _⟩ | ⟨i, ver, L, rfl, _⟩
    · simp at h1
    · exact ⟨rfl, rfl⟩
  have kne' : (∀ i, idOf v' = some i → i ≠ k) ∧ k ∉ ids ++ [p] := by
    have hb : LinkAt (H'.set k (.mem 0 0 5 [[.d (.int .i64 3), .d (.int .i64 4), .d (.sl true []), v', .d (.int .i64 f)]])) k v' (ids ++ [p]) (sts ++ [newPt nl row]) f ↔ True := by
      constructor
      · exact fun _ => trivial
      · intro _
        refine ⟨set_self, hS.keep (fun i hi => set_ne fun he => ?_) fun i hi => set_ne fun he => ?_⟩
        · subst he
          rcases hS.sl with ⟨h1, _⟩ | ⟨j, ver, L, rfl, h3, _⟩
          · simp at h1
          · cases hi; rw [hnode'] at h3; cases h3
        · subst he
          rcases List.mem_append.1 hi with hi | hi
          · exact h.kne.2 hi
          · rw [List.mem_singleton] at hi; subst hi; rw [hp] at kS; cases kS
    exact (hb.2 trivial).kne
  simp only [nilCk_ptr, ti159_f3, hv', getM_of hnode', hst.1, hst.2, stoA_agg, stoA_get, stoM, setCells, and_self, true_and, Nat.le_refl, Nat.reduceLeDiff, List.cons_append, List.set_cons_zero, List.getElem?_cons_zero, List.take_succ_cons, List.take_zero, List.drop_succ_cons, List.drop_zero, go_sem]
  have lenv : lenSl v' = some (.d (.int .i64 (sts ++ [newPt nl row]).length)) := hS.lenS
  simp only [lenv, List.length_append, List.length_singleton, go_sem]
  have e : IntKind.i64.wrap (((sts.length + 1 : Nat) : Int) - 1) = sts.length := by rw [wrap_i64 (by omega) (by omega)]; omega
  rw [e]
  refine ⟨_, le_refl', hk hlt _ v' (ids ++ [p]) ⟨set_self, hS.keep (fun i hi => set_ne (kne'.1 i hi)) fun i hi => set_ne fun he => kne'.2 (he ▸ hi)⟩ (fun i hi hnf => ?_) fun i hi => ?_⟩
  · rw [set_ne (fun he => hnf (.inl he)), hO i (by rw [set_ne (fun he => by rw [he, hmn] at hi; cases hi)]; cases hh : H i with | none => rw [hh] at hi; cases hi | some o => rw [hle i o hh]; rfl) (fun he => hnf (.inr (.inl he))), set_ne (fun he => by rw [he, hmn] at hi; cases hi)]
    cases hh : H i with
    | none => rw [hh] at hi; cases hi
    | some o => exact hle i o hh
  · rcases hi with rfl | hi | hi
    · exact .inl (.inl rfl)
    · rcases hI i hi with h1 | h1
      · exact .inl (.inr (.inl h1))
      · refine .inr ?_
        by_cases him : i = m
        · rw [him]; exact hmn
        · rw [set_ne him] at h1; exact le_none hle h1
    · rcases List.mem_append.1 hi with hi | hi
      · exact .inl (.inr (.inr hi))
      · rw [List.mem_singleton] at hi; rw [hi]; exact .inr hp
end
end Go.Proofs.Ytgnnkpgceahjdaa

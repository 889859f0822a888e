/- What is done to a bus. -/
import Derived.Test.YtadpakkenokilaaM2c
import Derived.Test.YtadpakkenokilaaM2s
set_option autoImplicit false
set_option maxRecDepth 100000
set_option linter.unusedVariables false
set_option linter.unusedSimpArgs false
namespace Go.Proofs.Ytadpakkenokilaa
open Go Go.AM Go.Proofs
theorem nilA_eql {nl nl2 : Bool} {l l2 : List (List Dat)} : nilA 0 .eql (.d (.sl nl l)) (.d (.sl true l2)) = some (.d (.bool nl)) := by cases nl <;> rfl
theorem bs3_0 {H : AHeap} {n : Nat} : bsA ti3 0 [] [] H n = some (.lit [], []) := rfl
theorem clone_c {nl : Bool} {l : List Int} (hl : l.length < 2 ^ 40) (hnl : nl = true → l = []) {H : AHeap} {K : AV → AHeap → Prop} (h : K (.d (.sl nl (ints l))) H) : CallsA Try.prog 32 [.d (.sl nl (ints l))] H K := by
  apply C32
  unfold S32
  simp only [nilA_eql (nl2 := true), go_sem]
  cases nl with
  | true =>
    rw [hnl rfl] at h
    simp only [go_sem]
    exact ⟨H, le_refl', h⟩
  | false =>
    simp only [go_sem]
    intro n hn
    simp only [bs3_0, go_sem]
    refine (Gr.lit le_refl').app (ys := ints l) rfl (by decide) (by decide) ints_1 (by rw [ints_len]; simp [mostBytes]; omega) fun v' H3 hv' _ _ hn3 => ?_
    rw [List.nil_append] at hv'
    refine hv'.own.ret le_refl' ?_
    rw [hn3]
    exact h
/-- A new station. -/
def newSt (nl : Bool) (row : List Int) : St := ⟨nl, row, true, 0, 0, 0, 0⟩
theorem newSt_ok {nl : Bool} {row : List Int} (hw : ∀ x ∈ row, -9223372036854775808 ≤ x ∧ x ≤ 9223372036854775807) (hl : row.length < 2 ^ 40) : (newSt nl row).Ok :=
  ⟨⟨by simp [newSt], by simp [newSt]⟩, ⟨by simp [newSt], by simp [newSt]⟩, .inl rfl, ⟨by simp [newSt], by simp [newSt]⟩, (fun h => by cases h), hw, hl⟩
/-- A list of pointers that grows. -/
theorem bs65_1 {p i e o : Nat} {H : AHeap} {n : Nat} : bsA ti65 1 [0] [.ptr p i e o] H n = some (.rs n 0 1 0 1, [(n, .mem 0 0 1 [[.ptr p i e o]])]) := rfl
theorem bd68_eq {nl : Bool} {l : List (List Dat)} {H : AHeap} : bdA Try.prog ti68 [0, 1] [.d (.sl nl l), .d (.bool true)] H = some (.agg [.d (.sl nl l), .d (.bool true), .d (.int .i64 0), .d (.int .i64 0), .d (.int .i64 0), .d (.int .i64 0)], []) := by
  simp only [bdA, bd68, cell22, cell4, fillA, setCells, List.zip_cons_cons, List.zip_nil_right, Option.map_some, Nat.reduceLeDiff, List.cons_append, go_sem]
section
variable {H : AHeap} {k : Nat} {ln : Bool} {lost : List Int} {sv : AV} {ids : List Nat} {sts : List St} {f : Int} {K : AV → AHeap → Prop}
theorem rsOf_ptr' {i v e o : Nat} {b : AV} : apart (rsOf (.ptr i v e o)) b = True := by rw [rsOf_ptr, ap_nil]
/-- A slice of pointers gets one more. -/
theorem Sts.more (h : Sts H sv ids sts) (hn : sts.length < 40) {p : Nat} {s : St} (hp : H p = some (sObj s)) (hs : s.Ok) (hpn : p ∉ ids) {m : Nat} (hm : H m = some (.mem 0 0 1 [[.ptr p 0 0 0]])) {K : AV → AHeap → Prop}
    (hk : ∀ v' H', Sts H' v' (ids ++ [p]) (sts ++ [s]) → (∀ i, (H i).isSome → idOf sv ≠ some i → H' i = H i) → (∀ i, idOf v' = some i → idOf sv = some i ∨ H i = none) → K v' H') : newK H (fun n => apA 1 8 sv (.rs m 0 1 0 1) H n) K := by
  intro n hnn
  have hx : elemsA (.rs m 0 1 0 1) H = some [[.ptr p 0 0 0]] := by
    simp only [elemsA, hm, if_true]
    rfl
  have hnd : (ids ++ [p]).Nodup := List.nodup_append.2 ⟨h.nd, by simp, fun a ha b hb he => by rw [List.mem_singleton] at hb; subst hb; subst he; exact hpn ha⟩
  have objs : ∀ H' : AHeap, (∀ i ∈ ids, H' i = H i) → H' p = H p → ∀ j, j < (sts ++ [s]).length → H' ((ids ++ [p]).getD j 0) = some (sObj ((sts ++ [s]).getD j default)) := fun H' h1 h2 j hj => by
    rw [List.length_append, List.length_singleton] at hj
    by_cases hjl : j < sts.length
    · have e1 : (ids ++ [p]).getD j 0 = ids.getD j 0 := by rw [List.getD_eq_getElem?_getD, List.getElem?_append_left (by rw [h.len]; exact hjl), ← List.getD_eq_getElem?_getD]
      have e2 : (sts ++ [s]).getD j default = sts.getD j default := by rw [List.getD_eq_getElem?_getD, List.getElem?_append_left hjl, ← List.getD_eq_getElem?_getD]
      rw [e1, e2, h1 _ (h.mem hjl)]
      exact h.obj j hjl
    · have hje : j = sts.length := by omega
      subst hje
      have e1 : (ids ++ [p]).getD sts.length 0 = p := by rw [← h.len]; simp
      have e2 : (sts ++ [s]).getD sts.length default = s := by simp
      rw [e1, e2, h2, hp]
  have oks : ∀ x ∈ sts ++ [s], x.Ok := fun x hx => by
    rcases List.mem_append.1 hx with hx | hx
    · exact h.ok x hx
    · rw [List.mem_singleton] at hx; subst hx; exact hs
  have pne : p ≠ n := fun he => by rw [he, hnn] at hp; cases hp
  simp only [apA, hx]
  rcases h.sl with ⟨rfl, rfl⟩ | ⟨i, ver, L, rfl, h3, h4, h5⟩
  · have hids : ids = [] := List.eq_nil_of_length_eq_zero (by rw [h.len]; rfl)
    subst hids
    have e : appA 1 8 (.d (.sl true [])) [[.ptr p 0 0 0]] H n = some (.rs n 0 1 0 1, [(n, .mem 0 0 1 [[.ptr p 0 0 0]])]) := rfl
    simp only [List.all_cons, List.length_cons, List.length_nil, BEq.rfl, List.all_nil, Bool.and_self, Nat.reduceAdd, Nat.lt_irrefl, and_self, e, stepK, optA, AHeap.sets]
    rw [if_pos (by decide)]
    refine hk _ _ ⟨rfl, hnd, objs _ (fun i hi => by cases hi) (set_ne pne), .inr ⟨n, 0, _, rfl, set_self, rfl, Nat.le_refl _⟩, oks, by simp⟩ (fun i hi _ => set_ne fun he => by rw [he, hnn] at hi; cases hi) fun i hi => by cases hi; exact .inr hnn
  · have e : appA 1 8 (.rs i ver 1 0 sts.length) [[.ptr p 0 0 0]] H n = some (.rs i (ver + 1) 1 0 (sts.length + 1), [(i, .mem (ver + 1) 0 1 (ids.map (fun p => [.ptr p 0 0 0]) ++ [[.ptr p 0 0 0]]))]) := by
      simp only [appA, h3, Nat.zero_add, Nat.zero_le, h5, List.length_cons, List.length_nil, true_and, List.drop_zero, h4, Nat.sub_self]
      rw [if_pos (by unfold mostBytes; omega)]
    have hi : (H i).isSome := by rw [h3]; rfl
    have pni : p ≠ i := fun he => by rw [he, h3] at hp; cases hp
    rw [e, if_pos (show 0 < 1 ∧ 0 < 8 ∧ ([[AV.ptr p 0 0 0]].all fun y => y.length == 1) = true from ⟨by omega, by omega, rfl⟩)]
    simp only [stepK, optA, AHeap.sets]
    refine hk _ _ ⟨by simp [h.len], hnd, objs _ (fun j hj => set_ne fun he => h.sne (i := i) rfl (he ▸ hj)) (set_ne pni), .inr ⟨i, ver + 1, _, by rw [List.length_append, List.length_singleton], set_self, ?_, ?_⟩, oks, by rw [List.length_append, List.length_singleton]; omega⟩ (fun j hj hne => set_ne fun he => hne (by rw [he]; rfl)) fun j hj => .inl hj
    · rw [List.map_append, List.take_of_length_le (by simp [h.len])]
      rfl
    · simp [h.len]
theorem Add_c (h : BusAt H k ln lost sv ids sts f) {nl : Bool} {row : List Int} (hw : ∀ x ∈ row, -9223372036854775808 ≤ x ∧ x ≤ 9223372036854775807) (hl : row.length < 2 ^ 40) (hnl : nl = true → row = [])
    (hfull : sts.length = 40 → K (.tup [.d (.int .i64 0), .d (.int .i64 4)]) H) (hk : sts.length < 40 → ∀ H' sv' ids', BusAt H' k ln lost sv' ids' (sts ++ [newSt nl row]) f → (∀ i, (H i).isSome → ¬ foot k sv ids i → H' i = H i) → (∀ i, foot k sv' ids' i → foot k sv ids i ∨ H i = none) → K (.tup [.d (.int .i64 sts.length), .d (.int .i64 0)]) H') : CallsA Try.prog 12 [.ptr k 0 0 0, .d (.sl nl (ints row))] H K := by
  have hn := h.sts.n40
  have hagg := h.sts.aggs
  apply C12
  unfold S12
  simp only [go_sem]
  refine none_c h ?_
  simp only [nilCk_ptr, ti52_f2, getM_of h.node, h.sts.lenS, go_sem]
  split
  · rename_i h40
    exact ⟨H, le_refl', hfull (by omega)⟩
  rename_i h40
  have hlt : sts.length < 40 := by omega
  try simp only [nilCk_ptr, ti52_f2, getM_of h.node, rsOf_d, ap_nil, go_sem]
  refine ⟨_, clone_c hl hnl ⟨rfl, le_refl'⟩, ?_⟩
  simp only [rsOf_d, ap_nil, bd68_eq, go_sem]
  refine box_open rfl fun p G hG hle hp => ?_
  simp only [AV.cells, rsOf_ptr, ap_nil, go_sem] at hG ⊢
  intro m hm
  simp only [bs65_1, go_sem]
  have hB := h.le (le_trans' hle (le_set (o := .mem 0 0 1 [[.ptr p 0 0 0]]) le_refl' hm))
  have hpm : p ≠ m := le_ne hG hm
  have hpn : p ∉ ids := fun hh => by have := h.sts.isS (i := p) (.inr hh); rw [hp] at this; cases this
  have hGm : (G.set m (.mem 0 0 1 [[.ptr p 0 0 0]])) p = some (sObj (newSt nl row)) := by rw [set_ne hpm]; exact hG
  have hmn : H m = none := le_none hle hm
  refine hB.sts.more hlt hGm (newSt_ok hw hl) hpn set_self fun v' H' hS hO hI => ?_
  have kS : (H k).isSome := by rw [h.node]; rfl
  have hnode' : H' k = some (.mem 0 0 4 [[.d (.bool true), .d (.sl ln (ints lost)), sv, .d (.int .i64 f)]]) := by
    rw [hO k (by rw [hB.node]; rfl) (fun he => h.kne.1 k he rfl)]; exact hB.node
  have hv' : aggL v' = [] := hS.aggs
  have hst : v'.storable = true ∧ v'.cells = [v'] := by
    rcases hS.sl with ⟨h1, _⟩ | ⟨i, ver, L, rfl, _⟩
    · simp at h1
    · exact ⟨rfl, rfl⟩
  have kne' : (∀ i, idOf v' = some i → i ≠ k) ∧ k ∉ ids ++ [p] := by
    have hb : BusAt (H'.set k (.mem 0 0 4 [[.d (.bool true), .d (.sl ln (ints lost)), v', .d (.int .i64 f)]])) k ln lost v' (ids ++ [p]) (sts ++ [newSt nl row]) f ↔ True := by
      constructor
      · exact fun _ => trivial
      · intro _
        refine ⟨set_self, hS.keep (fun i hi => set_ne fun he => ?_) fun i hi => set_ne fun he => ?_⟩
        · subst he
          rcases hS.sl with ⟨h1, _⟩ | ⟨j, ver, L, rfl, h3, _⟩
          · simp at h1
          · cases hi; rw [hnode'] at h3; cases h3
        · subst he
          rcases List.mem_append.1 hi with hi | hi
          · exact h.kne.2 hi
          · rw [List.mem_singleton] at hi; subst hi; rw [hp] at kS; cases kS
    exact (hb.2 trivial).kne
  simp only [nilCk_ptr, ti52_f2, hv', getM_of hnode', hst.1, hst.2, stoA_agg, stoA_get, stoM, setCells, and_self, true_and, Nat.le_refl, Nat.reduceLeDiff, List.cons_append, List.set_cons_zero, List.getElem?_cons_zero, List.take_succ_cons, List.take_zero, List.drop_succ_cons, List.drop_zero, go_sem]
  have lenv : lenSl v' = some (.d (.int .i64 (sts ++ [newSt nl row]).length)) := hS.lenS
  simp only [lenv, List.length_append, List.length_singleton, go_sem]
  have e : IntKind.i64.wrap (((sts.length + 1 : Nat) : Int) - 1) = sts.length := by rw [wrap_i64 (by omega) (by omega)]; omega
  rw [e]
  refine ⟨_, le_refl', hk hlt _ v' (ids ++ [p]) ⟨set_self, hS.keep (fun i hi => set_ne (kne'.1 i hi)) fun i hi => set_ne fun he => kne'.2 (he ▸ hi)⟩ (fun i hi hnf => ?_) fun i hi => ?_⟩
  · rw [set_ne (fun he => hnf (.inl he)), hO i (by rw [set_ne (fun he => by rw [he, hmn] at hi; cases hi)]; cases hh : H i with | none => rw [hh] at hi; cases hi | some o => rw [hle i o hh]; rfl) (fun he => hnf (.inr (.inl he))), set_ne (fun he => by rw [he, hmn] at hi; cases hi)]
    cases hh : H i with
    | none => rw [hh] at hi; cases hi
    | some o => exact hle i o hh
  · rcases hi with rfl | hi | hi
    · exact .inl (.inl rfl)
    · rcases hI i hi with h1 | h1
      · exact .inl (.inr (.inl h1))
      · refine .inr ?_
        by_cases him : i = m
        · rw [him]; exact hmn
        · rw [set_ne him] at h1; exact le_none hle h1
    · rcases List.mem_append.1 hi with hi | hi
      · exact .inl (.inr (.inr hi))
      · rw [List.mem_singleton] at hi; rw [hi]; exact .inr hp
/-- A guess begun. -/
def St.begin (s : St) : St := if s.state = 1 then s else { s with state := 1, k := 0, sent := 0 }
theorem St.Ok.begin {s : St} (h : s.Ok) (ho : s.on = true) : s.begin.Ok := by
  unfold St.begin
  split
  · exact h
  · exact ⟨⟨by simp, by simp⟩, ⟨by simp, by simp⟩, .inr (.inl rfl), h.node, fun _ => ⟨by simp, by simp, ho⟩, h.wf, h.len⟩
theorem Guess_c (h : BusAt H k ln lost sv ids sts f) {i : Nat} (hi : i < sts.length) (hon : (sts.getD i default).on = true) (hk : ∀ H', BusAt H' k ln lost sv ids (sts.set i (sts.getD i default).begin) f → (∀ j, ¬ foot k sv ids j → H' j = H j) → K (.d (.int .i64 0)) H') : CallsA Try.prog 13 [.ptr k 0 0 0, .d (.int .i64 (i : Int))] H K := by
  apply C13
  unfold S13
  simp only [go_sem]
  refine asked_c h ?_
  rw [if_pos ⟨by omega, by omega⟩]
  obtain ⟨p, e1, e2⟩ := h.sts.ix hi
  have e3 := h.sts.obj i hi
  have hok := h.sts.okj hi
  have hput := h.put hi (hok.begin hon)
  have hmem := h.sts.mem hi
  simp only [not_true_eq_false, if_false, nilCk_ptr, ti52_f2, getM_of h.node, e1, e2, ti68_f1, getM_of e3, St.cells, hon, Bool.not_true, Bool.false_eq_true, go_sem]
  generalize ids.getD i 0 = q at *
  generalize hs : sts.getD i default = s at *
  simp only [nilCk_ptr, ti68_f1, ti68_f2, ti68_f3, ti68_f4, getM_of e3, St.cells, stoA_agg, stoA_get, stoM, setCells, and_self, true_and, Nat.le_refl, Nat.reduceLeDiff, List.cons_append, List.set_cons_zero, List.getElem?_cons_zero, List.take_succ_cons, List.take_zero, List.drop_succ_cons, List.drop_zero, go_sem]
  unfold St.begin at hput hk
  split
  · rename_i h1
    rw [if_neg h1] at hput hk
    try simp only [stoA_agg, stoA_get, stoM, setCells, and_self, true_and, Nat.le_refl, Nat.reduceLeDiff, List.cons_append, List.set_cons_zero, List.getElem?_cons_zero, List.take_succ_cons, List.take_zero, List.drop_succ_cons, List.drop_zero, go_sem]
    exact ⟨_, le_refl', hk _ hput fun j hj => set_ne fun he => hj (.inr (.inr (he ▸ hmem)))⟩
  · rename_i h1
    have h1 := Classical.not_not.1 h1
    rw [if_pos h1] at hput hk
    have e : sts.set i s = sts := by
      rw [← hs, List.getD_eq_getElem?_getD, List.getElem?_eq_getElem hi]
      exact List.set_getElem_self hi
    rw [e] at hk
    exact ⟨H, le_refl', hk H h fun j hj => rfl⟩
end
theorem bd52_eq {nl : Bool} {l : List (List Dat)} {H : AHeap} : bdA Try.prog ti52 [0, 1] [.d (.bool true), .d (.sl nl l)] H = some (.agg [.d (.bool true), .d (.sl nl l), .d (.sl true []), .d (.int .i64 0)], []) := by
  simp only [bdA, bd52, cell4, cell22, fillA, setCells, List.zip_cons_cons, List.zip_nil_right, Option.map_some, Nat.reduceLeDiff, List.cons_append, go_sem]
theorem newNil_c {H : AHeap} {K : AV → AHeap → Prop} (hk : ∀ k H', BusAt H' k true [] (.d (.sl true [])) [] [] 0 → AHeap.le H H' → H k = none → K (.ptr k 0 0 0) H') : CallsA Try.prog 11 [.d (.sl true [])] H K := by
  apply C11
  unfold S11
  simp only [go_sem]
  apply C30
  unfold S30
  refine box_open rfl fun k1 G hG hle hk1 => ?_
  simp only [AV.cells, go_sem] at hG ⊢
  refine ⟨G, le_refl', ?_⟩
  simp only [go_sem]
  refine sortedNil_c hG ?_
  simp only [bd52_eq, go_sem]
  refine box_open rfl fun k2 G2 hG2 hle2 hk2 => ?_
  simp only [AV.cells, go_sem] at hG2 ⊢
  exact ⟨G2, le_refl', hk k2 G2 ⟨hG2, ⟨rfl, .nil, fun j hj => by simp at hj, .inl ⟨rfl, rfl⟩, by simp, by simp⟩⟩ (le_trans' hle hle2) (le_none hle hk2)⟩
end Go.Proofs.Ytadpakkenokilaa

/- Several of my texts as one. -/
import Derived.Test.YtadpakkenokilaaM2x
import Derived.Test.YtadpakkenokilaaG2m
import Derived.Test.YtadpakkenokilaaGT2c
set_option linter.unnecessarySimpa false
/- The document's bus. -/
set_option autoImplicit false
set_option maxRecDepth 100000
set_option linter.unusedVariables false
set_option linter.unusedSimpArgs false
set_option linter.unnecessarySimpa false
namespace Go.Proofs.Ytadpakkenokilaa
open Go Go.AM Go.Proofs
def rRow (s : St) : List Dat := [.sl false (ints s.row), .bool s.on, .int .i64 s.state, .int .i64 s.k, .int .i64 s.sent, .int .i64 (nodeOf s)]
structure RB (G : AHeap) (w : Nat) (lost : List Int) (v : AV) (sts : List St) (f : Int) : Prop where
  node : G w = some (.mem 0 0 3 [[.d (.sl false (ints lost)), v, .d (.int .i64 f)]])
  ms : Ms 6 G v (sts.map rRow)
  n40 : sts.length ≤ 40
  ok : ∀ s ∈ sts, s.Ok
def rfoot (w : Nat) (v : AV) (i : Nat) : Prop := i = w ∨ idOf v = some i
section
variable {H G : AHeap} {w : Nat} {lost : List Int} {v : AV} {sts : List St} {f : Int} {K : AV → AHeap → Prop}
theorem RB.len (h : RB H w lost v sts f) : lenSl v = some (.d (.int .i64 sts.length)) := by rw [h.ms.len, List.length_map]
theorem RB.okj (h : RB H w lost v sts f) {j : Nat} (hj : j < sts.length) : (sts.getD j default).Ok := by
  rw [List.getD_eq_getElem?_getD, List.getElem?_eq_getElem hj]
  exact h.ok _ (List.getElem_mem hj)
theorem RB.wne (h : RB H w lost v sts f) : ∀ i, idOf v = some i → i ≠ w := fun i hi => h.ms.ne h.node (by simp [osz]) hi
theorem RB.foot (h : RB H w lost v sts f) {i : Nat} (hi : rfoot w v i) : (H i).isSome := by
  rcases hi with rfl | hi
  · rw [h.node]; rfl
  · obtain ⟨ver, L, g⟩ := h.ms.isObj hi
    rw [g]; rfl
theorem RB.keep (h : RB H w lost v sts f) (hk : ∀ i, rfoot w v i → G i = H i) : RB G w lost v sts f :=
  ⟨by rw [hk w (.inl rfl)]; exact h.node, h.ms.keep fun i hi => hk i (.inr hi), h.n40, h.ok⟩
theorem RB.le (h : RB H w lost v sts f) (hle : AHeap.le H G) : RB G w lost v sts f :=
  h.keep fun i hi => by
    obtain ⟨o, ho⟩ : ∃ o, H i = some o := Option.isSome_iff_exists.1 (h.foot hi)
    rw [hle i o ho, ho]
theorem RB.now (h : RB H w lost v sts f) {f' : Int} (hn : G w = some (.mem 0 0 3 [[.d (.sl false (ints lost)), v, .d (.int .i64 f')]])) (hf : ∀ i, (H i).isSome → i ≠ w → G i = H i) : RB G w lost v sts f' :=
  ⟨hn, h.ms.keep fun i hi => hf i (h.foot (.inr hi)) (h.wne i hi), h.n40, h.ok⟩
theorem RB.at (h : RB H w lost v sts f) {j : Nat} (hj : j < sts.length) : ∃ i ver Lm, indexAddrA ti74 6 v (.d (.int .i64 (j : Int))) = some (.ptr i ver j 0) ∧ idOf v = some i ∧ H i = some (.mem ver 0 6 Lm) ∧ Lm[j]? = some ((rRow (sts.getD j default)).map AV.d) :=
  h.ms.at (ti := ti74) (et := 89) rfl (by rw [List.getElem?_map, List.getD_eq_getElem?_getD, List.getElem?_eq_getElem hj]; rfl)
theorem RB.ld (h : RB H w lost v sts f) : ldV false 1 (.ptr w 0 0 0) H = some (.d (.sl false (ints lost))) ∧ ldV false 1 (.ptr w 0 0 1) H = some v ∧ ldV false 1 (.ptr w 0 0 2) H = some (.d (.int .i64 f)) :=
  ⟨ldV_at h.node rfl rfl, ldV_at h.node rfl rfl, ldV_at h.node rfl rfl⟩
theorem ld89 {i ver j : Nat} {Lm : List (List AV)} {s : St} (h1 : H i = some (.mem ver 0 6 Lm)) (h2 : Lm[j]? = some ((rRow s).map AV.d)) :
    ldV false 1 (.ptr i ver j 0) H = some (.d (.sl false (ints s.row))) ∧ ldV false 1 (.ptr i ver j 1) H = some (.d (.bool s.on)) ∧ ldV false 1 (.ptr i ver j 2) H = some (.d (.int .i64 s.state)) ∧ ldV false 1 (.ptr i ver j 3) H = some (.d (.int .i64 s.k)) ∧ ldV false 1 (.ptr i ver j 4) H = some (.d (.int .i64 s.sent)) ∧ ldV false 1 (.ptr i ver j 5) H = some (.d (.int .i64 (nodeOf s))) :=
  ⟨ldV_at h1 h2 rfl, ldV_at h1 h2 rfl, ldV_at h1 h2 rfl, ldV_at h1 h2 rfl, ldV_at h1 h2 rfl, ldV_at h1 h2 rfl⟩
theorem ris_c (h : RB H w lost v sts f) {i : Int} (hk : K (.d (.bool (decide (0 ≤ i ∧ i < sts.length)))) H) : CallsA Try.prog 64 [.ptr w 0 0 0, .d (.int .i64 i)] H K := by
  apply C64
  unfold S64
  obtain ⟨_, l1, _⟩ := h.ld
  simp only [intA_geq, optA_some, ifA_ite, nilCk_ptr, ti76_f1, Nat.zero_add, l1, h.len, intA_lss]
  refine ite_of (fun h => ?_) fun h => ?_
  · simp only [go_sem]
    exact ⟨_, le_refl', k_bool hk (by simp only [decide_eq_decide]; omega)⟩
  · simp only [go_sem]
    exact ⟨_, le_refl', k_bool hk (by have : ¬ (0 ≤ i ∧ i < (sts.length : Int)) := by omega
                                      simp [this])⟩
theorem rNode_c (h : RB H w lost v sts f) {i : Int} (hk : K (.d (.int .i64 (nodeB sts i))) H) : CallsA Try.prog 44 [.ptr w 0 0 0, .d (.int .i64 i)] H K := by
  apply C44
  unfold S44
  simp only [frzLK_ptr, frzLK_d, frzLK_nil]
  refine ris_c h ?_
  unfold nodeB at hk
  obtain ⟨_, l1, _⟩ := h.ld
  by_cases hi : 0 ≤ i ∧ i < sts.length
  · rw [if_pos hi] at hk
    obtain ⟨j, rfl⟩ : ∃ j : Nat, i = j := ⟨i.toNat, by omega⟩
    rw [Int.toNat_natCast] at hk
    obtain ⟨i', ver, Lm, e1, _, e3, e4⟩ := h.at (j := j) (by omega)
    obtain ⟨_, _, _, _, _, m5⟩ := ld89 e3 e4
    simp only [hi, and_self, decide_true, unA_not, Bool.not_true, optA_some, ifA_f, nilCk_ptr, ti76_f1, Nat.zero_add, l1, e1, ti89_f5, m5]
    simp only [go_sem]
    exact ⟨_, le_refl', hk⟩
  · rw [if_neg hi] at hk
    simp only [hi, decide_false, unA_not, Bool.not_false, optA_some, ifA_t]
    simp only [go_sem]
    exact ⟨_, le_refl', hk⟩
theorem rState_c (h : RB H w lost v sts f) {i : Int} (hk : K (.d (.int .i64 (stateB sts i))) H) : CallsA Try.prog 45 [.ptr w 0 0 0, .d (.int .i64 i)] H K := by
  apply C45
  unfold S45
  simp only [frzLK_ptr, frzLK_d, frzLK_nil]
  refine ris_c h ?_
  unfold stateB at hk
  obtain ⟨_, l1, _⟩ := h.ld
  by_cases hi : 0 ≤ i ∧ i < sts.length
  · rw [if_pos hi] at hk
    obtain ⟨j, rfl⟩ : ∃ j : Nat, i = j := ⟨i.toNat, by omega⟩
    rw [Int.toNat_natCast] at hk
    obtain ⟨i', ver, Lm, e1, _, e3, e4⟩ := h.at (j := j) (by omega)
    obtain ⟨_, _, m2, _⟩ := ld89 e3 e4
    simp only [hi, and_self, decide_true, unA_not, Bool.not_true, optA_some, ifA_f, nilCk_ptr, ti76_f1, Nat.zero_add, l1, e1, ti89_f2, m2]
    simp only [go_sem]
    exact ⟨_, le_refl', hk⟩
  · rw [if_neg hi] at hk
    simp only [hi, decide_false, unA_not, Bool.not_false, optA_some, ifA_t]
    simp only [go_sem]
    exact ⟨_, le_refl', hk⟩
theorem rQuiet_c (h : RB H w lost v sts f) (hk : K (.d (.bool (quietB sts))) H) : CallsA Try.prog 46 [.ptr w 0 0 0] H K := by
  apply C46
  unfold S46
  obtain ⟨_, l1, _⟩ := h.ld
  have hn := h.n40
  refine loop_ind (fun n vs G => ∃ j : Nat, j ≤ sts.length ∧ n = sts.length - j ∧ vs = [.ptr w 0 0 0, .d (.int .i64 (j : Int))] ∧ G = H ∧ ∀ i, i < j → (sts.getD i default).state ≠ 1) (n := sts.length) ⟨0, Nat.zero_le _, rfl, rfl, rfl, fun i hi => by omega⟩ ?_
  rintro X n vs G ⟨j, hj, rfl, rfl, rfl, hq⟩ hX
  by_cases hjl : j = sts.length
  · subst hjl
    rw [quietB_lt.2 hq] at hk
    simp only [List.getD_cons_succ, List.getD_cons_zero, nilCk_ptr, ti76_f1, Nat.zero_add, l1, h.len, optA_some, intA_lss, Int.lt_irrefl, decide_false, ifA_f]
    simp only [go_sem]
    exact ⟨_, le_refl', hk⟩
  · have hlt : (j : Int) < (sts.length : Int) := by omega
    obtain ⟨i', ver, Lm, e1, _, e3, e4⟩ := h.at (j := j) (by omega)
    obtain ⟨_, _, m2, _⟩ := ld89 e3 e4
    have hw : IntKind.i64.wrap ((j : Int) + 1) = ((j + 1 : Nat) : Int) := by rw [wrap_i64 (by omega) (by omega)]; omega
    simp only [List.getD_cons_succ, List.getD_cons_zero, nilCk_ptr, ti76_f1, Nat.zero_add, l1, h.len, optA_some, intA_lss, hlt, decide_true, ifA_t, e1, ti89_f2, m2, intA_eql, ifA_ite]
    refine ite_of (fun h1 => ?_) fun h1 => ?_
    · have : quietB sts = false := by
        cases hq2 : quietB sts with
        | false => rfl
        | true => exact absurd h1 (quietB_lt.1 hq2 j (by omega))
      rw [this] at hk
      simp only [go_sem]
      exact ⟨_, le_refl', hk⟩
    · simp only [intA_add, hw, optA_some]
      refine hX (sts.length - (j + 1)) _ _ (by omega) ⟨j + 1, by omega, rfl, rfl, rfl, fun i hi => ?_⟩
      by_cases hij : i = j
      · rw [hij]; exact h1
      · exact hq i (by omega)
theorem rguess_c {nl : Bool} {row : List Int} {k : Int} (hk0 : 0 ≤ k ∧ k ≤ 253) (hlen : row.length < 2 ^ 40) (hk : K (.d (.int .i64 (guess row k))) H) : CallsA Try.prog 65 [.d (.sl nl (ints row)), .d (.int .i64 k)] H K := by
  apply C65
  unfold S65
  have tb : ∀ n : Int, -253 < n.tmod 253 ∧ n.tmod 253 < 253 := tmod_bd
  simp only [lenSl_d, ints_len, optA_some, intA_eql, ifA_ite]
  refine ite_of (fun h0 => ?_) fun h0 => ?_
  · have hr : row = [] := List.length_eq_zero_iff.1 (by omega)
    have := tb k
    simp only [intA_rem (b := 253) (by decide), optA_some, intA_add]
    rw [wrap_i64 (by omega) (by omega)]
    simp only [go_sem]
    unfold guess at hk
    rw [if_pos hr] at hk
    exact ⟨_, le_refl', hk⟩
  · have hpos : 0 < row.length := by omega
    have hne : row ≠ [] := fun he => by rw [he] at hpos; simp at hpos
    have hm : k.tmod row.length = ((k.toNat % row.length : Nat) : Int) := by
      rw [Int.tmod_eq_emod_of_nonneg hk0.1, Int.natCast_emod, Int.toNat_of_nonneg hk0.1]
    have hlt := Nat.mod_lt k.toNat hpos
    unfold guess at hk
    rw [if_neg hne, hm, Int.toNat_natCast] at hk
    generalize hq : k.toNat % row.length = q at *
    have hix : indexAddrA ti22 1 (.d (.sl nl (ints row))) (.d (.int .i64 (q : Int))) = some (.vptr [.int .i64 (row.getD q 0)] 0) := by
      simp only [indexAddrA, ti22, Int.natCast_nonneg, if_true, Int.toNat_natCast, ints_get hlt, List.length_cons, List.length_nil, Nat.zero_add]
    have hld : ldV false 1 (.vptr [.int .i64 (row.getD q 0)] 0) H = some (.d (.int .i64 (row.getD q 0))) := rfl
    rw [intA_rem (show (row.length : Int) ≠ 0 by omega), hm]
    simp only [optA_some, hix, hld, intA_rem (b := 253) (by decide), intA_lss, ifA_ite]
    have hb := tb (row.getD q 0)
    generalize (row.getD q 0).tmod 253 = m at *
    refine ite_of (fun hneg => ?_) fun hneg => ?_
    · simp only [intA_add, optA_some]
      rw [wrap_i64 (n := m + 253) (by omega) (by omega), wrap_i64 (by omega) (by omega)]
      simp only [go_sem]
      refine ⟨_, le_refl', k_int hk ?_⟩
      rw [Int.tmod_eq_emod_of_nonneg (by omega)]; omega
    · simp only [intA_add, optA_some]
      rw [wrap_i64 (by omega) (by omega)]
      simp only [go_sem]
      refine ⟨_, le_refl', k_int hk ?_⟩
      rw [Int.tmod_eq_emod_of_nonneg (by omega)]; omega
theorem rhas_c {nl : Bool} {l : List Int} {x : Int} (hl : l.length < 2 ^ 40) (hk : K (.d (.bool (decide (x ∈ l)))) H) : CallsA Try.prog 66 [.d (.sl nl (ints l)), .d (.int .i64 x)] H K := by
  apply C66
  unfold S66
  refine loop_ind (fun n vs G => ∃ j : Nat, j ≤ l.length ∧ n = l.length - j ∧ vs = [.d (.sl nl (ints l)), .d (.int .i64 x), .d (.int .i64 (j : Int))] ∧ G = H ∧ ∀ i, i < j → l.getD i 0 ≠ x) (n := l.length) ⟨0, Nat.zero_le _, rfl, rfl, rfl, fun i hi => by omega⟩ ?_
  rintro X n vs G ⟨j, hj, rfl, rfl, rfl, hq⟩ hX
  by_cases hjl : j = l.length
  · subst hjl
    have hno : x ∉ l := fun hm => by
      obtain ⟨i, hi, he⟩ := List.mem_iff_getElem.1 hm
      exact hq i hi (by rw [getD_eq hi]; exact he)
    simp only [List.getD_cons_succ, List.getD_cons_zero, lenSl_d, ints_len, optA_some, intA_lss, Int.lt_irrefl, decide_false, ifA_f]
    simp only [go_sem]
    exact ⟨_, le_refl', k_bool hk (by simp [hno])⟩
  · have hj' : j < l.length := by omega
    have hlt : (j : Int) < (l.length : Int) := by omega
    have hix : indexAddrA ti22 1 (.d (.sl nl (ints l))) (.d (.int .i64 (j : Int))) = some (.vptr [.int .i64 (l.getD j 0)] 0) := by
      simp only [indexAddrA, ti22, Int.natCast_nonneg, if_true, Int.toNat_natCast, ints_get hj', List.length_cons, List.length_nil, Nat.zero_add]
    have hld : ldV false 1 (.vptr [.int .i64 (l.getD j 0)] 0) G = some (.d (.int .i64 (l.getD j 0))) := rfl
    have hw : IntKind.i64.wrap ((j : Int) + 1) = ((j + 1 : Nat) : Int) := by rw [wrap_i64 (by omega) (by omega)]; omega
    simp only [List.getD_cons_succ, List.getD_cons_zero, lenSl_d, ints_len, optA_some, intA_lss, hlt, decide_true, ifA_t, hix, hld, intA_eql, ifA_ite]
    refine ite_of (fun h1 => ?_) fun h1 => ?_
    · have hyes : x ∈ l := by rw [← h1, getD_eq hj']; exact List.getElem_mem hj'
      simp only [go_sem]
      exact ⟨_, le_refl', k_bool hk (by simp [hyes])⟩
    · simp only [intA_add, hw, optA_some]
      refine hX (l.length - (j + 1)) _ _ (by omega) ⟨j + 1, by omega, rfl, rfl, rfl, fun i hi => ?_⟩
      by_cases hij : i = j
      · rw [hij]; exact h1
      · exact hq i (by omega)
end
end Go.Proofs.Ytadpakkenokilaa
/- The document's bus: New, Add, Turn, Guess, and its stations' answers. -/
set_option autoImplicit false
set_option maxRecDepth 100000
set_option linter.unusedVariables false
set_option linter.unusedSimpArgs false
set_option linter.unnecessarySimpa false
namespace Go.Proofs.Ytadpakkenokilaa
open Go Go.AM Go.Proofs
section
variable {H G : AHeap} {k w : Nat} {ln : Bool} {lost L : List Int} {sv v : AV} {ids : List Nat} {sts : List St} {f : Int} {K : AV → AHeap → Prop}
theorem ld6 {i ver j : Nat} {Lm : List (List AV)} {r : List Dat} (h1 : H i = some (.mem ver 0 6 Lm)) (h2 : Lm[j]? = some (r.map AV.d)) {n : Nat} {x : Dat} (h : r[n]? = some x) : ldV false 1 (.ptr i ver j n) H = some (.d x) :=
  ldV_at h1 h2 (by rw [List.getElem?_map, h]; rfl)
theorem st6 {i ver j : Nat} {Lm : List (List AV)} {r : List Dat} (h1 : H i = some (.mem ver 0 6 Lm)) (h2 : Lm[j]? = some (r.map AV.d)) {n : Nat} {x : Dat} (hn : n < r.length) : stoA false 1 (.ptr i ver j n) (.d x) H = some (.junk, [(i, .mem ver 0 6 (Lm.set j ((r.set n x).map AV.d)))]) := by
  rw [stoA_at h1 (Nat.zero_le _) h2 (by rw [List.length_map]; exact hn) rfl rfl, List.map_set]
theorem set6 {Lm : List (List AV)} {j : Nat} {r r' : List AV} (h2 : Lm[j]? = some r) : (Lm.set j r')[j]? = some r' := List.getElem?_set_self (List.getElem?_eq_some_iff.1 h2).1
theorem RB.upd (h : RB H w lost v sts f) {i ver j : Nat} {Lm : List (List AV)} (hi : idOf v = some i) (hL : H i = some (.mem ver 0 6 Lm)) (hj : j < sts.length) {s' : St} (ok : s'.Ok) : RB (H.set i (.mem ver 0 6 (Lm.set j ((rRow s').map AV.d)))) w lost v (sts.set j s') f := by
  refine ⟨by rw [set_ne (Ne.symm (h.wne i hi))]; exact h.node, ?_, by rw [List.length_set]; exact h.n40, fun s hs => ?_⟩
  · rw [List.map_set]
    exact h.ms.put hi hL (by rw [List.length_map]; exact hj) (by simp [rRow])
  · rcases List.mem_or_eq_of_mem_set hs with h1 | h1
    · exact h.ok s h1
    · rw [h1]; exact ok
theorem turn_row {s : St} {o : Bool} (hb : ¬ s.on = o) : (((rRow s).set 1 (.bool o)).set 2 (.int .i64 0)).set 5 (.int .i64 0) = rRow (s.turn o) := by
  unfold St.turn
  rw [if_neg hb]
  simp [rRow, nodeOf]
theorem rTurnG_c (h : RB H w lost v sts f) {i : Int} {o : Bool} (h1 : ¬ (0 ≤ i ∧ i < sts.length) → K (.d (.int .i64 2)) H) (h2 : ∀ j : Nat, j < sts.length → i = j → ∀ H', RB H' w lost v (sts.set j ((sts.getD j default).turn o)) f → (∀ x, ¬ rfoot w v x → H' x = H x) → K (.d (.int .i64 0)) H') : CallsA Try.prog 41 [.ptr w 0 0 0, .d (.int .i64 i), .d (.bool o)] H K := by
  apply C41
  unfold S41
  simp only [frzLK_ptr, frzLK_d, frzLK_nil]
  refine ris_c h ?_
  obtain ⟨_, l1, _⟩ := h.ld
  by_cases hi : 0 ≤ i ∧ i < sts.length
  · obtain ⟨j, rfl⟩ : ∃ j : Nat, i = j := ⟨i.toNat, by omega⟩
    have hj : j < sts.length := by omega
    obtain ⟨i', ver, Lm, e1, e2, e3, e4⟩ := h.at hj
    have k2 := h2 j hj rfl
    clear h2
    have hput := h.upd e2 e3 hj ((h.okj hj).turn o)
    have hid : sts.set j (sts.getD j default) = sts := by
      rw [List.getD_eq_getElem?_getD, List.getElem?_eq_getElem hj]
      exact List.set_getElem_self hj
    generalize hs : sts.getD j default = s at *
    have lo := ld6 e3 e4 (n := 1) rfl
    simp only [hi, and_self, decide_true, unA_not, Bool.not_true, optA_some, ifA_f, nilCk_ptr, ti76_f1, Nat.zero_add, l1, e1, ti89_f1, ti89_f2, ti89_f5, lo, boolA_neq]
    by_cases hb : s.on = o
    · have ht : s.turn o = s := by unfold St.turn; rw [if_pos hb]
      rw [ht, hid] at k2
      subst hb
      simp only [beq_self_eq_true, Bool.not_true, ifA_f]
      simp only [go_sem]
      exact ⟨_, le_refl', k2 H h fun _ _ => rfl⟩
    · have hb' : (s.on == o) = false := by simpa using hb
      rw [← turn_row hb] at hput
      have s1 := st6 e3 e4 (n := 1) (x := .bool o) (by simp [rRow])
      have s2 := st6 (H := H.set i' (.mem ver 0 6 (Lm.set j (((rRow s).set 1 (.bool o)).map AV.d)))) set_self (set6 e4) (n := 2) (x := .int .i64 0) (by simp [rRow])
      have s3 := st6 (H := H.set i' (.mem ver 0 6 (Lm.set j ((((rRow s).set 1 (.bool o)).set 2 (.int .i64 0)).map AV.d)))) set_self (set6 e4) (n := 5) (x := .int .i64 0) (by simp [rRow])
      simp only [List.set_set] at s2 s3
      simp only [hb', Bool.not_false, ifA_t, s1, stepK_some, sets_cons, sets_nil', s2, set_set, s3]
      simp only [go_sem]
      exact ⟨_, le_refl', k2 _ hput fun x hx => set_ne fun he => hx (.inr (he ▸ e2))⟩
  · simp only [hi, decide_false, unA_not, Bool.not_false, optA_some, ifA_t]
    simp only [go_sem]
    exact ⟨_, le_refl', h1 hi⟩
theorem begin_row {s : St} (hs : s.state ≠ 1) : ((((rRow s).set 2 (.int .i64 1)).set 3 (.int .i64 0)).set 4 (.int .i64 0)).set 5 (.int .i64 (guess s.row 0)) = rRow s.begin := by
  unfold St.begin
  rw [if_neg hs]
  simp [rRow, nodeOf, St.gs]
theorem rGuessG_c (h : RB H w lost v sts f) {i : Int} (h1 : ¬ (0 ≤ i ∧ i < sts.length ∧ (sts.getD i.toNat default).on = true) → K (.d (.int .i64 2)) H) (h2 : ∀ j : Nat, j < sts.length → i = j → (sts.getD j default).on = true → ∀ H', RB H' w lost v (sts.set j (sts.getD j default).begin) f → (∀ x, ¬ rfoot w v x → H' x = H x) → K (.d (.int .i64 0)) H') : CallsA Try.prog 42 [.ptr w 0 0 0, .d (.int .i64 i)] H K := by
  apply C42
  unfold S42
  simp only [frzLK_ptr, frzLK_d, frzLK_nil]
  refine ris_c h ?_
  obtain ⟨_, l1, _⟩ := h.ld
  by_cases hi : 0 ≤ i ∧ i < sts.length
  · obtain ⟨j, rfl⟩ : ∃ j : Nat, i = j := ⟨i.toNat, by omega⟩
    have hj : j < sts.length := by omega
    rw [Int.toNat_natCast] at h1
    obtain ⟨i', ver, Lm, e1, e2, e3, e4⟩ := h.at hj
    have k2 := h2 j hj rfl
    clear h2
    have okj := h.okj hj
    have hupd : ∀ ho : (sts.getD j default).on = true, _ := fun ho => h.upd e2 e3 hj (okj.begin ho)
    have hid : sts.set j (sts.getD j default) = sts := by
      rw [List.getD_eq_getElem?_getD, List.getElem?_eq_getElem hj]
      exact List.set_getElem_self hj
    generalize hs : sts.getD j default = s at *
    have lo := ld6 e3 e4 (n := 1) rfl
    have l2 := ld6 e3 e4 (n := 2) rfl
    have l0 := ld6 e3 e4 (n := 0) rfl
    simp only [hi, and_self, decide_true, unA_not, Bool.not_true, optA_some, ifA_f, nilCk_ptr, ti76_f1, Nat.zero_add, l1, e1, ti89_f0, ti89_f1, ti89_f2, ti89_f3, ti89_f4, ti89_f5, lo, l2, l0]
    cases hon : s.on with
    | false =>
      simp only [Bool.not_false, ifA_t]
      simp only [go_sem]
      exact ⟨_, le_refl', h1 fun hh => by rw [hon] at hh; cases hh.2.2⟩
    | true =>
      simp only [Bool.not_true, ifA_f, intA_neq, optA_some, ifA_ite]
      refine ite_of (fun h3 => ?_) fun h3 => ?_
      · have hput := hupd hon
        rw [← begin_row h3] at hput
        simp only [frzLK_d, frzLK_nil]
        refine rguess_c (by omega) okj.len ?_
        have s1 := st6 e3 e4 (n := 2) (x := .int .i64 1) (by simp [rRow])
        have s2 := st6 (H := H.set i' (.mem ver 0 6 (Lm.set j (((rRow s).set 2 (.int .i64 1)).map AV.d)))) set_self (set6 e4) (n := 3) (x := .int .i64 0) (by simp [rRow])
        have s3 := st6 (H := H.set i' (.mem ver 0 6 (Lm.set j ((((rRow s).set 2 (.int .i64 1)).set 3 (.int .i64 0)).map AV.d)))) set_self (set6 e4) (n := 4) (x := .int .i64 0) (by simp [rRow])
        have s4 := st6 (H := H.set i' (.mem ver 0 6 (Lm.set j (((((rRow s).set 2 (.int .i64 1)).set 3 (.int .i64 0)).set 4 (.int .i64 0)).map AV.d)))) set_self (set6 e4) (n := 5) (x := .int .i64 (guess s.row 0)) (by simp [rRow])
        simp only [List.set_set] at s2 s3 s4
        simp only [s1, stepK_some, sets_cons, sets_nil', s2, set_set, s3, s4]
        simp only [go_sem]
        exact ⟨_, le_refl', k2 hon _ hput fun x hx => set_ne fun he => hx (.inr (he ▸ e2))⟩
      · have hb : s.begin = s := by unfold St.begin; rw [if_pos (Classical.not_not.1 h3)]
        rw [hb, hid] at k2
        simp only [go_sem]
        exact ⟨_, le_refl', k2 hon H h fun _ _ => rfl⟩
  · simp only [hi, decide_false, unA_not, Bool.not_false, optA_some, ifA_t]
    simp only [go_sem]
    exact ⟨_, le_refl', h1 fun hh => hi ⟨hh.1, hh.2.1⟩⟩
/-- The program's Guess, with its errors. -/
theorem GuessEx_c (h : BusAt H k ln L sv ids sts f) {i : Int} (h1 : ¬ (0 ≤ i ∧ i < sts.length ∧ (sts.getD i.toNat default).on = true) → K (.d (.int .i64 2)) H) (h2 : ∀ j : Nat, j < sts.length → i = j → (sts.getD j default).on = true → ∀ H', BusAt H' k ln L sv ids (sts.set j (sts.getD j default).begin) f → (∀ x, ¬ foot k sv ids x → H' x = H x) → K (.d (.int .i64 0)) H') : CallsA Try.prog 13 [.ptr k 0 0 0, .d (.int .i64 i)] H K := by
  by_cases hi : 0 ≤ i ∧ i < sts.length
  · obtain ⟨j, rfl⟩ : ∃ j : Nat, i = j := ⟨i.toNat, by omega⟩
    have hj : j < sts.length := by omega
    rw [Int.toNat_natCast] at h1
    cases hon : (sts.getD j default).on with
    | true => exact Guess_c h hj hon (h2 j hj rfl hon)
    | false =>
      apply C13
      unfold S13
      simp only [frzLK_ptr, frzLK_d, frzLK_nil]
      refine asked_c h ?_
      obtain ⟨p, e1, e2⟩ := h.sts.ix hj
      have e3 := h.sts.obj j hj
      rw [if_pos hi]
      have lv : ldV false 1 (.ptr k 0 0 2) H = some sv := ldV_at h.node rfl rfl
      obtain ⟨lo, _, _⟩ := ld68 e3
      simp only [intA_neq, Int.reduceEq, Int.reduceNe, Int.reduceLT, Int.reduceLE, not_true_eq_false, not_false_eq_true, decide_true, decide_false, Int.reduceAdd, Int.reduceSub, Int.reduceMul, optA_some, ifA_f, nilCk_ptr, ti52_f2, Nat.zero_add, lv, e1, e2, ti68_f1, lo, hon, unA_not, Bool.not_false, ifA_t, ne_eq]
      simp only [go_sem]
      exact ⟨_, le_refl', h1 fun hh => by rw [hon] at hh; cases hh.2.2⟩
  · apply C13
    unfold S13
    simp only [frzLK_ptr, frzLK_d, frzLK_nil]
    refine asked_c h ?_
    rw [if_neg hi]
    simp only [intA_neq, Int.reduceEq, Int.reduceNe, Int.reduceLT, Int.reduceLE, not_true_eq_false, not_false_eq_true, decide_true, decide_false, Int.reduceAdd, Int.reduceSub, Int.reduceMul, go_sem]
    exact ⟨_, le_refl', h1 fun hh => hi ⟨hh.1, hh.2.1⟩⟩
theorem bd76_new {x : AV} {l : List (List Dat)} {us : Ups} (f : frzA x H = some (.d (.sl false l), us)) : bdA Try.prog ti76 [0] [x] H = some (.agg [.d (.sl false l), .d (.sl true []), .d (.int .i64 0)], us) := by
  have c22 : Try.prog.cellsOf 22 = 1 := by kernel_rfl
  simp only [bdA, frzAL, frzA_d, AHeap.sets, f, List.append_nil, sets_nil']
  simp only [bd76, c22, fillA, setCells, List.zip_cons_cons, List.zip_nil_right, Option.map_some, Nat.reduceLeDiff, List.cons_append, go_sem]
theorem newRefL_c {nl : Bool} {zs : List Int} (hz : zs.length < 2 ^ 40) (hk : ∀ w H', RB H' w zs (.d (.sl true [])) [] 0 → AHeap.le H H' → H w = none → K (.ptr w 0 0 0) H') : CallsA Try.prog 20 [.d (.sl nl (ints zs))] H K := by
  apply C20
  unfold S20
  simp only [bs3_0', newK_iff, stepK_some, sets_nil']
  intro _ _
  refine (?_ : newK H (fun n14 => apA 1 8 (.lit []) (.d (.sl nl (ints zs))) H n14) _)
  refine cpI hz fun x G hv hnv hfr => ?_
  obtain ⟨us, f1, f2, f3, _⟩ := hv.own.frz
  rw [hnv] at f2
  simp only [bd76_new f2, stepK_some]
  intro n11 hn11
  refine (?_ : newK (G.sets us) (fun n11 => boxA (.agg [.d (.sl false (ints zs)), .d (.sl true []), .d (.int .i64 0)]) n11) _) n11 hn11
  refine box_open rfl fun w G2 hG2 hle hw => ?_
  simp only [go_sem]
  exact ⟨_, le_refl', hk w G2 ⟨hG2, Ms.nil, by simp, by simp⟩ (le_trans' f3 hle) (le_none f3 hw)⟩
theorem rAddG_c (h : RB H w lost v sts f) {nl : Bool} {row : List Int} (hl : row.length < 2 ^ 40) (okn : (newSt nl row).Ok)
    (hfull : sts.length = 40 → K (.tup [.d (.int .i64 0), .d (.int .i64 4)]) H) (hk : sts.length < 40 → ∀ H' v', RB H' w lost v' (sts ++ [newSt nl row]) f → (∀ i, (H i).isSome → ¬ rfoot w v i → H' i = H i) → (∀ i, rfoot w v' i → rfoot w v i ∨ H i = none) → K (.tup [.d (.int .i64 sts.length), .d (.int .i64 0)]) H') : CallsA Try.prog 40 [.ptr w 0 0 0, .d (.sl nl (ints row))] H K := by
  apply C40
  unfold S40
  obtain ⟨_, l1, _⟩ := h.ld
  have h40 := h.n40
  simp only [nilCk_ptr, ti76_f1, Nat.zero_add, l1, h.len, optA_some, intA_geq, ifA_ite]
  refine ite_of (fun hf => ?_) fun hnf => ?_
  · simp only [go_sem]
    exact ⟨_, le_refl', hfull (by omega)⟩
  simp only [drA_true, bs3_0', newK_iff, stepK_some, sets_nil']
  intro _ _
  refine ⟨trivial, (?_ : newK H (fun n14 => apA 1 8 (.lit []) (.d (.sl nl (ints row))) H n14) _)⟩
  refine cpI hl fun x G hv hnv hfr => ⟨gr_apart hv h.node, ?_⟩
  obtain ⟨us, f1, f2, f3, _⟩ := hv.own.frz
  rw [hnv] at f2
  have hR := h.le f3
  simp only [rsOf_d, ap_nil, true_and, hv.aggL, aggL_d, noRsA_nil, bd89_new f2, stepK_some, rsOf_agg, aggL_agg, noRsA_cons, noRs_d, bs89_1, newK_iff, sets_nil']
  intro _ _
  refine (?_ : newK (G.sets us) (fun n22 => apA 6 64 v (.lit [[.sl false (ints row), .bool true, .int .i64 0, .int .i64 0, .int .i64 0, .int .i64 0]]) (G.sets us) n22) _)
  refine hR.ms.app (ys := [rRow (newSt nl row)]) elemsA_lit (by decide) (by decide) (by simp [rRow]) (by simp [mostBytes]; omega) fun x G2 hx hfx hnx _ => ?_
  have hr2 : G2 w = some (.mem 0 0 3 [[.d (.sl false (ints lost)), v, .d (.int .i64 f)]]) := by
    rw [hfx w (by rw [hR.node]; rfl) (fun he => hR.wne w he rfl)]; exact hR.node
  have hagg : aggL x = [] := by rcases hx.2 with ⟨rfl, _⟩ | ⟨i, ver, L, rfl, _⟩ <;> rfl
  have st : stoA false 1 (.ptr w 0 0 1) x G2 = some (.junk, [(w, .mem 0 0 3 [[.d (.sl false (ints lost)), x, .d (.int .i64 f)]])]) := stoA_at hr2 (Nat.le_refl 0) rfl (show 1 < 3 by decide) hx.st.1 hx.st.2
  have ld : ldV false 1 (.ptr w 0 0 1) (G2.set w (.mem 0 0 3 [[.d (.sl false (ints lost)), x, .d (.int .i64 f)]])) = some x := ldV_at set_self rfl rfl
  have hlx : lenSl x = some (.d (.int .i64 ((sts.length + 1 : Nat) : Int))) := by rw [hx.len]; simp
  have hws : IntKind.i64.wrap (((sts.length + 1 : Nat) : Int) - 1) = (sts.length : Int) := by rw [wrap_i64 (by omega) (by omega)]; omega
  simp only [nilCk_ptr, ti76_f1, Nat.zero_add, optA_some, hagg, noRsA_nil, st, stepK_some, sets_cons, sets_nil', ld, hlx, intA_sub, hws]
  simp only [go_sem]
  refine ⟨_, le_refl', hk (by omega) _ x ⟨set_self, ?_, by simp; omega, fun s hs => ?_⟩ (fun i hi hni => ?_) fun i hi => ?_⟩
  · rw [List.map_append]
    exact hx.keep fun i hi => set_ne (hx.ne hr2 (by simp [osz]) hi)
  · rcases List.mem_append.1 hs with h1 | h1
    · exact h.ok s h1
    · rw [List.mem_singleton.1 h1]; exact okn
  · rw [set_ne (fun he => hni (.inl he))]
    obtain ⟨o, ho⟩ : ∃ o, H i = some o := Option.isSome_iff_exists.1 hi
    have h3 := f3 _ _ ho
    rw [hfx i (by rw [h3]; rfl) (fun he => hni (.inr he)), h3, ho]
  · rcases hi with rfl | hi
    · exact .inl (.inl rfl)
    · rcases hnx i hi with h1 | h1
      · exact .inl (.inr h1)
      · exact .inr (le_none f3 h1)
end
end Go.Proofs.Ytadpakkenokilaa
/- The document's bus: a step. -/
set_option autoImplicit false
set_option maxRecDepth 100000
set_option linter.unusedVariables false
set_option linter.unusedSimpArgs false
set_option linter.unnecessarySimpa false
namespace Go.Proofs.Ytadpakkenokilaa
open Go Go.AM Go.Proofs
section
variable {H G : AHeap} {w : Nat} {lost : List Int} {v : AV} {sts : List St} {f : Int} {K : AV → AHeap → Prop}
theorem ld6t {i ver j : Nat} {Lm : List (List AV)} {r : List Dat} (hr : r.length = 6) (h1 : H i = some (.mem ver 0 6 Lm)) (h2 : Lm[j]? = some (r.map AV.d)) : ldV true 6 (.ptr i ver j 0) H = some (.agg (r.map AV.d)) := by
  have hl : (r.map AV.d).length = 6 := by rw [List.length_map, hr]
  simp only [ldV, h1, if_true, h2, partV, List.drop_zero, List.take_of_length_le (Nat.le_of_eq hl), hl]
theorem frzL_map {l : List Dat} {G : AHeap} : frzL (l.map AV.d) G = some (l.map AV.d, []) := by
  induction l with
  | nil => rfl
  | cons a l ih => simp only [List.map_cons, frzL, frz, AHeap.sets, ih, List.append_nil]
theorem sto6 {l : List Dat} {G : AHeap} {u : Nat} {old : List AV} (hl : l.length = 6) (hG : G u = some (.mem 0 0 6 [old])) (ho : old.length = 6) : stoA true 6 (.ptr u 0 0 0) (.agg (l.map AV.d)) G = some (.junk, [(u, .mem 0 0 6 [l.map AV.d])]) := by
  have hl' : (l.map AV.d).length = 6 := by rw [List.length_map, hl]
  rw [stoA_agg, frzL_map]
  simp only [AHeap.sets, stoA, stA, hG, AV.storable, AV.cells, hl', ho, Nat.le_refl, and_self, if_true, List.getElem?_cons_zero, Bool.false_eq_true, if_false, Nat.zero_add, setCells, List.take_zero, List.nil_append, List.set_cons_zero]
  rw [List.drop_eq_nil_of_le (Nat.le_of_eq ho), List.append_nil]
theorem rRow_len {s : St} : (rRow s).length = 6 := rfl
theorem noRs_row {s : St} {X : Prop} (h : X) : noRsA (aggL (.agg ((rRow s).map AV.d))) X := noRsA_iff.2 ⟨fun v hv => by
  obtain ⟨x, _, rfl⟩ := List.mem_map.1 hv; rfl, h⟩
set_option maxHeartbeats 1000000 in
theorem ransw_c (h : RB H w lost v sts f) {i o : Nat} (hi : i < sts.length) (ho : o < sts.length) (h1 : (sts.getD o default).state = 1) (hk : ∀ H', AHeap.le H H' → K (.d (.bool (ans sts i o))) H') : CallsA Try.prog 67 [.ptr w 0 0 0, .d (.int .i64 (i : Int)), .d (.int .i64 (o : Int))] H K := by
  apply C67
  unfold S67
  obtain ⟨_, l1, _⟩ := h.ld
  obtain ⟨p1, v1, L1, e1, e2, e3, e4⟩ := h.at hi
  obtain ⟨p2, v2, L2, g1, g2, g3, g4⟩ := h.at ho
  have hst := (h.okj hi).state
  unfold ans at hk
  have ls := ld6t rRow_len e3 e4
  have lt := ld6t rRow_len g3 g4
  generalize sts.getD i default = s at *
  generalize sts.getD o default = t at *
  simp only [drA_true, nilCk_ptr, ti76_f1, Nat.zero_add, l1, e1, g1, ls, lt, optA_some]
  refine alloc_open fun a G1 hG1 hle1 ha => ?_
  refine alloc_open fun b G2 hG2 hle2 hb => ?_
  have ha2 := hle2 _ _ hG1
  have hab : a ≠ b := le_ne hG1 hb
  have hnode2 := hle1 _ _ h.node
  refine ⟨?_, ?_, noRs_row ?_⟩
  · exact fun he => by
      have : G1 b = none := hb
      have g3' := hle1 _ _ g3
      have ha' : H a = none := ha
      rw [he] at ha'
      rw [ha'] at g3; cases g3
  · exact fun he => by
      have ha' : H a = none := ha
      rw [he, h.node] at ha'; cases ha'
  rw [sto6 rRow_len ha2 rfl]
  simp only [optA_some, stepK_some, sets_cons, sets_nil']
  have hb2 : (G2.set a (.mem 0 0 6 [(rRow s).map AV.d])) b = some (.mem 0 0 6 [[.d (.sl true []), .d (.bool false), .d (.int .i64 0), .d (.int .i64 0), .d (.int .i64 0), .d (.int .i64 0)]]) := by rw [set_ne (Ne.symm hab)]; exact hG2
  refine noRs_row ?_
  rw [sto6 rRow_len hb2 rfl]
  simp only [optA_some, stepK_some, sets_cons, sets_nil']
  obtain ⟨H20, hH⟩ : ∃ X, (G2.set a (.mem 0 0 6 [(rRow s).map AV.d])).set b (.mem 0 0 6 [(rRow t).map AV.d]) = X := ⟨_, rfl⟩
  rw [hH]
  have qa : H20 a = some (.mem 0 0 6 [(rRow s).map AV.d]) := by rw [← hH, set_ne hab, set_self]
  have qb : H20 b = some (.mem 0 0 6 [(rRow t).map AV.d]) := by rw [← hH, set_self]
  have hle : AHeap.le H H20 := fun x ox hx => by
    have hxa : x ≠ a := le_ne hx ha
    have hxb : x ≠ b := le_ne (hle1 _ _ hx) hb
    rw [← hH, set_ne hxb, set_ne hxa]
    exact hle2 _ _ (hle1 _ _ hx)
  have fin : ∀ b : Bool, b = (if i = o ∨ s.on = false then false else if s.state = 2 then decide (s.node = t.gs) else if s.state = 1 then decide (s.gs = t.gs ∧ (t.sent < s.sent ∨ s.sent = t.sent ∧ i < o)) else false) → retF [.d (.bool b)] H20 K := fun b hb => by
    simp only [go_sem]
    exact ⟨H20, le_refl', hb ▸ hk H20 hle⟩
  have a1 := ld6 qa (j := 0) rfl (n := 1) rfl
  have a2 := ld6 qa (j := 0) rfl (n := 2) rfl
  have a4 := ld6 qa (j := 0) rfl (n := 4) rfl
  have a5 := ld6 qa (j := 0) rfl (n := 5) rfl
  have b4 := ld6 qb (j := 0) rfl (n := 4) rfl
  have b5 := ld6 qb (j := 0) rfl (n := 5) rfl
  have ht : nodeOf t = t.gs := by unfold nodeOf; rw [if_pos h1]
  rw [ht] at b5
  simp only [ti89_f1, ti89_f2, ti89_f4, ti89_f5, Nat.zero_add, a1, a2, a4, a5, b4, b5, optA_some, intA_eql, intA_neq, intA_gtr, unA_not, ifA_ite]
  refine ite_of (fun hio => fin _ ?_) fun hio => ?_
  · rw [if_pos (.inl (by omega))]
  cases hon : s.on with
  | false =>
    simp only [Bool.not_false, ifA_t]
    exact fin _ (by rw [if_pos (.inr hon)])
  | true =>
    simp only [Bool.not_true, ifA_f]
    have hno : ¬ (i = o ∨ s.on = false) := by rw [hon]; simp; omega
    rw [if_neg hno] at fin
    refine ite_of (fun h0 => fin _ ?_) fun h0 => ?_
    · rw [if_neg (show ¬ s.state = 2 by omega), if_neg (show ¬ s.state = 1 by omega)]
    refine ite_of (fun hne => fin _ ?_) fun heq => ?_
    · by_cases h2 : s.state = 2
      · have : nodeOf s = s.node := by unfold nodeOf; rw [if_neg (show ¬ s.state = 1 by omega), if_pos h2]
        rw [this] at hne
        rw [if_pos h2]; simp [hne]
      · have h1' : s.state = 1 := by omega
        have : nodeOf s = s.gs := by unfold nodeOf; rw [if_pos h1']
        rw [this] at hne
        rw [if_neg h2, if_pos h1']; simp [hne]
    have heq := Classical.not_not.1 heq
    refine ite_of (fun h2 => fin _ ?_) fun h2 => ?_
    · have : nodeOf s = s.node := by unfold nodeOf; rw [if_neg (show ¬ s.state = 1 by omega), if_pos h2]
      rw [this] at heq
      rw [if_pos h2]; simp [heq]
    have h1' : s.state = 1 := by omega
    have hgs : nodeOf s = s.gs := by unfold nodeOf; rw [if_pos h1']
    rw [hgs] at heq
    rw [if_neg h2, if_pos h1'] at fin
    refine ite_of (fun h3 => fin _ ?_) fun h3 => ?_
    · simp [heq, h3]
    refine ite_of (fun h4 => ?_) fun h4 => ?_
    · simp only [intA_lss, optA_some]
      refine fin _ ?_
      simp only [heq, h4, Int.lt_irrefl, false_or, true_and, decide_eq_decide]
      omega
    · exact fin _ (by simp [heq, h3, h4])
theorem fin_row_f {s : St} (hs : s.state = 1) : (if s.sent + 1 = 8 then ((rRow s).set 4 (.int .i64 (s.sent + 1))).set 2 (.int .i64 2) else (rRow s).set 4 (.int .i64 (s.sent + 1))) = rRow (s.fin false) := by
  unfold St.fin
  by_cases h8 : s.sent + 1 = 8
  · simp [rRow, nodeOf, h8, hs]
  · simp [rRow, nodeOf, h8, hs, St.gs]
theorem goOn_c {i ver j : Nat} {Lm : List (List AV)} {s : St} {a : Bool} (h1 : H i = some (.mem ver 0 6 Lm)) (h2 : Lm[j]? = some ((rRow s).map AV.d)) (ok : s.Ok) (hs : s.state = 1) (hk : K (.tup []) (H.set i (.mem ver 0 6 (Lm.set j ((rRow (s.fin a)).map AV.d))))) : CallsA Try.prog 68 [.ptr i ver j 0, .d (.bool a)] H K := by
  apply C68
  unfold S68
  have hgo := ok.go hs
  have hk0 := ok.k
  have hsn := ok.sent
  cases a with
  | false =>
    have l4 := ld6 h1 h2 (n := 4) rfl
    have hw : IntKind.i64.wrap (s.sent + 1) = s.sent + 1 := by rw [wrap_i64 (by omega) (by omega)]
    have s1 := st6 h1 h2 (n := 4) (x := .int .i64 (s.sent + 1)) (by simp [rRow])
    have l4' := ld6 (H := H.set i (.mem ver 0 6 (Lm.set j (((rRow s).set 4 (.int .i64 (s.sent + 1))).map AV.d)))) set_self (set6 h2) (n := 4) (x := .int .i64 (s.sent + 1)) rfl
    have s2 := st6 (H := H.set i (.mem ver 0 6 (Lm.set j (((rRow s).set 4 (.int .i64 (s.sent + 1))).map AV.d)))) set_self (set6 h2) (n := 2) (x := .int .i64 2) (by simp [rRow])
    simp only [List.set_set] at s2
    have hr := fin_row_f hs
    simp only [unA_not, Bool.not_false, optA_some, ifA_t, nilCk_ptr, ti89_f4, ti89_f2, Nat.zero_add, l4, intA_add, hw, s1, stepK_some, sets_cons, sets_nil', l4', intA_eql, ifA_ite, s2, set_set]
    refine ite_of (fun h8 => ?_) fun h8 => ?_
    · rw [if_pos h8] at hr
      rw [hr]
      simp only [go_sem]
      exact ⟨_, le_refl', hk⟩
    · rw [if_neg h8] at hr
      rw [hr]
      simp only [go_sem]
      exact ⟨_, le_refl', hk⟩
  | true =>
    have l3 := ld6 h1 h2 (n := 3) rfl
    have hw : IntKind.i64.wrap (s.k + 1) = s.k + 1 := by rw [wrap_i64 (by omega) (by omega)]
    have s1 := st6 h1 h2 (n := 3) (x := .int .i64 (s.k + 1)) (by simp [rRow])
    have s2 := st6 (H := H.set i (.mem ver 0 6 (Lm.set j (((rRow s).set 3 (.int .i64 (s.k + 1))).map AV.d)))) set_self (set6 h2) (n := 4) (x := .int .i64 0) (by simp [rRow])
    simp only [List.set_set] at s2
    have l3' := ld6 (H := H.set i (.mem ver 0 6 (Lm.set j ((((rRow s).set 3 (.int .i64 (s.k + 1))).set 4 (.int .i64 0)).map AV.d)))) set_self (set6 h2) (n := 3) (x := .int .i64 (s.k + 1)) rfl
    have l0' := ld6 (H := H.set i (.mem ver 0 6 (Lm.set j ((((rRow s).set 3 (.int .i64 (s.k + 1))).set 4 (.int .i64 0)).map AV.d)))) set_self (set6 h2) (n := 0) (x := .sl false (ints s.row)) rfl
    have s3 := st6 (H := H.set i (.mem ver 0 6 (Lm.set j ((((rRow s).set 3 (.int .i64 (s.k + 1))).set 4 (.int .i64 0)).map AV.d)))) set_self (set6 h2) (n := 2) (x := .int .i64 0) (by simp [rRow])
    simp only [List.set_set] at s3
    have s4 := st6 (H := H.set i (.mem ver 0 6 (Lm.set j (((((rRow s).set 3 (.int .i64 (s.k + 1))).set 4 (.int .i64 0)).set 2 (.int .i64 0)).map AV.d)))) set_self (set6 h2) (n := 5) (x := .int .i64 0) (by simp [rRow])
    simp only [List.set_set] at s4
    have s5 := st6 (H := H.set i (.mem ver 0 6 (Lm.set j ((((rRow s).set 3 (.int .i64 (s.k + 1))).set 4 (.int .i64 0)).map AV.d)))) set_self (set6 h2) (n := 5) (x := .int .i64 (guess s.row (s.k + 1))) (by simp [rRow])
    simp only [List.set_set] at s5
    simp only [unA_not, Bool.not_true, optA_some, ifA_f, nilCk_ptr, ti89_f0, ti89_f2, ti89_f3, ti89_f4, ti89_f5, Nat.zero_add, l3, intA_add, hw, s1, stepK_some, sets_cons, sets_nil', s2, set_set, l3', l0', intA_eql, ifA_ite, s3, s4]
    refine ite_of (fun h8 => ?_) fun h8 => ?_
    · have hr : ((((rRow s).set 3 (.int .i64 (s.k + 1))).set 4 (.int .i64 0)).set 2 (.int .i64 0)).set 5 (.int .i64 0) = rRow (s.fin true) := by
        unfold St.fin
        simp [rRow, nodeOf, h8]
      rw [hr]
      simp only [go_sem]
      exact ⟨_, le_refl', hk⟩
    · have hr : (((rRow s).set 3 (.int .i64 (s.k + 1))).set 4 (.int .i64 0)).set 5 (.int .i64 (guess s.row (s.k + 1))) = rRow (s.fin true) := by
        unfold St.fin
        simp [rRow, nodeOf, h8, hs, St.gs]
      simp only [drA_true, aggL_d, noRsA_nil, frzLK_d, frzLK_nil]
      refine ⟨.d (.int .i64 (guess s.row (s.k + 1))), rguess_c (by omega) ok.len ⟨rfl, le_refl'⟩, ?_⟩
      simp only [optA_some, aggL_d, noRsA_nil, s5, stepK_some, sets_cons, sets_nil', set_set, hr]
      simp only [go_sem]
      exact ⟨_, le_refl', hk⟩
end
end Go.Proofs.Ytadpakkenokilaa
/- The document's bus: a whole step. -/
set_option autoImplicit false
set_option maxRecDepth 100000
set_option linter.unusedVariables false
set_option linter.unusedSimpArgs false
set_option linter.unnecessarySimpa false
namespace Go.Proofs.Ytadpakkenokilaa
open Go Go.AM Go.Proofs
abbrev rObj (lost : List Int) (v : AV) (F : Int) : AObj := .mem 0 0 3 [[.d (.sl false (ints lost)), v, .d (.int .i64 F)]]
/-- In the midst of a step. -/
structure SI (H G : AHeap) (w : Nat) (lost : List Int) (v : AV) (ask : List Nat) (a va : AV) (A : List Bool) (F : Int) : Prop where
  node : G w = some (rObj lost v F)
  fr : ∀ i, (H i).isSome → i ≠ w → G i = H i
  asks : Mine G a (ints (nats ask))
  answ : Mine G va (bls A)
  aN : ∀ i, idOf a = some i → H i = none
  vN : ∀ i, idOf va = some i → H i = none
  av : ∀ i, idOf a = some i → idOf va ≠ some i
section
variable {H G : AHeap} {w : Nat} {lost : List Int} {v : AV} {sts : List St} {f F : Int} {K : AV → AHeap → Prop} {ask : List Nat} {a va : AV} {A : List Bool}
theorem SI.frames (h : SI H G w lost v ask a va A F) (hw : (H w).isSome) (F' : Int) : stoA false 1 (.ptr w 0 0 2) (.d (.int .i64 F')) G = some (.junk, [(w, rObj lost v F')]) ∧ SI H (G.set w (rObj lost v F')) w lost v ask a va A F' := by
  refine ⟨stoA_at h.node (Nat.le_refl 0) rfl (show 2 < 3 by decide) rfl rfl, set_self, fun i hi hne => (set_ne hne).trans (h.fr i hi hne), h.asks.keep fun i hi => set_ne fun he => ?_, h.answ.keep fun i hi => set_ne fun he => ?_, h.aN, h.vN, h.av⟩
  · have := h.aN i hi; rw [he] at this; rw [this] at hw; cases hw
  · have := h.vN i hi; rw [he] at this; rw [this] at hw; cases hw
theorem SI.le (h : SI H G w lost v ask a va A F) {G' : AHeap} (hle : AHeap.le G G') : SI H G' w lost v ask a va A F := by
  have same : ∀ i, (G i).isSome → G' i = G i := fun i hi => by
    obtain ⟨o, ho⟩ : ∃ o, G i = some o := Option.isSome_iff_exists.1 hi
    rw [hle i o ho, ho]
  refine ⟨hle _ _ h.node, fun i hi hne => ?_, h.asks.keep fun i hi => same i (h.asks.obj hi), h.answ.keep fun i hi => same i (h.answ.obj hi), h.aN, h.vN, h.av⟩
  rw [same i (by rw [h.fr i hi hne]; exact hi), h.fr i hi hne]
theorem SI.mark (h : SI H G w lost v ask a va A F) (hw : (H w).isSome) {b : Nat} (hb : b < A.length) : ∃ i ver o, indexAddrA ti71 1 va (.d (.int .i64 (b : Int))) = some (.ptr i ver b 0) ∧ stoA false 1 (.ptr i ver b 0) (.d (.bool true)) G = some (.junk, [(i, o)]) ∧ SI H (G.set i o) w lost v ask a va (A.set b true) F := by
  obtain ⟨i, ver, o, h1, h2, h3, h4⟩ := bls_put (u := true) h.answ hb (ti := ti71) (e := 4) rfl
  have hn := h.vN i h1
  refine ⟨i, ver, o, h2, h3, ?_, fun x hx hne => ?_, h.asks.keep fun x hx => set_ne fun he => ?_, h4, h.aN, h.vN, h.av⟩
  · rw [set_ne (fun he => by rw [← he] at hn; rw [hn] at hw; cases hw)]; exact h.node
  · rw [set_ne (fun he => by rw [he, hn] at hx; cases hx)]; exact h.fr x hx hne
  · subst he; exact h.av x hx h1
theorem ask_at {x : Nat} {j : Nat} (h : Mine G a (ints (nats ask))) (hj : ask[j]? = some x) : ∃ p, indexAddrA ti22 1 a (.d (.int .i64 (j : Int))) = some p ∧ ldV false 1 p G = some (.d (.int .i64 (x : Int))) :=
  gr_get h (ti := ti22) (e := 3) rfl (by simp [ints, nats, hj])
set_option maxHeartbeats 2000000 in
theorem rStepG_c (h : RB H w lost v sts f) (hll : lost.length < 2 ^ 40) (hf : 0 ≤ f ∧ f < 2 ^ 39) (hk : ∀ H', RB H' w lost v (step (lostB lost) sts f).1 (step (lostB lost) sts f).2 → (∀ i, (H i).isSome → ¬ rfoot w v i → H' i = H i) → K (.tup []) H') : CallsA Try.prog 43 [.ptr w 0 0 0] H K := by
  have hn := h.n40
  have hwS : (H w).isSome := by rw [h.node]; rfl
  apply C43
  unfold S43
  have al : ∀ n, (askS sts n).length ≤ n := fun n => askS_len
  -- who asks
  refine loop_ind (fun r vs G => ∃ (j : Nat) (a : AV), j ≤ sts.length ∧ r = sts.length - j ∧ (∀ i, (H i).isSome → G i = H i) ∧ Mine G a (ints (nats (askS sts j))) ∧ (∀ i, idOf a = some i → H i = none) ∧ vs = [.ptr w 0 0 0, a, .d (.int .i64 (j : Int)), .junk, .junk, .junk, .junk, .junk]) (n := sts.length)
    ⟨0, _, by omega, by omega, fun _ _ => rfl, by simpa [askS, nats, ints] using Gr.nil no_le, by simp [idOf], rfl⟩ ?_
  rintro X r vs G ⟨j, a, hj, rfl, hfr, ha, haN, rfl⟩ hX
  have hR : RB G w lost v sts f := h.keep fun i hi => hfr i (h.foot hi)
  obtain ⟨l0, l1, l2⟩ := hR.ld
  by_cases hjl : j = sts.length
  · subst hjl
    clear hX
    have hal := al sts.length
    have hnd : (askS sts sts.length).Nodup := askS_nodup
    have hmem : ∀ x ∈ askS sts sts.length, x < sts.length ∧ (sts.getD x default).state = 1 := fun x hx => askS_mem.1 hx
    obtain ⟨ask, hask⟩ : ∃ l, askS sts sts.length = l := ⟨_, rfl⟩
    rw [hask] at ha hal hnd hmem
    have hlen : lenSl a = some (.d (.int .i64 (ask.length : Int))) := by rw [ha.len, ints_len, nats_len]
    have hw1 : IntKind.i64.wrap (f + (ask.length : Int)) = f + (ask.length : Int) := by rw [wrap_i64 (by omega) (by omega)]
    have st1 : stoA false 1 (.ptr w 0 0 2) (.d (.int .i64 (f + (ask.length : Int)))) G = some (.junk, [(w, rObj lost v (f + (ask.length : Int)))]) := stoA_at hR.node (Nat.le_refl 0) rfl (show 2 < 3 by decide) rfl rfl
    have l1' : ldV false 1 (.ptr w 0 0 1) (G.set w (rObj lost v (f + (ask.length : Int)))) = some v := ldV_at set_self rfl rfl
    simp only [List.getD_cons_succ, List.getD_cons_zero, nilCk_ptr, ti76_f1, ti76_f2, Nat.zero_add, l1, l2, hR.len, optA_some, intA_lss, Int.lt_irrefl, decide_false, ifA_f, hlen, intA_add, hw1, st1, stepK_some, sets_cons, sets_nil', l1']
    refine make_c (by omega) fun va ia G1 hia hia0 hle1 hA1 => ?_
    have haw : ∀ i, idOf a = some i → i ≠ w := fun i hi he => by have := haN i hi; rw [he] at this; rw [this] at hwS; cases hwS
    have hvn : ∀ i, idOf va = some i → (G.set w (rObj lost v (f + (ask.length : Int)))) i = none := fun i hi => by rw [hia] at hi; cases hi; exact hia0
    have hvN : ∀ i, idOf va = some i → H i = none := fun i hi => by
      have h1 := hvn i hi
      have hiw : i ≠ w := fun he => by rw [he, set_self] at h1; cases h1
      rw [set_ne hiw] at h1
      cases hh : H i with
      | none => rfl
      | some o => have := hfr i (by rw [hh]; rfl); rw [h1, hh] at this; cases this
    have same1 : ∀ i, ((G.set w (rObj lost v (f + (ask.length : Int)))) i).isSome → G1 i = (G.set w (rObj lost v (f + (ask.length : Int)))) i := fun i hi => by
      obtain ⟨o, ho⟩ := Option.isSome_iff_exists.1 hi
      rw [hle1 i o ho, ho]
    have S0 : SI H G1 w lost v ask a va (List.replicate sts.length false) (f + (ask.length : Int)) := by
      refine ⟨hle1 _ _ set_self, fun i hi hne => ?_, ha.keep fun i hi => ?_, hA1, haN, hvN, fun i hi hvi => ?_⟩
      · rw [same1 i (by rw [set_ne hne, hfr i hi]; exact hi), set_ne hne, hfr i hi]
      · rw [same1 i (by rw [set_ne (haw i hi)]; exact ha.obj hi), set_ne (haw i hi)]
      · have h1 := hvn i hvi
        rw [set_ne (haw i hi)] at h1
        have := ha.obj hi
        rw [h1] at this; cases this
    -- who is answered
    have hbd := fun l : List Nat => an3_bd (lost := lostB lost) (sts := sts) (l := l) (s := (f + (ask.length : Int), List.replicate sts.length false))
    have hhl := fun l : List Nat => hearS_len (lost := lostB lost) (l := l) (f := f)
    obtain ⟨Pk, hPk⟩ : ∃ P : Nat → Int × List Bool, P = fun j => an3 (lostB lost) sts (f + (ask.length : Int), List.replicate sts.length false) (hearS (lostB lost) (ask.take j) f) := ⟨_, rfl⟩
    have hPb : ∀ j, f ≤ (Pk j).1 ∧ (Pk j).1 ≤ f + 1640 ∧ (Pk j).2.length = sts.length := fun j => by
      have h1 := hbd (hearS (lostB lost) (ask.take j) f)
      have h2 := hhl (ask.take j)
      rw [List.length_take] at h2
      have hmul : (hearS (lostB lost) (ask.take j) f).length * sts.length ≤ 40 * 40 := Nat.mul_le_mul (by omega) hn
      have hmul' : ((hearS (lostB lost) (ask.take j) f).length : Int) * (sts.length : Int) ≤ 1600 := by exact_mod_cast hmul
      rw [hPk]
      simp only [List.length_replicate] at h1 ⊢
      exact ⟨by omega, by omega, h1.2.2⟩
    have hP0 : Pk 0 = (f + (ask.length : Int), List.replicate sts.length false) := by rw [hPk]; rfl
    have hPs : ∀ j x, ask[j]? = some x → Pk (j + 1) = if lostB lost (f + (j : Int)) then Pk j else an1s (lostB lost) sts x (Pk j) sts.length := fun j x hx => by
      have hj := (List.getElem?_eq_some_iff.1 hx).1
      have htk : ask.take (j + 1) = ask.take j ++ [x] := by rw [List.take_add_one, hx]; rfl
      rw [hPk]
      simp only
      rw [htk, hearS_snoc, List.length_take, Nat.min_eq_left (by omega)]
      split
      · rw [List.append_nil]
      · simp only [an3, List.foldl_append, List.foldl_cons, List.foldl_nil]
        rfl
    refine loop_ind (fun r vs G' => ∃ (j : Nat) (y z : AV), j ≤ ask.length ∧ r = ask.length - j ∧ SI H G' w lost v ask a va (Pk j).2 (Pk j).1 ∧ vs = [.ptr w 0 0 0, a, .d (.int .i64 (sts.length : Int)), .d (.int .i64 f), va, .d (.int .i64 (j : Int)), y, z]) (n := ask.length)
      ⟨0, _, _, Nat.zero_le _, rfl, by rw [hP0]; exact S0, rfl⟩ ?_
    rintro X r vs G' ⟨j, y, z, hj, rfl, hS, rfl⟩ hX
    have hlen' : lenSl a = some (.d (.int .i64 (ask.length : Int))) := hlen
    have hRk := h.now hS.node hS.fr
    obtain ⟨m0, m1, m2⟩ := hRk.ld
    by_cases hjl : j = ask.length
    · subst hjl
      clear hX
      have hPe : (finS (Pk ask.length).2 sts ask, (Pk ask.length).1) = step (lostB lost) sts f := by
        unfold step
        rw [hask, hPk]
        simp only [List.take_length]
      obtain ⟨A, hAe⟩ : ∃ A, (Pk ask.length).2 = A := ⟨_, rfl⟩
      obtain ⟨F2, hFe⟩ : ∃ F, (Pk ask.length).1 = F := ⟨_, rfl⟩
      have hAl := (hPb ask.length).2.2
      rw [hAe, hFe] at hS hPe
      rw [hFe] at hRk
      rw [hAe] at hAl
      simp only [List.getD_cons_succ, List.getD_cons_zero, hlen', optA_some, intA_lss, Int.lt_irrefl, decide_false, ifA_f]
      refine loop_ind (fun r vs G2 => ∃ (q : Nat), q ≤ ask.length ∧ r = ask.length - q ∧ RB G2 w lost v (finS A sts (ask.take q)) F2 ∧ (∀ i, idOf v ≠ some i → G2 i = G' i) ∧ (∀ x, x < sts.length → x ∉ ask.take q → (finS A sts (ask.take q)).getD x default = sts.getD x default) ∧ vs = [.ptr w 0 0 0, a, .d (.int .i64 (sts.length : Int)), .d (.int .i64 f), va, .d (.int .i64 (ask.length : Int)), y, .d (.int .i64 (q : Int))]) (n := ask.length)
        ⟨0, Nat.zero_le _, rfl, hRk, fun _ _ => rfl, fun _ _ _ => rfl, rfl⟩ ?_
      rintro X r vs G2 ⟨q, hq, rfl, hB, hO, hsame, rfl⟩ hX
      have vS : ∀ i, idOf v = some i → (H i).isSome := fun i hi => h.foot (.inr hi)
      have ha2 : Mine G2 a (ints (nats ask)) := hS.asks.keep fun i hi => hO i fun he => by have := vS i he; rw [hS.aN i hi] at this; cases this
      have hA2 : Mine G2 va (bls A) := hS.answ.keep fun i hi => hO i fun he => by have := vS i he; rw [hS.vN i hi] at this; cases this
      by_cases hql : q = ask.length
      · subst hql
        rw [List.take_length] at hB
        simp only [List.getD_cons_succ, List.getD_cons_zero, hlen', optA_some, intA_lss, Int.lt_irrefl, decide_false, ifA_f]
        simp only [go_sem]
        refine ⟨_, le_refl', hk G2 ?_ fun i hi hni => ?_⟩
        · rw [← hPe]; exact hB
        · rw [hO i (fun he => hni (.inr he)), hS.fr i hi (fun he => hni (.inl he))]
      · have hlt : (q : Int) < (ask.length : Int) := by omega
        obtain ⟨x, hx⟩ : ∃ x, ask[q]? = some x := ⟨_, List.getElem?_eq_getElem (by omega)⟩
        have hxm := List.mem_of_getElem? hx
        obtain ⟨hxl, hx1⟩ := hmem x hxm
        have hqlt : q < ask.length := by omega
        have hgx : ask[q] = x := (List.getElem?_eq_some_iff.1 hx).2
        have hnew : x ∉ ask.take q := fun hm => by
          obtain ⟨y, hy, he⟩ := List.mem_iff_getElem.1 hm
          rw [List.length_take] at hy
          rw [List.getElem_take] at he
          have := (List.getElem_inj hnd).1 (he.trans hgx.symm)
          omega
        have htk := finS_take (A := A) (sts := sts) hqlt
        rw [hgx] at htk
        have htk1 : ask.take (q + 1) = ask.take q ++ [x] := by rw [List.take_add_one, hx]; rfl
        have hs1 := hsame x hxl hnew
        have hfl : (finS A sts (ask.take q)).length = sts.length := finS_len
        obtain ⟨p, e1, e2⟩ := ask_at ha2 hx
        obtain ⟨_, n1, _⟩ := hB.ld
        obtain ⟨iv, ver, Lm, g1, g2, g3, g4⟩ := hB.at (j := x) (by omega)
        have hAi : (bls A)[x]? = some [.bool (A.getD x false)] := by simp [bls, List.getD_eq_getElem?_getD, show x < A.length by omega]
        obtain ⟨p2, e5, e6⟩ := gr_get hA2 (ti := ti71) (e := 4) rfl hAi
        have hw : IntKind.i64.wrap ((q : Int) + 1) = ((q + 1 : Nat) : Int) := by rw [wrap_i64 (by omega) (by omega)]; omega
        have hst1 : ((finS A sts (ask.take q)).getD x default).state = 1 := by rw [hs1]; exact hx1
        simp only [List.getD_cons_succ, List.getD_cons_zero, hlen', optA_some, intA_lss, hlt, decide_true, ifA_t, drA_true, nilCk_ptr, ti76_f1, Nat.zero_add, n1, e1, e2, g1, e5, e6, frzLK_ptr, frzLK_d, frzLK_nil]
        refine goOn_c g3 g4 (hB.okj (by omega)) hst1 ?_
        simp only [intA_add, hw, optA_some]
        refine hX (ask.length - (q + 1)) _ _ (by omega) ⟨q + 1, by omega, rfl, ?_, fun i hi => ?_, fun i hi hn => ?_, rfl⟩
        · rw [htk]
          exact hB.upd g2 g3 (by omega) ((hB.okj (by omega)).fin hst1 _)
        · rw [set_ne (fun he => hi (by rw [he]; exact g2))]
          exact hO i hi
        · rw [htk1, List.mem_append, List.mem_singleton, not_or] at hn
          rw [htk, getD_set_ne (Ne.symm hn.2)]
          exact hsame i hi hn.1
    · have hlt : (j : Int) < (ask.length : Int) := by omega
      obtain ⟨x, hx⟩ : ∃ x, ask[j]? = some x := ⟨_, List.getElem?_eq_getElem (by omega)⟩
      obtain ⟨hxl, hx1⟩ := hmem x (List.mem_of_getElem? hx)
      have hps := hPs j x hx
      have hw : IntKind.i64.wrap ((j : Int) + 1) = ((j + 1 : Nat) : Int) := by rw [wrap_i64 (by omega) (by omega)]; omega
      have hwf : IntKind.i64.wrap (f + (j : Int)) = f + (j : Int) := by rw [wrap_i64 (by omega) (by omega)]
      simp only [List.getD_cons_succ, List.getD_cons_zero, hlen', optA_some, intA_lss, hlt, decide_true, ifA_t, nilCk_ptr, ti76_f0, Nat.zero_add, m0, intA_add, hwf, frzLK_d, frzLK_nil]
      refine rhas_c hll ?_
      rw [show decide (f + (j : Int) ∈ lost) = lostB lost (f + (j : Int)) from rfl]
      cases hlo : lostB lost (f + (j : Int)) with
      | true =>
        rw [hlo, if_pos rfl] at hps
        simp only [ifA_t, hw, optA_some]
        exact hX (ask.length - (j + 1)) _ _ (by omega) ⟨j + 1, y, z, by omega, rfl, by rw [hps]; exact hS, rfl⟩
      | false =>
        rw [hlo] at hps
        simp only [Bool.false_eq_true, if_false] at hps
        simp only [ifA_f]
        have hib : ∀ n, n ≤ sts.length → f ≤ (an1s (lostB lost) sts x (Pk j) n).1 ∧ (an1s (lostB lost) sts x (Pk j) n).1 ≤ f + 1680 ∧ (an1s (lostB lost) sts x (Pk j) n).2.length = sts.length := fun n hn => by
          have h1 := an1s_bd (lost := lostB lost) (sts := sts) (i := x) (s := Pk j) (n := n)
          have h2 := hPb j
          exact ⟨by omega, by omega, h1.2.2.trans h2.2.2⟩
        refine loop_ind (fun r vs G2 => ∃ (i : Nat), i ≤ sts.length ∧ r = sts.length - i ∧ SI H G2 w lost v ask a va (an1s (lostB lost) sts x (Pk j) i).2 (an1s (lostB lost) sts x (Pk j) i).1 ∧ vs = [.ptr w 0 0 0, a, .d (.int .i64 (sts.length : Int)), .d (.int .i64 f), va, .d (.int .i64 (j : Int)), .d (.int .i64 (i : Int)), z]) (n := sts.length)
          ⟨0, Nat.zero_le _, rfl, hS, rfl⟩ ?_
        rintro X' r vs G2 ⟨i, hi, rfl, hS2, rfl⟩ hX'
        have hR2 := h.now hS2.node hS2.fr
        obtain ⟨n0, n1, n2⟩ := hR2.ld
        by_cases hil : i = sts.length
        · subst hil
          simp only [List.getD_cons_succ, List.getD_cons_zero, nilCk_ptr, ti76_f1, Nat.zero_add, n1, hR2.len, optA_some, intA_lss, Int.lt_irrefl, decide_false, ifA_f, intA_add, hw]
          exact hX (ask.length - (j + 1)) _ _ (by omega) ⟨j + 1, _, _, by omega, rfl, by rw [hps]; exact hS2, rfl⟩
        · have hi' : i < sts.length := by omega
          have hlt2 : (i : Int) < (sts.length : Int) := by omega
          obtain ⟨p, e1, e2⟩ := ask_at hS2.asks hx
          have hw2 : IntKind.i64.wrap ((i : Int) + 1) = ((i + 1 : Nat) : Int) := by rw [wrap_i64 (by omega) (by omega)]; omega
          have hsu := an1s_succ (lost := lostB lost) (sts := sts) (i := x) (s := Pk j) (n := i)
          have hbb := hib i (by omega)
          unfold an1 at hsu
          simp only [List.getD_cons_succ, List.getD_cons_zero, nilCk_ptr, ti76_f1, Nat.zero_add, n1, hR2.len, optA_some, intA_lss, hlt2, decide_true, ifA_t, e1, e2, frzLK_ptr, frzLK_d, frzLK_nil]
          refine ransw_c hR2 hi' hxl hx1 fun G3 hle3 => ?_
          have hS3 := hS2.le hle3
          have hR3 := hR2.le hle3
          obtain ⟨q0, q1, q2⟩ := hR3.ld
          obtain ⟨p', e1', e2'⟩ := ask_at hS3.asks hx
          obtain rfl : p = p' := Option.some.inj (e1.symm.trans e1')
          cases hans : ans sts i x with
          | false =>
            rw [hans] at hsu
            simp only [Bool.false_eq_true, if_false] at hsu
            simp only [unA_not, Bool.not_false, optA_some, ifA_t, intA_add, hw2]
            exact hX' (sts.length - (i + 1)) _ _ (by omega) ⟨i + 1, by omega, rfl, by rw [hsu]; exact hS3, rfl⟩
          | true =>
            rw [hans, if_pos rfl] at hsu
            obtain ⟨F2, hF2⟩ : ∃ F2, (an1s (lostB lost) sts x (Pk j) i).1 = F2 := ⟨_, rfl⟩
            rw [hF2] at hS3 hR3 q2 hsu hbb
            have hwF : IntKind.i64.wrap (F2 + 1) = F2 + 1 := by rw [wrap_i64 (by omega) (by omega)]
            simp only [unA_not, Bool.not_true, optA_some, ifA_f, drA_true, nilCk_ptr, ti76_f0, ti76_f2, Nat.zero_add, q0, q2, aggL_d, noRsA_nil, frzLK_d, frzLK_nil]
            refine ⟨.d (.bool (lostB lost F2)), rhas_c hll ⟨rfl, le_refl'⟩, ?_⟩
            cases hlo2 : lostB lost F2 with
            | true =>
              rw [hlo2, if_pos rfl] at hsu
              obtain ⟨s1, hS4⟩ := hS3.frames hwS (F2 + 1)
              simp only [unA_not, Bool.not_true, optA_some, ifA_f, q2, intA_add, hwF, s1, stepK_some, sets_cons, sets_nil', hw2]
              exact hX' (sts.length - (i + 1)) _ _ (by omega) ⟨i + 1, by omega, rfl, by rw [hsu]; exact hS4, rfl⟩
            | false =>
              rw [hlo2] at hsu
              simp only [Bool.false_eq_true, if_false] at hsu
              obtain ⟨im, ver, o, t1, t2, hS4⟩ := hS3.mark hwS (b := x) (by omega)
              obtain ⟨s1, hS5⟩ := hS4.frames hwS (F2 + 1)
              obtain ⟨_, _, r2⟩ := (h.now hS4.node hS4.fr).ld
              simp only [unA_not, Bool.not_false, optA_some, ifA_t, e1', e2', t1, t2, stepK_some, sets_cons, sets_nil', r2, intA_add, hwF, s1, hw2]
              exact hX' (sts.length - (i + 1)) _ _ (by omega) ⟨i + 1, by omega, rfl, by rw [hsu]; exact hS5, rfl⟩
  · have hj' : j < sts.length := by omega
    have hlt : (j : Int) < (sts.length : Int) := by omega
    obtain ⟨iv, ver, Lm, g1, g2, g3, g4⟩ := hR.at hj'
    have hsucc := askS_succ (sts := sts) (n := j)
    have alj := al j
    have hw : IntKind.i64.wrap ((j : Int) + 1) = ((j + 1 : Nat) : Int) := by rw [wrap_i64 (by omega) (by omega)]; omega
    have okj := hR.okj hj'
    have q1 := ld6 g3 g4 (n := 1) rfl
    have q2 := ld6 g3 g4 (n := 2) rfl
    simp only [List.getD_cons_succ, List.getD_cons_zero, nilCk_ptr, ti76_f1, Nat.zero_add, l1, hR.len, optA_some, intA_lss, hlt, decide_true, ifA_t, g1, ti89_f1, ti89_f2, q1, q2]
    have next : ¬ (sts.getD j default).state = 1 → X [.ptr w 0 0 0, a, .d (.int .i64 ((j + 1 : Nat) : Int)), .junk, .junk, .junk, .junk, .junk] G := fun hs1 => by
      rw [if_neg hs1, List.append_nil] at hsucc
      exact hX (sts.length - (j + 1)) _ _ (by omega) ⟨j + 1, a, by omega, rfl, hfr, by rw [hsucc]; exact ha, haN, rfl⟩
    cases hon : (sts.getD j default).on with
    | false =>
      simp only [ifA_f, intA_add, hw, optA_some]
      exact next fun h1 => by have := (okj.go h1).2.2; rw [hon] at this; cases this
    | true =>
      simp only [ifA_t, intA_eql, optA_some, ifA_ite]
      refine ite_of (fun hs1 => ?_) fun hs1 => ?_
      · rw [if_pos hs1] at hsucc
        simp only [bs3_1, newK_iff, stepK_some, sets_nil']
        intro _ _
        refine one_more ha (by rw [nats_len]; omega) fun a1 G1 ha1 hf1 hi1 => ?_
        simp only [intA_add, hw, optA_some]
        refine hX (sts.length - (j + 1)) _ _ (by omega) ⟨j + 1, a1, by omega, rfl, fun i hi => ?_, ?_, fun i hi => ?_, rfl⟩
        · rw [hf1 i (by rw [hfr i hi]; exact hi) (fun he => by rw [haN i he] at hi; cases hi)]
          exact hfr i hi
        · have : nats (askS sts (j + 1)) = nats (askS sts j) ++ [(j : Int)] := by rw [hsucc]; simp [nats]
          rw [this]; exact ha1
        · rcases hi1 i hi with h2 | h2
          · exact haN i h2
          · cases hh : H i with
            | none => rfl
            | some o => have := hfr i (by rw [hh]; rfl); rw [h2, hh] at this; cases this
      · simp only [intA_add, hw, optA_some]
        exact next hs1
end
end Go.Proofs.Ytadpakkenokilaa
/- Clashes, and that both tell the same. -/
set_option autoImplicit false
set_option maxRecDepth 100000
set_option linter.unusedVariables false
set_option linter.unusedSimpArgs false
set_option linter.unnecessarySimpa false
namespace Go.Proofs.Ytadpakkenokilaa
open Go Go.AM Go.Proofs
def clP (sts : List St) (i x : Nat) : Bool := decide ((sts.getD i default).state = 2 ∧ (sts.getD x default).state = 2 ∧ (sts.getD i default).node = (sts.getD x default).node)
def clRow (sts : List St) (i n : Nat) : List (List Dat) := ((List.range n).filter fun x => decide (i < x) && clP sts i x).map fun (x : Nat) => [.int .i64 (i : Int), .int .i64 (x : Int)]
def clB (sts : List St) (j : Nat) : List (List Dat) := (List.range j).flatMap fun i => clRow sts i sts.length
theorem clRow_0 {sts : List St} {i : Nat} : clRow sts i (i + 1) = [] := by
  simp only [clRow, List.map_eq_nil_iff, List.filter_eq_nil_iff, List.mem_range, Bool.and_eq_true, decide_eq_true_eq]
  omega
theorem clRow_s {sts : List St} {i x : Nat} (h : i < x) : clRow sts i (x + 1) = clRow sts i x ++ if clP sts i x then [[.int .i64 (i : Int), .int .i64 (x : Int)]] else [] := by
  simp only [clRow, List.range_succ, List.filter_append, List.map_append, List.filter_cons, List.filter_nil, h, decide_true, Bool.true_and]
  split <;> simp
theorem clRow_len {sts : List St} {i x : Nat} : (clRow sts i x).length ≤ x := by
  simp only [clRow, List.length_map]
  exact Nat.le_trans (List.length_filter_le _ _) (by simp)
theorem clB_s {sts : List St} {j : Nat} : clB sts (j + 1) = clB sts j ++ clRow sts j sts.length := by
  simp only [clB, List.range_succ, List.flatMap_append, List.flatMap_cons, List.flatMap_nil, List.append_nil]
theorem clB_len {sts : List St} : ∀ {j : Nat}, (clB sts j).length ≤ j * sts.length
  | 0 => by simp [clB]
  | j + 1 => by
    rw [clB_s, List.length_append, Nat.succ_mul]
    have := clB_len (sts := sts) (j := j)
    have := clRow_len (sts := sts) (i := j) (x := sts.length)
    omega
theorem clRow_2 {sts : List St} {i n : Nat} : ∀ c ∈ clRow sts i n, ∃ a b : Int, c = [.int .i64 a, .int .i64 b] := fun c hc => by
  obtain ⟨x, _, rfl⟩ := List.mem_map.1 hc
  exact ⟨_, _, rfl⟩
theorem clB_2 {sts : List St} {j : Nat} : ∀ c ∈ clB sts j, ∃ a b : Int, c = [.int .i64 a, .int .i64 b] := fun c hc => by
  obtain ⟨i, _, h⟩ := List.mem_flatMap.1 hc
  exact clRow_2 c h
theorem bd77_new {a b : Dat} {H : AHeap} : bdA Try.prog ti77 [0, 1] [.d a, .d b] H = some (.agg [.d a, .d b], []) := by
  simp only [bdA, bd77, cell3, fillA, setCells, List.zip_cons_cons, List.zip_nil_right, Option.map_some, Nat.reduceLeDiff, List.cons_append, Nat.mul_one, go_sem]
theorem bs77_1 {a b : Dat} {H : AHeap} {n : Nat} : bsA ti77 1 [0] [.agg [.d a, .d b]] H n = some (.lit [[a, b]], []) := rfl
section
variable {H G : AHeap} {k w : Nat} {ln : Bool} {lost L : List Int} {sv v : AV} {ids : List Nat} {sts : List St} {f : Int} {K : AV → AHeap → Prop}
theorem clapp {H0 G : AHeap} {o : AV} {l : List (List Dat)} {a b : Dat} (h : AM.Own H0 2 G o l) (hl : l.length ≤ 2000) {K : AV → AHeap → Prop} (hk : ∀ o' G', AM.Own H0 2 G' o' (l ++ [[a, b]]) → K o' G') :
    newK G (fun n => apA 2 16 o (.lit [[a, b]]) G n) K :=
  h.app (ys := [[a, b]]) elemsA_lit (by decide) (by decide) (by simp) (by simp [mostBytes]; omega) fun o' G' h1 _ _ _ => hk o' G' h1
theorem ClashesG_c (h : BusAt H k ln L sv ids sts f) (hk : ∀ nl, K (.d (.sl nl (clB sts sts.length))) H) : CallsA Try.prog 21 [.ptr k 0 0 0] H K := by
  apply C21
  unfold S21
  simp only [frzLK_ptr, frzLK_nil]
  refine none_c h ?_
  have lv : ldV false 1 (.ptr k 0 0 2) H = some sv := ldV_at h.node rfl rfl
  have hn := h.sts.n40
  have hcl : ∀ j, j ≤ sts.length → (clB sts j).length ≤ 1600 := fun j hj => Nat.le_trans clB_len (Nat.mul_le_mul (show j ≤ 40 by omega) hn)
  simp only [ifA_f, nilCk_ptr, ti52_f2, Nat.zero_add, lv, h.sts.lenS, optA_some]
  refine loop_ind (fun n vs G => ∃ (j : Nat) (o a b c : AV), j ≤ sts.length ∧ n = sts.length - j ∧ vs = [.ptr k 0 0 0, o, a, b, c, sv, .d (.int .i64 sts.length), .d (.int .i64 (j : Int))] ∧ AM.Own H 2 G o (clB sts j)) (n := sts.length) ⟨0, _, _, _, _, Nat.zero_le _, rfl, rfl, AM.Own.nil le_refl'⟩ ?_
  rintro X n vs G ⟨j, o, a, b, c, hj, rfl, rfl, hO⟩ hX
  by_cases hjl : j = sts.length
  · subst hjl
    simp only [List.getD_cons_succ, List.getD_cons_zero, optA_some, intA_lss, Int.lt_irrefl, decide_false, ifA_f]
    exact hO.ret le_refl' (hk _)
  · have hj' : j < sts.length := by omega
    have hlt : (j : Int) < (sts.length : Int) := by omega
    have hB := h.le hO.le
    obtain ⟨p, e1, e2⟩ := hB.sts.ix hj'
    have hw : IntKind.i64.wrap ((j : Int) + 1) = ((j + 1 : Nat) : Int) := by rw [wrap_i64 (by omega) (by omega)]; omega
    simp only [List.getD_cons_succ, List.getD_cons_zero, intA_lss, optA_some, hlt, decide_true, ifA_t, e1, e2, intA_add, hw]
    refine loop_ind (fun n vs G' => ∃ (i : Nat) (o' : AV), j < i ∧ i ≤ sts.length ∧ n = sts.length - i ∧ vs = [.ptr k 0 0 0, o', .d (.int .i64 (j : Int)), .ptr (ids.getD j 0) 0 0 0, .d (.int .i64 (i : Int)), sv, .d (.int .i64 sts.length), .d (.int .i64 (j : Int))] ∧ AM.Own H 2 G' o' (clB sts j ++ clRow sts j i)) (n := sts.length - (j + 1)) ⟨j + 1, o, by omega, by omega, rfl, rfl, by rw [clRow_0, List.append_nil]; exact hO⟩ ?_
    rintro X' n vs G' ⟨i, o', hji, hi, rfl, rfl, hO'⟩ hX'
    have hB' := h.le hO'.le
    have lv' : ldV false 1 (.ptr k 0 0 2) G' = some sv := ldV_at hB'.node rfl rfl
    by_cases hil : i = sts.length
    · have hni : ¬ ((i : Int) < (sts.length : Int)) := by omega
      simp only [List.getD_cons_succ, List.getD_cons_zero, nilCk_ptr, ti52_f2, Nat.zero_add, lv', hB'.sts.lenS, intA_lss, optA_some, hni, decide_false, ifA_f, intA_add, hw]
      exact hX (sts.length - (j + 1)) _ _ (by omega) ⟨j + 1, o', _, _, _, by omega, rfl, rfl, by rw [clB_s, ← hil]; exact hO'⟩
    · have hi' : i < sts.length := by omega
      have hlt2 : (i : Int) < (sts.length : Int) := by omega
      obtain ⟨p2, g1, g2⟩ := hB'.sts.ix hi'
      obtain ⟨_, m2, m5⟩ := ld68 (hB'.sts.obj j hj')
      obtain ⟨_, n2, n5⟩ := ld68 (hB'.sts.obj i hi')
      have hw2 : IntKind.i64.wrap ((i : Int) + 1) = ((i + 1 : Nat) : Int) := by rw [wrap_i64 (by omega) (by omega)]; omega
      have hs := clRow_s (sts := sts) hji
      have next : clP sts j i = false → X' [.ptr k 0 0 0, o', .d (.int .i64 (j : Int)), .ptr (ids.getD j 0) 0 0 0, .d (.int .i64 ((i + 1 : Nat) : Int)), sv, .d (.int .i64 sts.length), .d (.int .i64 (j : Int))] G' := fun hp => by
        rw [hp] at hs
        simp only [Bool.false_eq_true, if_false, List.append_nil] at hs
        exact hX' (sts.length - (i + 1)) _ G' (by omega) ⟨i + 1, o', by omega, by omega, rfl, rfl, by rw [hs]; exact hO'⟩
      simp only [List.getD_cons_succ, List.getD_cons_zero, nilCk_ptr, ti52_f2, Nat.zero_add, lv', hB'.sts.lenS, intA_lss, optA_some, hlt2, decide_true, ifA_t, g1, g2, drA_true, ti68_f2, ti68_f5, m2, n2, m5, n5, intA_eql, intA_add, hw2, ifA_ite]
      refine ite_of (fun h1 => ?_) fun h1 => next (decide_eq_false fun hh => h1 hh.1)
      refine ite_of (fun h2 => ?_) fun h2 => next (decide_eq_false fun hh => h2 hh.2.1)
      refine ite_of (fun h3 => ?_) fun h3 => next (decide_eq_false fun hh => h3 hh.2.2)
      have hp : clP sts j i = true := decide_eq_true ⟨h1, h2, h3⟩
      rw [hp, if_pos rfl] at hs
      simp only [bd77_new, stepK_some, sets_nil', bs77_1, newK_iff]
      intro _ _
      refine clapp hO' (by rw [List.length_append]; have := hcl j (by omega); have := clRow_len (sts := sts) (i := j) (x := i); omega) fun o2 G2 hO2 => ?_
      exact hX' (sts.length - (i + 1)) _ G2 (by omega) ⟨i + 1, o2, by omega, by omega, rfl, rfl, by rw [hs, ← List.append_assoc]; exact hO2⟩
theorem node2 {s : St} (h : s.state = 2) : nodeOf s = s.node := by unfold nodeOf; rw [if_neg (show ¬ s.state = 1 by omega), if_pos h]
theorem rClashes_c (h : RB H w lost v sts f) (hk : ∀ nl, K (.d (.sl nl (clB sts sts.length))) H) : CallsA Try.prog 48 [.ptr w 0 0 0] H K := by
  apply C48
  unfold S48
  have hn := h.n40
  have hcl : ∀ j, j ≤ sts.length → (clB sts j).length ≤ 1600 := fun j hj => Nat.le_trans clB_len (Nat.mul_le_mul (show j ≤ 40 by omega) hn)
  refine loop_ind (fun n vs G => ∃ (j : Nat) (o a : AV), j ≤ sts.length ∧ n = sts.length - j ∧ vs = [.ptr w 0 0 0, o, .d (.int .i64 (j : Int)), a] ∧ AM.Own H 2 G o (clB sts j)) (n := sts.length) ⟨0, _, _, Nat.zero_le _, rfl, rfl, AM.Own.nil le_refl'⟩ ?_
  rintro X n vs G ⟨j, o, a, hj, rfl, rfl, hO⟩ hX
  have hR := h.le hO.le
  obtain ⟨_, l1, _⟩ := hR.ld
  by_cases hjl : j = sts.length
  · subst hjl
    simp only [List.getD_cons_succ, List.getD_cons_zero, nilCk_ptr, ti76_f1, Nat.zero_add, l1, hR.len, optA_some, intA_lss, Int.lt_irrefl, decide_false, ifA_f]
    exact hO.ret le_refl' (hk _)
  · have hj' : j < sts.length := by omega
    have hlt : (j : Int) < (sts.length : Int) := by omega
    have hw : IntKind.i64.wrap ((j : Int) + 1) = ((j + 1 : Nat) : Int) := by rw [wrap_i64 (by omega) (by omega)]; omega
    simp only [List.getD_cons_succ, List.getD_cons_zero, nilCk_ptr, ti76_f1, Nat.zero_add, l1, hR.len, intA_lss, optA_some, hlt, decide_true, ifA_t, intA_add, hw]
    refine loop_ind (fun n vs G' => ∃ (i : Nat) (o' : AV), j < i ∧ i ≤ sts.length ∧ n = sts.length - i ∧ vs = [.ptr w 0 0 0, o', .d (.int .i64 (j : Int)), .d (.int .i64 (i : Int))] ∧ AM.Own H 2 G' o' (clB sts j ++ clRow sts j i)) (n := sts.length - (j + 1)) ⟨j + 1, o, by omega, by omega, rfl, rfl, by rw [clRow_0, List.append_nil]; exact hO⟩ ?_
    rintro X' n vs G' ⟨i, o', hji, hi, rfl, rfl, hO'⟩ hX'
    have hR' := h.le hO'.le
    obtain ⟨_, l1', _⟩ := hR'.ld
    by_cases hil : i = sts.length
    · have hni : ¬ ((i : Int) < (sts.length : Int)) := by omega
      simp only [List.getD_cons_succ, List.getD_cons_zero, nilCk_ptr, ti76_f1, Nat.zero_add, l1', hR'.len, intA_lss, optA_some, hni, decide_false, ifA_f, intA_add, hw]
      exact hX (sts.length - (j + 1)) _ _ (by omega) ⟨j + 1, o', _, by omega, rfl, rfl, by rw [clB_s, ← hil]; exact hO'⟩
    · have hi' : i < sts.length := by omega
      have hlt2 : (i : Int) < (sts.length : Int) := by omega
      obtain ⟨i1, v1, L1, a1, _, a3, a4⟩ := hR'.at hj'
      obtain ⟨i2, v2, L2, b1, _, b3, b4⟩ := hR'.at hi'
      obtain ⟨_, _, m2, _, _, m5⟩ := ld89 a3 a4
      obtain ⟨_, _, n2, _, _, n5⟩ := ld89 b3 b4
      have hw2 : IntKind.i64.wrap ((i : Int) + 1) = ((i + 1 : Nat) : Int) := by rw [wrap_i64 (by omega) (by omega)]; omega
      have hs := clRow_s (sts := sts) hji
      have next : clP sts j i = false → X' [.ptr w 0 0 0, o', .d (.int .i64 (j : Int)), .d (.int .i64 ((i + 1 : Nat) : Int))] G' := fun hp => by
        rw [hp] at hs
        simp only [Bool.false_eq_true, if_false, List.append_nil] at hs
        exact hX' (sts.length - (i + 1)) _ G' (by omega) ⟨i + 1, o', by omega, by omega, rfl, rfl, by rw [hs]; exact hO'⟩
      simp only [List.getD_cons_succ, List.getD_cons_zero, nilCk_ptr, ti76_f1, Nat.zero_add, l1', hR'.len, intA_lss, optA_some, hlt2, decide_true, ifA_t, drA_true, a1, b1, ti89_f2, ti89_f5, m2, n2, m5, n5, intA_eql, intA_add, hw2, ifA_ite]
      refine ite_of (fun h1 => ?_) fun h1 => next (decide_eq_false fun hh => h1 hh.1)
      refine ite_of (fun h2 => ?_) fun h2 => next (decide_eq_false fun hh => h2 hh.2.1)
      rw [node2 h1, node2 h2]
      refine ite_of (fun h3 => ?_) fun h3 => next (decide_eq_false fun hh => h3 hh.2.2)
      have hp : clP sts j i = true := decide_eq_true ⟨h1, h2, h3⟩
      rw [hp, if_pos rfl] at hs
      simp only [bd77_new, stepK_some, sets_nil', bs77_1, newK_iff]
      intro _ _
      refine clapp hO' (by rw [List.length_append]; have := hcl j (by omega); have := clRow_len (sts := sts) (i := j) (x := i); omega) fun o2 G2 hO2 => ?_
      exact hX' (sts.length - (i + 1)) _ G2 (by omega) ⟨i + 1, o2, by omega, by omega, rfl, rfl, by rw [hs, ← List.append_assoc]; exact hO2⟩
theorem pair_neq {a b c d : Int} : aggA Try.prog .neq 77 (.agg [.d (.int .i64 a), .d (.int .i64 b)]) (.agg [.d (.int .i64 c), .d (.int .i64 d)]) = some (.d (.bool (!(a == c && (b == d && true))))) := by kernel_rfl
theorem pairs_c {n1 n2 : Bool} {l : List (List Dat)} (h2 : ∀ c ∈ l, ∃ a b : Int, c = [.int .i64 a, .int .i64 b]) (hl : l.length < 2 ^ 40) (hk : K (.d (.bool true)) H) : CallsA Try.prog 47 [.d (.sl n1 l), .d (.sl n2 l)] H K := by
  apply C47
  unfold S47
  simp only [lenSl_d, optA_some, intA_neq, ne_eq, not_true_eq_false, decide_false, ifA_f]
  refine loop_ind (fun n vs G => ∃ j : Nat, j ≤ l.length ∧ n = l.length - j ∧ vs = [.d (.sl n1 l), .d (.sl n2 l), .d (.int .i64 (j : Int))] ∧ G = H) (n := l.length) ⟨0, Nat.zero_le _, rfl, rfl, rfl⟩ ?_
  rintro X n vs G ⟨j, hj, rfl, rfl, rfl⟩ hX
  by_cases hjl : j = l.length
  · subst hjl
    simp only [List.getD_cons_succ, List.getD_cons_zero, lenSl_d, optA_some, intA_lss, Int.lt_irrefl, decide_false, ifA_f]
    simp only [go_sem]
    exact ⟨_, le_refl', hk⟩
  · have hlt : (j : Int) < (l.length : Int) := by omega
    obtain ⟨c, hc⟩ : ∃ c, l[j]? = some c := ⟨_, List.getElem?_eq_getElem (by omega)⟩
    obtain ⟨a, b, rfl⟩ := h2 c (List.mem_of_getElem? hc)
    have hix : ∀ nl, indexAddrA ti43 2 (.d (.sl nl l)) (.d (.int .i64 (j : Int))) = some (.vptr [.int .i64 a, .int .i64 b] 0) := fun nl => by
      simp only [indexAddrA, ti43, Int.natCast_nonneg, if_true, Int.toNat_natCast, hc, List.length_cons, List.length_nil, Nat.zero_add, Nat.reduceAdd]
    have hld : ldV true 2 (.vptr [.int .i64 a, .int .i64 b] 0) G = some (.agg [.d (.int .i64 a), .d (.int .i64 b)]) := rfl
    have hw : IntKind.i64.wrap ((j : Int) + 1) = ((j + 1 : Nat) : Int) := by rw [wrap_i64 (by omega) (by omega)]; omega
    simp only [List.getD_cons_succ, List.getD_cons_zero, lenSl_d, optA_some, intA_lss, hlt, decide_true, ifA_t, drA_true, hix, hld, pair_neq, beq_self_eq_true, Bool.and_self, Bool.not_true, ifA_f, intA_add, hw]
    exact hX (l.length - (j + 1)) _ _ (by omega) ⟨j + 1, by omega, rfl, rfl, rfl⟩
theorem same_c (hB : BusAt H k ln L sv ids sts f) (hR : RB H w lost v sts f) (hk : K (.d (.bool true)) H) : CallsA Try.prog 22 [.ptr k 0 0 0, .ptr w 0 0 0] H K := by
  apply C22
  unfold S22
  have hn := hB.sts.n40
  obtain ⟨_, l1, l2⟩ := hR.ld
  refine loop_ind (fun n vs G => ∃ i : Int, -1 ≤ i ∧ i ≤ sts.length + 1 ∧ n = (sts.length + 1 - i).toNat ∧ vs = [.ptr k 0 0 0, .ptr w 0 0 0, .d (.int .i64 i)] ∧ G = H) (n := sts.length + 2) ⟨-1, by omega, by omega, by omega, rfl, rfl⟩ ?_
  rintro X n vs G ⟨i, hi, hi2, rfl, rfl, rfl⟩ hX
  by_cases hle : i ≤ (sts.length : Int)
  · have hw : IntKind.i64.wrap (i + 1) = i + 1 := by rw [wrap_i64 (by omega) (by omega)]
    simp only [List.getD_cons_succ, List.getD_cons_zero, nilCk_ptr, ti76_f1, Nat.zero_add, l1, hR.len, optA_some, intA_leq, hle, decide_true, ifA_t, frzLK_ptr, frzLK_d, frzLK_nil]
    refine Node_c hB (rNode_c hR ?_)
    simp only [intA_neq, ne_eq, not_true_eq_false, decide_false, optA_some, ifA_f]
    refine State_c hB (rState_c hR ?_)
    simp only [intA_neq, ne_eq, not_true_eq_false, decide_false, optA_some, ifA_f, intA_add, hw]
    exact hX _ _ _ (by omega) ⟨i + 1, by omega, by omega, rfl, rfl, rfl⟩
  · simp only [List.getD_cons_succ, List.getD_cons_zero, nilCk_ptr, ti76_f1, ti76_f2, Nat.zero_add, l1, l2, hR.len, optA_some, intA_leq, hle, decide_false, ifA_f, drA_true, frzLK_ptr, frzLK_d, frzLK_nil]
    refine Frames_c hB ⟨rfl, ?_⟩
    simp only [intA_eql, decide_true, optA_some, ifA_t]
    refine Quiet_c hB (rQuiet_c hR ?_)
    simp only [boolA_eql, beq_self_eq_true, optA_some, ifA_t]
    refine ClashesG_c hB fun n1 => rClashes_c hR fun n2 => ?_
    have hl : (clB sts sts.length).length < 2 ^ 40 := by
      have := clB_len (sts := sts) (j := sts.length)
      have : sts.length * sts.length ≤ 40 * 40 := Nat.mul_le_mul hn hn
      omega
    simp only [frzLK_d, frzLK_nil]
    refine pairs_c clB_2 hl ?_
    simp only [go_sem]
    exact ⟨_, le_refl', hk⟩
end
end Go.Proofs.Ytadpakkenokilaa
/- The law of buses, act by act. -/
set_option autoImplicit false
set_option maxRecDepth 100000
set_option linter.unusedVariables false
set_option linter.unusedSimpArgs false
set_option linter.unnecessarySimpa false
namespace Go.Proofs.Ytadpakkenokilaa
open Go Go.AM Go.Proofs
structure Both (H : AHeap) (k w : Nat) (ln : Bool) (L lost : List Int) (sv : AV) (ids : List Nat) (v : AV) (sts : List St) (f : Int) : Prop where
  b : BusAt H k ln L sv ids sts f
  r : RB H w lost v sts f
  dj : ∀ i, rfoot w v i → ¬ foot k sv ids i
section
variable {H G : AHeap} {k w : Nat} {ln : Bool} {L lost : List Int} {sv v : AV} {ids : List Nat} {sts : List St} {f : Int} {K : AV → AHeap → Prop}
theorem Both.le (h : Both H k w ln L lost sv ids v sts f) (hle : AHeap.le H G) : Both G k w ln L lost sv ids v sts f := ⟨h.b.le hle, h.r.le hle, h.dj⟩
theorem Both.bus (h : Both H k w ln L lost sv ids v sts f) {sv' : AV} {ids' : List Nat} (fr : ∀ i, (H i).isSome → ¬ foot k sv ids i → G i = H i) (gr : ∀ i, foot k sv' ids' i → foot k sv ids i ∨ H i = none) :
    RB G w lost v sts f ∧ ∀ i, rfoot w v i → ¬ foot k sv' ids' i :=
  ⟨h.r.keep fun i hi => fr i (h.r.foot hi) (h.dj i hi), fun i hi hh => by
    rcases gr i hh with h1 | h1
    · exact h.dj i hi h1
    · have := h.r.foot hi; rw [h1] at this; cases this⟩
theorem both_ref {sts' : List St} {f' : Int} {v' : AV} (hb : BusAt H k ln L sv ids sts' f') (dj : ∀ i, rfoot w v i → ¬ foot k sv ids i) (hr : RB G w lost v' sts' f') (fr : ∀ i, (H i).isSome → ¬ rfoot w v i → G i = H i) (gr : ∀ i, rfoot w v' i → rfoot w v i ∨ H i = none) :
    Both G k w ln L lost sv ids v' sts' f' :=
  ⟨hb.keep fun i hi => fr i (hb.foot hi) fun hh => dj i hh hi, hr, fun i hi hh => by
    rcases gr i hi with h1 | h1
    · exact dj i h1 hh
    · have := hb.foot hh; rw [h1] at this; cases this⟩
theorem doG_c (hh : Both H k w ln L lost sv ids v sts f) (hrs : Rising L) (hll : L.length < 2 ^ 40) (hll2 : lost.length < 2 ^ 40) (hlo : lostB L = lostB lost) (hf : 0 ≤ f ∧ f < 2 ^ 39) {a : Ac} (ok : a.Ok) (hl : a.row.length < 2 ^ 40)
    (hk : ∀ H' sv' ids' v' sts' f', Both H' k w ln L lost sv' ids' v' sts' f' → 0 ≤ f' ∧ f' ≤ f + 1640 → K (.d (.bool true)) H') : CallsA Try.prog 19 [.ptr k 0 0 0, .ptr w 0 0 0, a.av] H K := by
  apply C19
  unfold S19
  refine box_open rfl fun u G hG hle hu => ?_
  have hG : G u = some (.mem 0 0 3 [a.cells]) := hG
  have l0 : ∀ G', G' u = some (.mem 0 0 3 [a.cells]) → ldV false 1 (.ptr u 0 0 0) G' = some (.d (.int .i64 a.do_)) := fun G' hh => ldV_at hh rfl rfl
  have l1 : ∀ G', G' u = some (.mem 0 0 3 [a.cells]) → ldV false 1 (.ptr u 0 0 1) G' = some (.d (.int .i64 a.st)) := fun G' hh => ldV_at hh rfl rfl
  have l2 : ∀ G', G' u = some (.mem 0 0 3 [a.cells]) → ldV false 1 (.ptr u 0 0 2) G' = some (.d (.sl a.rn (ints a.row))) := fun G' hh => ldV_at hh rfl rfl
  have hB := hh.le hle
  have huf : ¬ foot k sv ids u := fun h1 => by have := hh.b.foot h1; rw [hu] at this; cases this
  have hn := hh.b.sts.n40
  have f0 : 0 ≤ f ∧ f ≤ f + 1640 := by omega
  have fin : ∀ G' sv' ids' v' sts' f', Both G' k w ln L lost sv' ids' v' sts' f' → 0 ≤ f' ∧ f' ≤ f + 1640 → retF [.d (.bool true)] G' K := fun G' sv' ids' v' sts' f' h1 h2 => by
    simp only [go_sem]
    exact ⟨_, le_refl', hk G' sv' ids' v' sts' f' h1 h2⟩
  have okn : (newSt a.rn a.row).Ok := newSt_ok ok.wf hl
  simp only [ti42_f0, Nat.zero_add, l0 G hG, optA_some, intA_eql, ifA_ite]
  refine ite_of (fun h0 => ?_) fun h0 => ?_
  · -- Add
    simp only [ti42_f2, Nat.zero_add, l2 G hG, optA_some, frzLK_ptr, frzLK_d, frzLK_nil]
    refine Add_c hB.b ok.wf hl ok.nl (fun h40 => ?_) fun hlt G1 sv1 ids1 hB2 hfr hft => ?_
    · simp only [extractA_0, extractA_1, optA_some, ti42_f2, Nat.zero_add, l2 G hG, frzLK_ptr, frzLK_d, frzLK_nil]
      refine rAddG_c hB.r hl okn (fun _ => ?_) fun hlt => by omega
      simp only [extractA_0, extractA_1, optA_some, intA_eql, decide_true, if_true]
      exact fin _ _ _ _ _ _ hB f0
    · have hG1 : G1 u = some (.mem 0 0 3 [a.cells]) := (hfr u (by rw [hG]; rfl) huf).trans hG
      obtain ⟨hr2, dj2⟩ := hB.bus hfr hft
      simp only [extractA_0, extractA_1, optA_some, ti42_f2, Nat.zero_add, l2 G1 hG1, frzLK_ptr, frzLK_d, frzLK_nil]
      refine rAddG_c hr2 hl okn (fun h40 => by omega) fun _ G2 v2 hr3 hfr2 hgr2 => ?_
      have hB3 := both_ref hB2 dj2 hr3 hfr2 hgr2
      simp only [extractA_0, extractA_1, optA_some, intA_eql, decide_true, if_true]
      exact fin _ _ _ _ _ _ hB3 f0
  have same : ∀ {G3 : AHeap} {sts' : List St}, BusAt G3 k ln L sv ids sts' f → (∀ x, ¬ foot k sv ids x → G3 x = G x) → RB G3 w lost v sts f := fun {G3 sts'} _ hfr => (hB.bus (G := G3) (sv' := sv) (ids' := ids) (fun i _ hi => hfr i hi) fun i hi => .inl hi).1
  have last : CallsA Try.prog 43 [.ptr w 0 0 0] G fun v59 H60 => frzLK [.ptr k 0 0 0] H60 fun l65 H66 => CallsA Try.prog 15 l65 H66 fun v63 H64 => optA (intA .eql v63 (.d (.int .i64 0))) fun v67 => retF [v67] H64 K := by
    refine rStepG_c hB.r hll2 hf fun G2 hr2 hfr2 => ?_
    have hB2 : BusAt G2 k ln L sv ids sts f := hB.b.keep fun i hi => hfr2 i (hB.b.foot hi) fun h1 => hB.dj i h1 hi
    simp only [frzLK_ptr, frzLK_nil]
    refine Step_c hB2 hrs hll hf fun G3 hB4 hfr3 => ?_
    rw [hlo] at hB4
    have hs := step_f (lost := lostB lost) (sts := sts) (f := f) hn
    simp only [intA_eql, decide_true, optA_some]
    refine fin G3 sv ids v _ _ ⟨hB4, hr2.keep fun i hi => ?_, hB.dj⟩ (by omega)
    exact hfr3 i (hr2.foot hi) (hB.dj i hi)
  have gs : CallsA Try.prog 13 [.ptr k 0 0 0, .d (.int .i64 a.st)] G fun v50 H51 => kp (.ptr u 0 0 1) G H51 ∧ (frzLK [.ptr w 0 0 0, .d (.int .i64 a.st)] H51 fun l56 H57 => CallsA Try.prog 42 l56 H57 fun v54 H55 => optA (intA .eql v50 v54) fun v58 => retF [v58] H55 K) := by
    refine GuessEx_c hB.b (fun hbad => ⟨rfl, ?_⟩) fun j hj he hon G3 hB3 hfr => ⟨hfr u huf, ?_⟩
    · simp only [frzLK_ptr, frzLK_d, frzLK_nil]
      refine rGuessG_c hB.r (fun _ => ?_) fun j hj he hon => absurd ⟨by omega, by omega, by rw [he, Int.toNat_natCast]; exact hon⟩ hbad
      simp only [intA_eql, decide_true, optA_some]
      exact fin _ _ _ _ _ _ hB f0
    · simp only [frzLK_ptr, frzLK_d, frzLK_nil]
      have hr3 := same hB3 hfr
      refine rGuessG_c hr3 (fun hbad => absurd ⟨by omega, by omega, by rw [he, Int.toNat_natCast]; exact hon⟩ hbad) fun j2 hj2 he2 _ G4 hr4 hfr4 => ?_
      obtain rfl : j = j2 := by omega
      simp only [intA_eql, decide_true, optA_some]
      exact fin _ _ _ _ _ _ (both_ref hB3 hB.dj hr4 (fun i _ hi => hfr4 i hi) fun i hi => .inl hi) f0
  have tn : ∀ b : Bool, CallsA Try.prog 24 [.ptr k 0 0 0, .d (.int .i64 a.st), .d (.bool b)] G fun v36 H37 => kp (.ptr u 0 0 0) G H37 ∧ (kp (.ptr u 0 0 1) G H37 ∧ (frzLK [.ptr w 0 0 0, .d (.int .i64 a.st), .d (.bool b)] H37 fun l42 H43 => CallsA Try.prog 41 l42 H43 fun v40 H41 => optA (intA .eql v36 v40) fun v44 => retF [v44] H41 K)) := by
    intro b
    refine Turn_c hB.b (fun hbad => ⟨rfl, rfl, ?_⟩) fun j hj he G3 hB3 hfr => ⟨hfr u huf, hfr u huf, ?_⟩
    · simp only [frzLK_ptr, frzLK_d, frzLK_nil]
      refine rTurnG_c hB.r (fun _ => ?_) fun j hj he => absurd (by omega) hbad
      simp only [intA_eql, decide_true, optA_some]
      exact fin _ _ _ _ _ _ hB f0
    · simp only [frzLK_ptr, frzLK_d, frzLK_nil]
      have hr3 := same hB3 hfr
      refine rTurnG_c hr3 (fun hbad => absurd (by omega) hbad) fun j2 hj2 he2 G4 hr4 hfr4 => ?_
      obtain rfl : j = j2 := by omega
      simp only [intA_eql, decide_true, optA_some]
      exact fin _ _ _ _ _ _ (both_ref hB3 hB.dj hr4 (fun i _ hi => hfr4 i hi) fun i hi => .inl hi) f0
  simp only [drA_true, ti42_f0, ti42_f1, Nat.zero_add, l0 G hG, l1 G hG, optA_some, intA_eql, ifA_ite, frzLK_ptr, frzLK_d, frzLK_nil]
  simp only [frzLK_ptr, frzLK_d, frzLK_nil] at gs tn last
  have rest : if a.do_ = 3 then _ else _ := ite_of (fun _ => gs) fun _ => last
  refine ite_of (fun h1 => ite_of (fun _ => tn _) fun _ => rest) fun h1 => ite_of (fun h2 => tn _) fun h2 => rest
theorem longG_c {nl0 nl : Bool} {zs : List Int} {l : List Ac} (hl : l.length < 2 ^ 62) (hk : ∀ b, (b = false → l.length ≤ 300 ∧ zs.length ≤ 300 ∧ ∀ a ∈ l, a.row.length ≤ 60) → K (.d (.bool b)) H) : CallsA Try.prog 18 [.d (.sl nl0 (ints zs)), .d (.sl nl (l.map Ac.dats))] H K := by
  apply C18
  unfold S18
  refine loop_ind (fun n vs G => ∃ j : Nat, j ≤ l.length ∧ n = l.length - j ∧ vs = [.d (.sl nl0 (ints zs)), .d (.sl nl (l.map Ac.dats)), .d (.int .i64 (j : Int))] ∧ G = H ∧ ∀ i, i < j → ∀ a, l[i]? = some a → a.row.length ≤ 60) (n := l.length) ⟨0, Nat.zero_le _, rfl, rfl, rfl, fun i hi => by omega⟩ ?_
  rintro X n vs G ⟨j, hj, rfl, rfl, rfl, hrow⟩ hX
  by_cases hjl : j = l.length
  · subst hjl
    have hall : ∀ a ∈ l, a.row.length ≤ 60 := fun a ha => by
      obtain ⟨i, hi⟩ := List.getElem?_of_mem ha
      exact hrow i (List.getElem?_eq_some_iff.1 hi).1 a hi
    simp only [List.getD_cons_succ, List.getD_cons_zero, lenSl_d, List.length_map, ints_len, optA_some, intA_lss, Int.lt_irrefl, decide_false, ifA_f, intA_gtr, ifA_ite]
    refine ite_of (fun h => ?_) fun h => ?_
    · simp only [go_sem]; exact ⟨_, le_refl', hk _ fun h => by cases h⟩
    · simp only [go_sem]; exact ⟨_, le_refl', hk _ fun hd => ⟨by omega, by have := of_decide_eq_false hd; omega, hall⟩⟩
  · have hlt : (j : Int) < (l.length : Int) := by omega
    obtain ⟨a, ha⟩ : ∃ a, l[j]? = some a := ⟨_, List.getElem?_eq_getElem (by omega)⟩
    have hw : IntKind.i64.wrap ((j : Int) + 1) = ((j + 1 : Nat) : Int) := by rw [wrap_i64 (by omega) (by omega)]; omega
    have r1 : ldV false 1 (.vptr a.dats 2) G = some (.d (.sl a.rn (ints a.row))) := rfl
    simp only [List.getD_cons_succ, List.getD_cons_zero, lenSl_d, List.length_map, optA_some, intA_lss, hlt, decide_true, ifA_t, ix36 ha, ti42_v2, Nat.zero_add, r1, ints_len, intA_gtr, ifA_ite]
    refine ite_of (fun _ => ?_) fun h60 => ?_
    · simp only [go_sem]; exact ⟨_, le_refl', hk _ fun h => by cases h⟩
    simp only [intA_add, hw, optA_some]
    refine hX (l.length - (j + 1)) _ _ (by omega) ⟨j + 1, by omega, rfl, rfl, rfl, fun i hi x hx => ?_⟩
    by_cases hij : i = j
    · subst hij
      rw [ha] at hx; cases hx
      omega
    · exact hrow i (by omega) x hx
theorem srtI_lost {zs : List Int} : lostB (srtI zs) = lostB zs := by
  funext f
  simp only [lostB, decide_eq_decide]
  exact (List.mergeSort_perm zs _).mem_iff
theorem plays_law {nl0 nl : Bool} {zs : List Int} {l : List Ac} (hnl : nl0 = true → zs = []) (hl : l.length < 2 ^ 62) (hok : ∀ a ∈ l, a.Ok) (hk : ∀ H', K (.d (.bool true)) H') : CallsA Try.prog 6 [.d (.sl nl0 (ints zs)), .d (.sl nl (l.map Ac.dats))] H K := by
  apply C6
  unfold S6
  simp only [frzLK_d, frzLK_nil]
  have aw : ∀ G, CallsA Try.prog 10 [] G fun v5 H6 => retF [v5] H6 K := fun G => awake_c fun H' => by simp only [go_sem]; exact ⟨_, le_refl', hk _⟩
  refine longG_c hl fun b hb => ?_
  cases b
  · obtain ⟨h300, hz300, h60⟩ := hb rfl
    simp only [ifA_f]
    refine newLost_c hnl (by omega) fun k H1 hB hle hk1 => ?_
    try simp only [frzLK_d, frzLK_nil]
    refine newRefL_c (by omega) fun w H2 hR hle2 hwn => ?_
    have hrs : Rising (srtI zs) := srtI_rising
    have hll : (srtI zs).length < 2 ^ 40 := by rw [srtI_len]; omega
    have hlo := srtI_lost (zs := zs)
    have hboth : Both H2 k w zs.isEmpty (srtI zs) zs (.d (.sl true [])) [] (.d (.sl true [])) [] 0 := ⟨hB.le hle2, hR, fun i hi hh => by
      rcases hi with rfl | hi
      · have := hB.foot hh; rw [hwn] at this; cases this
      · cases hi⟩
    generalize srtI zs = L at *
    generalize zs.isEmpty = ln at *
    refine loop_ind (fun n vs G => ∃ (j : Nat) (sv : AV) (ids : List Nat) (v : AV) (sts : List St) (f : Int), j ≤ l.length ∧ n = l.length - j ∧ vs = [.d (.sl nl (l.map Ac.dats)), .ptr k 0 0 0, .ptr w 0 0 0, .d (.int .i64 (j : Int))] ∧ Both G k w ln L zs sv ids v sts f ∧ 0 ≤ f ∧ f ≤ 1640 * (j : Int)) (n := l.length) ⟨0, _, _, _, _, _, Nat.zero_le _, rfl, rfl, hboth, Int.le_refl _, by simp⟩ ?_
    rintro X n vs G ⟨j, sv, ids, v, sts, f, hj, rfl, rfl, hG, hf0, hf1⟩ hX
    by_cases hjl : j = l.length
    · subst hjl
      simp only [List.getD_cons_succ, List.getD_cons_zero, lenSl_d, List.length_map, optA_some, intA_lss, Int.lt_irrefl, decide_false, ifA_f, frzLK_nil]
      exact aw _
    · have hlt : (j : Int) < (l.length : Int) := by omega
      obtain ⟨a, ha⟩ : ∃ a, l[j]? = some a := ⟨_, List.getElem?_eq_getElem (by omega)⟩
      have ham := List.mem_of_getElem? ha
      have hw : IntKind.i64.wrap ((j : Int) + 1) = ((j + 1 : Nat) : Int) := by rw [wrap_i64 (by omega) (by omega)]; omega
      have ra : ldV true 3 (.vptr a.dats 0) G = some a.av := rfl
      simp only [List.getD_cons_succ, List.getD_cons_zero, lenSl_d, List.length_map, optA_some, intA_lss, hlt, decide_true, ifA_t, ix36 ha, ra, frzLK_ptr, frzLK_Ac, frzLK_nil]
      refine doG_c hG hrs hll (by omega) hlo ⟨hf0, by omega⟩ (hok a ham) (by have := h60 a ham; omega) fun G3 sv3 ids3 v3 sts3 f3 hB3 hf3 => ?_
      simp only [unA_not, Bool.not_true, optA_some, ifA_f, frzLK_ptr, frzLK_nil]
      refine same_c hB3.b hB3.r ?_
      simp only [unA_not, Bool.not_true, optA_some, ifA_f, intA_add, hw]
      exact hX (l.length - (j + 1)) _ _ (by omega) ⟨j + 1, sv3, ids3, v3, sts3, f3, by omega, rfl, rfl, hB3, hf3.1, by omega⟩
  · simp only [ifA_t, frzLK_nil]
    exact aw _
theorem plays_row (xs : List Dat) (h : DatOk Try.prog 9 22 xs) (ys : List Dat) (h2 : DatOk Try.prog 9 36 ys) : CallsA Try.prog 6 [argAV (aggT Try.prog 22) xs, argAV (aggT Try.prog 36) ys] noHeap fun v _ => v = .d (.bool true) := by
  obtain ⟨nl, zs, e, hnl⟩ := lost_open h
  rw [e]
  rw [datOk_slice Try.underlying36] at h2
  obtain ⟨nl2, l, rfl, _, hl, hlen⟩ := h2
  have hb := acs_len (nl := nl2) hlen
  obtain ⟨acs, rfl, hz⟩ := acs_open hl
  rw [show aggT Try.prog 36 = false by kernel_rfl]
  rw [List.length_map] at hb
  exact plays_law hnl hb hz fun _ => rfl
end
end Go.Proofs.Ytadpakkenokilaa
/- A deed to a bus and to the document's: the state behind it, and what it leaves alone. -/
set_option autoImplicit false
set_option maxRecDepth 100000
set_option linter.unusedVariables false
set_option linter.unusedSimpArgs false
set_option linter.unnecessarySimpa false
namespace Go.Proofs.Ytadpakkenokilaa
open Go Go.AM Go.Proofs
/-- The state behind a deed. -/
def doS (L : List Int) (a : Ac) (s : List St × Int) : List St × Int :=
  if a.do_ = 0 then (if s.1.length < 40 then (s.1 ++ [newSt a.rn a.row], s.2) else s)
  else if a.do_ = 1 ∨ a.do_ = 2 then (if 0 ≤ a.st ∧ a.st < s.1.length then (s.1.set a.st.toNat ((s.1.getD a.st.toNat default).turn (decide (a.do_ = 1))), s.2) else s)
  else if a.do_ = 3 then (if 0 ≤ a.st ∧ a.st < s.1.length ∧ (s.1.getD a.st.toNat default).on = true then (s.1.set a.st.toNat (s.1.getD a.st.toNat default).begin, s.2) else s)
  else step (lostB L) s.1 s.2
section
variable {H G : AHeap} {k w : Nat} {ln : Bool} {L lost : List Int} {sv v : AV} {ids : List Nat} {sts : List St} {f : Int} {K : AV → AHeap → Prop}
theorem doX_c (hh : Both H k w ln L lost sv ids v sts f) (hrs : Rising L) (hll : L.length < 2 ^ 40) (hll2 : lost.length < 2 ^ 40) (hlo : lostB L = lostB lost) (hf : 0 ≤ f ∧ f < 2 ^ 39) {a : Ac} (ok : a.Ok) (hl : a.row.length < 2 ^ 40)
    (hk : ∀ H' sv' ids' v', Both H' k w ln L lost sv' ids' v' (doS L a (sts, f)).1 (doS L a (sts, f)).2 → 0 ≤ (doS L a (sts, f)).2 ∧ (doS L a (sts, f)).2 ≤ f + 1640 → (∀ i, (H i).isSome → ¬ foot k sv ids i → ¬ rfoot w v i → H' i = H i) → (∀ i, foot k sv' ids' i ∨ rfoot w v' i → foot k sv ids i ∨ rfoot w v i ∨ H i = none) → K (.d (.bool true)) H') : CallsA Try.prog 19 [.ptr k 0 0 0, .ptr w 0 0 0, a.av] H K := by
  apply C19
  unfold S19
  refine box_open rfl fun u G hG hle hu => ?_
  have hG : G u = some (.mem 0 0 3 [a.cells]) := hG
  have l0 : ∀ G', G' u = some (.mem 0 0 3 [a.cells]) → ldV false 1 (.ptr u 0 0 0) G' = some (.d (.int .i64 a.do_)) := fun G' hh => ldV_at hh rfl rfl
  have l1 : ∀ G', G' u = some (.mem 0 0 3 [a.cells]) → ldV false 1 (.ptr u 0 0 1) G' = some (.d (.int .i64 a.st)) := fun G' hh => ldV_at hh rfl rfl
  have l2 : ∀ G', G' u = some (.mem 0 0 3 [a.cells]) → ldV false 1 (.ptr u 0 0 2) G' = some (.d (.sl a.rn (ints a.row))) := fun G' hh => ldV_at hh rfl rfl
  have hB := hh.le hle
  have huf : ¬ foot k sv ids u := fun h1 => by have := hh.b.foot h1; rw [hu] at this; cases this
  have hn := hh.b.sts.n40
  have iG : ∀ {i : Nat}, (H i).isSome → (G i).isSome ∧ G i = H i := fun {i} hi => by
    obtain ⟨o, ho⟩ := Option.isSome_iff_exists.1 hi
    have := hle _ _ ho
    exact ⟨by rw [this]; rfl, by rw [this, ho]⟩
  have nG : ∀ {i : Nat}, G i = none → H i = none := fun {i} hi => le_none hle hi
  have fin : ∀ G' sv' ids' v' (s' : List St × Int), s' = doS L a (sts, f) → Both G' k w ln L lost sv' ids' v' s'.1 s'.2 → 0 ≤ s'.2 ∧ s'.2 ≤ f + 1640 → (∀ i, (G i).isSome → ¬ foot k sv ids i → ¬ rfoot w v i → G' i = G i) → (∀ i, foot k sv' ids' i ∨ rfoot w v' i → foot k sv ids i ∨ rfoot w v i ∨ G i = none) → retF [.d (.bool true)] G' K := fun G' sv' ids' v' s' hs h1 h2 h3 h4 => by
    subst hs
    simp only [go_sem]
    refine ⟨_, le_refl', hk G' sv' ids' v' h1 h2 (fun i hi a1 a2 => (h3 i (iG hi).1 a1 a2).trans (iG hi).2) fun i hi => ?_⟩
    rcases h4 i hi with h5 | h5 | h5
    · exact .inl h5
    · exact .inr (.inl h5)
    · exact .inr (.inr (nG h5))
  have f0 : 0 ≤ f ∧ f ≤ f + 1640 := by omega
  have still : (sts, f) = doS L a (sts, f) → retF [.d (.bool true)] G K := fun hs => fin G sv ids v (sts, f) hs hB f0 (fun _ _ _ _ => rfl) fun i hi => by
    rcases hi with h | h
    · exact .inl h
    · exact .inr (.inl h)
  have okn : (newSt a.rn a.row).Ok := newSt_ok ok.wf hl
  simp only [ti42_f0, Nat.zero_add, l0 G hG, optA_some, intA_eql, ifA_ite]
  refine ite_of (fun h0 => ?_) fun h0 => ?_
  · -- Add
    simp only [ti42_f2, Nat.zero_add, l2 G hG, optA_some, frzLK_ptr, frzLK_d, frzLK_nil]
    refine Add_c hB.b ok.wf hl ok.nl (fun h40 => ?_) fun hlt G1 sv1 ids1 hB2 hfr hft => ?_
    · simp only [extractA_0, extractA_1, optA_some, ti42_f2, Nat.zero_add, l2 G hG, frzLK_ptr, frzLK_d, frzLK_nil]
      refine rAddG_c hB.r hl okn (fun _ => ?_) fun hlt => by omega
      simp only [extractA_0, extractA_1, optA_some, intA_eql, decide_true, if_true]
      exact still (by unfold doS; rw [if_pos h0, if_neg (show ¬ sts.length < 40 by omega)])
    · have hG1 : G1 u = some (.mem 0 0 3 [a.cells]) := (hfr u (by rw [hG]; rfl) huf).trans hG
      obtain ⟨hr2, dj2⟩ := hB.bus hfr hft
      simp only [extractA_0, extractA_1, optA_some, ti42_f2, Nat.zero_add, l2 G1 hG1, frzLK_ptr, frzLK_d, frzLK_nil]
      refine rAddG_c hr2 hl okn (fun h40 => by omega) fun _ G2 v2 hr3 hfr2 hgr2 => ?_
      have hB3 := both_ref hB2 dj2 hr3 hfr2 hgr2
      simp only [extractA_0, extractA_1, optA_some, intA_eql, decide_true, if_true]
      have e1 : ∀ i, (G i).isSome → ¬ foot k sv ids i → (G1 i).isSome ∧ G1 i = G i := fun i h1 h2 => ⟨by rw [hfr i h1 h2]; exact h1, hfr i h1 h2⟩
      refine fin G2 sv1 ids1 v2 (sts ++ [newSt a.rn a.row], f) (by unfold doS; rw [if_pos h0, if_pos hlt]) hB3 f0 (fun i hi a1 a2 => (hfr2 i (e1 i hi a1).1 a2).trans (e1 i hi a1).2) fun i hi => ?_
      rcases hi with hi | hi
      · rcases hft i hi with h1 | h1
        · exact .inl h1
        · exact .inr (.inr h1)
      · rcases hgr2 i hi with h1 | h1
        · exact .inr (.inl h1)
        · by_cases hgi : G i = none
          · exact .inr (.inr hgi)
          · by_cases hfi : foot k sv ids i
            · exact .inl hfi
            · have := (e1 i (Option.isSome_iff_ne_none.2 hgi) hfi).1
              rw [h1] at this; cases this
  have same : ∀ {G3 : AHeap} {sts' : List St}, BusAt G3 k ln L sv ids sts' f → (∀ x, ¬ foot k sv ids x → G3 x = G x) → RB G3 w lost v sts f := fun {G3 sts'} _ hfr => (hB.bus (G := G3) (sv' := sv) (ids' := ids) (fun i _ hi => hfr i hi) fun i hi => .inl hi).1
  have stay : ∀ i, foot k sv ids i ∨ rfoot w v i → foot k sv ids i ∨ rfoot w v i ∨ G i = none := fun i hi => by
    rcases hi with h | h
    · exact .inl h
    · exact .inr (.inl h)
  have last : ¬ a.do_ = 1 → ¬ a.do_ = 2 → ¬ a.do_ = 3 → CallsA Try.prog 43 [.ptr w 0 0 0] G fun v59 H60 => frzLK [.ptr k 0 0 0] H60 fun l65 H66 => CallsA Try.prog 15 l65 H66 fun v63 H64 => optA (intA .eql v63 (.d (.int .i64 0))) fun v67 => retF [v67] H64 K := by
    intro h1 h2 h3
    refine rStepG_c hB.r hll2 hf fun G2 hr2 hfr2 => ?_
    have hB2 : BusAt G2 k ln L sv ids sts f := hB.b.keep fun i hi => hfr2 i (hB.b.foot hi) fun h1 => hB.dj i h1 hi
    simp only [frzLK_ptr, frzLK_nil]
    refine Step_c hB2 hrs hll hf fun G3 hB4 hfr3 => ?_
    rw [← hlo] at hr2
    have hs := step_f (lost := lostB L) (sts := sts) (f := f) hn
    simp only [intA_eql, decide_true, optA_some]
    refine fin G3 sv ids v (step (lostB L) sts f) (by unfold doS; rw [if_neg h0, if_neg (by omega), if_neg h3]) ⟨hB4, hr2.keep fun i hi => ?_, hB.dj⟩ (by omega) (fun i hi a1 a2 => ?_) stay
    · exact hfr3 i (hr2.foot hi) (hB.dj i hi)
    · have := hfr2 i hi a2
      exact (hfr3 i (by rw [this]; exact hi) a1).trans this
  have gs : a.do_ = 3 → CallsA Try.prog 13 [.ptr k 0 0 0, .d (.int .i64 a.st)] G fun v50 H51 => kp (.ptr u 0 0 1) G H51 ∧ (frzLK [.ptr w 0 0 0, .d (.int .i64 a.st)] H51 fun l56 H57 => CallsA Try.prog 42 l56 H57 fun v54 H55 => optA (intA .eql v50 v54) fun v58 => retF [v58] H55 K) := by
    intro h3
    have hd : doS L a (sts, f) = if 0 ≤ a.st ∧ a.st < sts.length ∧ (sts.getD a.st.toNat default).on = true then (sts.set a.st.toNat (sts.getD a.st.toNat default).begin, f) else (sts, f) := by
      unfold doS; rw [if_neg h0, if_neg (by omega), if_pos h3]
    refine GuessEx_c hB.b (fun hbad => ⟨rfl, ?_⟩) fun j hj he hon G3 hB3 hfr => ⟨hfr u huf, ?_⟩
    · simp only [frzLK_ptr, frzLK_d, frzLK_nil]
      refine rGuessG_c hB.r (fun _ => ?_) fun j hj he hon => absurd ⟨by omega, by omega, by rw [he, Int.toNat_natCast]; exact hon⟩ hbad
      simp only [intA_eql, decide_true, optA_some]
      exact still (by rw [hd, if_neg hbad])
    · simp only [frzLK_ptr, frzLK_d, frzLK_nil]
      have hr3 := same hB3 hfr
      refine rGuessG_c hr3 (fun hbad => absurd ⟨by omega, by omega, by rw [he, Int.toNat_natCast]; exact hon⟩ hbad) fun j2 hj2 he2 _ G4 hr4 hfr4 => ?_
      obtain rfl : j = j2 := by omega
      simp only [intA_eql, decide_true, optA_some]
      refine fin G4 sv ids v (sts.set j (sts.getD j default).begin, f) ?_ (both_ref hB3 hB.dj hr4 (fun i _ hi => hfr4 i hi) fun i hi => .inl hi) f0 (fun i hi a1 a2 => (hfr4 i a2).trans (hfr i a1)) stay
      have hj2 : a.st.toNat = j := by omega
      rw [hd, hj2, if_pos ⟨by omega, by omega, hon⟩]
  have tn : a.do_ = 1 ∨ a.do_ = 2 → CallsA Try.prog 24 [.ptr k 0 0 0, .d (.int .i64 a.st), .d (.bool (decide (a.do_ = 1)))] G fun v36 H37 => kp (.ptr u 0 0 0) G H37 ∧ (kp (.ptr u 0 0 1) G H37 ∧ (frzLK [.ptr w 0 0 0, .d (.int .i64 a.st), .d (.bool (decide (a.do_ = 1)))] H37 fun l42 H43 => CallsA Try.prog 41 l42 H43 fun v40 H41 => optA (intA .eql v36 v40) fun v44 => retF [v44] H41 K)) := by
    intro h12
    have hd : doS L a (sts, f) = if 0 ≤ a.st ∧ a.st < sts.length then (sts.set a.st.toNat ((sts.getD a.st.toNat default).turn (decide (a.do_ = 1))), f) else (sts, f) := by
      unfold doS; rw [if_neg h0, if_pos h12]
    refine Turn_c hB.b (fun hbad => ⟨rfl, rfl, ?_⟩) fun j hj he G3 hB3 hfr => ⟨hfr u huf, hfr u huf, ?_⟩
    · simp only [frzLK_ptr, frzLK_d, frzLK_nil]
      refine rTurnG_c hB.r (fun _ => ?_) fun j hj he => absurd (by omega) hbad
      simp only [intA_eql, decide_true, optA_some]
      exact still (by rw [hd, if_neg hbad])
    · simp only [frzLK_ptr, frzLK_d, frzLK_nil]
      have hr3 := same hB3 hfr
      refine rTurnG_c hr3 (fun hbad => absurd (by omega) hbad) fun j2 hj2 he2 G4 hr4 hfr4 => ?_
      obtain rfl : j = j2 := by omega
      simp only [intA_eql, decide_true, optA_some]
      refine fin G4 sv ids v (sts.set j ((sts.getD j default).turn (decide (a.do_ = 1))), f) ?_ (both_ref hB3 hB.dj hr4 (fun i _ hi => hfr4 i hi) fun i hi => .inl hi) f0 (fun i hi a1 a2 => (hfr4 i a2).trans (hfr i a1)) stay
      have hj2 : a.st.toNat = j := by omega
      rw [hd, hj2, if_pos ⟨by omega, by omega⟩]
  simp only [drA_true, ti42_f0, ti42_f1, Nat.zero_add, l0 G hG, l1 G hG, optA_some, intA_eql, ifA_ite, frzLK_ptr, frzLK_d, frzLK_nil]
  simp only [frzLK_ptr, frzLK_d, frzLK_nil] at gs tn last
  refine ite_of (fun h1 => ite_of (fun _ => tn (.inl h1)) fun h => absurd h1 h) fun h1 => ite_of (fun h2 => tn (.inr h2)) fun h2 => ite_of (fun h3 => gs h3) fun h3 => last h1 h2 h3
end
end Go.Proofs.Ytadpakkenokilaa
/- Copies of a bus, and of the document's. -/
set_option autoImplicit false
set_option maxRecDepth 100000
set_option linter.unusedVariables false
set_option linter.unusedSimpArgs false
set_option linter.unnecessarySimpa false
namespace Go.Proofs.Ytadpakkenokilaa
open Go Go.AM Go.Proofs
def sRow (s : St) : List Dat := [.sl s.rn (ints s.row), .bool s.on, .int .i64 s.state, .int .i64 s.k, .int .i64 s.sent, .int .i64 s.node]
section
variable {H G : AHeap} {k w : Nat} {ln : Bool} {L lost : List Int} {sv v : AV} {ids : List Nat} {sts : List St} {f : Int} {K : AV → AHeap → Prop}
theorem ldS {q : Nat} {s : St} (h : H q = some (sObj s)) : ldV true 6 (.ptr q 0 0 0) H = some (.agg s.cells) := by
  simp only [ldV, h, if_true]
  rfl
theorem bd52_3 {nl : Bool} {l : List (List Dat)} {H : AHeap} : bdA Try.prog ti52 [0, 1, 3] [.d (.bool true), .d (.sl nl l), .d (.int .i64 f)] H = some (.agg [.d (.bool true), .d (.sl nl l), .d (.sl true []), .d (.int .i64 f)], []) := by
  have c3 : Try.prog.cellsOf 3 = 1 := by kernel_rfl
  simp only [bdA, bd52, cell22, cell4, c3, fillA, setCells, List.zip_cons_cons, List.zip_nil_right, Option.map_some, Nat.reduceLeDiff, List.cons_append, go_sem]
/-- A station behind the others. -/
theorem add_tail (hB : BusAt G k ln L sv ids sts f) (hlt : sts.length < 40) {p : Nat} {s : St} (hp : G p = some (sObj s)) (hs : s.Ok) (hpf : ¬ foot k sv ids p) {m : Nat} (hm : G m = some (.mem 0 0 1 [[.ptr p 0 0 0]]))
    (hk : ∀ v' H', BusAt H' k ln L v' (ids ++ [p]) (sts ++ [s]) f → (∀ i, (G i).isSome → ¬ foot k sv ids i → H' i = G i) → (∀ i, foot k v' (ids ++ [p]) i → foot k sv ids i ∨ i = p ∨ G i = none) → K .junk H') :
    newK G (fun n => apA 1 8 sv (.rs m 0 1 0 1) G n) fun v39 H40 => stepK (stoA false 1 (.ptr k 0 0 2) v39 H40) H40 K := by
  have hpk : p ≠ k := fun he => hpf (.inl he)
  have hpn : p ∉ ids := fun h => hpf (.inr (.inr h))
  refine hB.sts.more hlt hp hs hpn hm fun v' H' hS hO hI => ?_
  have hnode' : H' k = some (.mem 0 0 4 [[.d (.bool true), .d (.sl ln (ints L)), sv, .d (.int .i64 f)]]) := by
    rw [hO k (by rw [hB.node]; rfl) (fun he => hB.kne.1 k he rfl)]; exact hB.node
  have hst : v'.storable = true ∧ v'.cells = [v'] := by
    rcases hS.sl with ⟨h1, _⟩ | ⟨i, ver, L, rfl, _⟩
    · simp at h1
    · exact ⟨rfl, rfl⟩
  have k1 : ∀ i, idOf v' = some i → i ≠ k := fun i hi he => by
    subst he
    rcases hS.sl with ⟨h1, _⟩ | ⟨j, ver, L, rfl, h3, _⟩
    · simp at h1
    · cases hi; rw [hnode'] at h3; cases h3
  have k2 : k ∉ ids ++ [p] := fun hh => by
    rcases List.mem_append.1 hh with hi | hi
    · exact hB.kne.2 hi
    · rw [List.mem_singleton] at hi; exact hpk hi.symm
  have st : stoA false 1 (.ptr k 0 0 2) v' H' = some (.junk, [(k, .mem 0 0 4 [[.d (.bool true), .d (.sl ln (ints L)), v', .d (.int .i64 f)]])]) := stoA_at hnode' (Nat.le_refl 0) rfl (show 2 < 4 by decide) hst.1 hst.2
  simp only [st, stepK_some, sets_cons, sets_nil']
  refine hk v' _ ⟨set_self, hS.keep (fun i hi => set_ne (k1 i hi)) fun i hi => set_ne fun he => k2 (he ▸ hi)⟩ (fun i hi hnf => ?_) fun i hi => ?_
  · rw [set_ne (fun he => hnf (.inl he)), hO i hi (fun he => hnf (.inr (.inl he)))]
  · rcases hi with rfl | hi | hi
    · exact .inl (.inl rfl)
    · rcases hI i hi with h1 | h1
      · exact .inl (.inr (.inl h1))
      · exact .inr (.inr h1)
    · rcases List.mem_append.1 hi with hi | hi
      · exact .inl (.inr (.inr hi))
      · rw [List.mem_singleton] at hi; exact .inr (.inl hi)
theorem take_st {j : Nat} (hj : j < sts.length) : sts.take (j + 1) = sts.take j ++ [sts.getD j default] := by
  rw [List.take_succ_eq_append_getElem hj, List.getD_eq_getElem?_getD, List.getElem?_eq_getElem hj]; rfl
theorem copy_c (h : BusAt H k ln L sv ids sts f) (hk : ∀ k2 sv2 ids2 H', BusAt H' k2 ln L sv2 ids2 sts f → AHeap.le H H' → (∀ i, foot k2 sv2 ids2 i → H i = none) → K (.ptr k2 0 0 0) H') : CallsA Try.prog 26 [.ptr k 0 0 0] H K := by
  apply C26
  unfold S26
  simp only [frzLK_ptr, frzLK_nil]
  refine none_c h ?_
  have l1 : ldV false 1 (.ptr k 0 0 1) H = some (.d (.sl ln (ints L))) := ldV_at h.node rfl rfl
  have l3 : ldV false 1 (.ptr k 0 0 3) H = some (.d (.int .i64 f)) := ldV_at h.node rfl rfl
  have hn := h.sts.n40
  simp only [ifA_f, drA_true, nilCk_ptr, ti52_f1, ti52_f3, Nat.zero_add, l1, l3, optA_some, aggL_d, noRsA_nil, bd52_3, stepK_some, sets_nil']
  refine box_open rfl fun k2 G hG hle hk2 => ?_
  have hG : G k2 = some (.mem 0 0 4 [[.d (.bool true), .d (.sl ln (ints L)), .d (.sl true []), .d (.int .i64 f)]]) := hG
  have hB0 : BusAt G k2 ln L (.d (.sl true [])) [] [] f := ⟨hG, ⟨rfl, List.nodup_nil, fun j hj => by simp at hj, .inl ⟨rfl, rfl⟩, by simp, by simp⟩⟩
  have lG : ∀ G', AHeap.le H G' → ldV false 1 (.ptr k 0 0 2) G' = some sv := fun G' hh => ldV_at (hh _ _ h.node) rfl rfl
  simp only [nilCk_ptr, ti52_f2, Nat.zero_add, lG G hle, h.sts.lenS, optA_some]
  refine loop_ind (fun n vs G => ∃ (j : Nat) (sv2 : AV) (ids2 : List Nat), j ≤ sts.length ∧ n = sts.length - j ∧ vs = [.ptr k2 0 0 0, sv, .d (.int .i64 sts.length), .d (.int .i64 (j : Int))] ∧ BusAt G k2 ln L sv2 ids2 (sts.take j) f ∧ AHeap.le H G ∧ ∀ i, foot k2 sv2 ids2 i → H i = none) (n := sts.length) ⟨0, _, _, Nat.zero_le _, rfl, rfl, hB0, hle, fun i hi => ?_⟩ ?_
  · rcases hi with rfl | hi | hi
    · exact hk2
    · cases hi
    · cases hi
  clear hB0 hG hle
  rintro X n vs G ⟨j, sv2, ids2, hj, rfl, rfl, hB, hle, hf⟩ hX
  by_cases hjl : j < sts.length
  · have hlt : (j : Int) < (sts.length : Int) := by omega
    have hw : IntKind.i64.wrap ((j : Int) + 1) = ((j + 1 : Nat) : Int) := by rw [wrap_i64 (by omega) (by omega)]; omega
    have hS := h.sts.le hle
    obtain ⟨p, e1, e2⟩ := hS.ix hjl
    have e3 := hS.obj j hjl
    have e4 := ldS e3
    simp only [List.getD_cons_succ, List.getD_cons_zero, intA_lss, optA_some, hlt, decide_true, ifA_t, e1, e2, nilCk_ptr, e4]
    refine alloc_open fun u G1 hG1 hle1 hu => ?_
    have st := sto6 (l := sRow (sts.getD j default)) (G := G1) (u := u) rfl hG1 rfl
    have st' : stoA true 6 (.ptr u 0 0 0) (.agg (St.cells (sts.getD j default))) G1 = some (.junk, [(u, sObj (sts.getD j default))]) := st
    simp only [st', stepK_some, sets_cons, sets_nil', nilCk_ptr, ti52_f2, Nat.zero_add, optA_some]
    have hle2 : AHeap.le G (G1.set u (sObj (sts.getD j default))) := le_set_own hle1 hu
    have l2 : ldV false 1 (.ptr k2 0 0 2) (G1.set u (sObj (sts.getD j default))) = some sv2 := ldV_at (hle2 _ _ hB.node) rfl rfl
    simp only [l2, optA_some]
    intro m hm
    simp only [bs65_1, stepK_some, sets_cons, sets_nil']
    have hle3 : AHeap.le G ((G1.set u (sObj (sts.getD j default))).set m (.mem 0 0 1 [[.ptr u 0 0 0]])) := le_trans' hle2 (le_set le_refl' hm)
    have hmG : G m = none := le_none hle2 hm
    have hum : u ≠ m := fun he => by rw [← he, set_self] at hm; cases hm
    refine add_tail (hB.le hle3) (by rw [List.length_take]; omega) (p := u) (s := sts.getD j default) (by rw [set_ne hum, set_self]) (h.sts.okj hjl) (fun hh => ?_) set_self fun v' H' hB' hfr hgr => ?_
    · have := hB.foot hh; rw [hu] at this; cases this
    · simp only [List.getD_cons_succ, List.getD_cons_zero, intA_add, hw, optA_some]
      refine hX (sts.length - (j + 1)) _ _ (by omega) ⟨j + 1, v', ids2 ++ [u], by omega, rfl, rfl, by rw [take_st hjl]; exact hB', fun i o hi => ?_, fun i hi => ?_⟩
      · have h1 := hle3 i o (hle i o hi)
        rw [hfr i (by rw [h1]; rfl) (fun hh => by have := hf i hh; rw [this] at hi; cases hi)]
        exact h1
      · rcases hgr i hi with h1 | rfl | h1
        · exact hf i h1
        · exact le_none hle hu
        · exact le_none hle (le_none hle3 h1)
  · have hjl : j = sts.length := by omega
    subst hjl
    rw [List.take_length] at hB
    simp only [List.getD_cons_succ, List.getD_cons_zero, intA_lss, optA_some, Int.lt_irrefl, decide_false, ifA_f, ret1_ptr]
    exact ⟨G, le_refl', hk k2 sv2 ids2 G hB hle hf⟩
theorem rRow_cells {s : St} : (rRow s).map AV.d = [.d (.sl false (ints s.row)), .d (.bool s.on), .d (.int .i64 s.state), .d (.int .i64 s.k), .d (.int .i64 s.sent), .d (.int .i64 (nodeOf s))] := rfl
theorem rcopy_c (h : RB H w lost v sts f) (hz : lost.length < 2 ^ 40) (hk : ∀ w2 v2 H', RB H' w2 lost v2 sts f → AHeap.le H H' → (∀ i, rfoot w2 v2 i → H i = none) → K (.ptr w2 0 0 0) H') : CallsA Try.prog 28 [.ptr w 0 0 0] H K := by
  apply C28j
  unfold S28j
  obtain ⟨l0, l1, l2⟩ := h.ld
  have hn := h.n40
  simp only [nilCk_ptr, ti76_f0, Nat.zero_add, Nat.add_zero, l0, optA_some, frzLK_d, frzLK_nil]
  refine newRefL_c hz fun w2 G hR hle hw2 => ?_
  have h1 := h.le hle
  obtain ⟨_, _, g2⟩ := h1.ld
  have st : stoA false 1 (.ptr w2 0 0 2) (.d (.int .i64 f)) G = some (.junk, [(w2, .mem 0 0 3 [[.d (.sl false (ints lost)), .d (.sl true []), .d (.int .i64 f)]])]) := stoA_at hR.node (Nat.le_refl 0) rfl (show 2 < 3 by decide) rfl rfl
  simp only [nilCk_ptr, ti76_f2, Nat.zero_add, g2, optA_some, st, stepK_some, sets_cons, sets_nil']
  have hR0 : RB (G.set w2 (.mem 0 0 3 [[.d (.sl false (ints lost)), .d (.sl true []), .d (.int .i64 f)]])) w2 lost (.d (.sl true [])) (sts.take 0) f := ⟨set_self, Ms.nil, by simp, by simp⟩
  refine loop_ind (fun n vs G => ∃ (j : Nat) (v2 : AV), j ≤ sts.length ∧ n = sts.length - j ∧ vs = [.ptr w 0 0 0, .ptr w2 0 0 0, .d (.int .i64 (j : Int))] ∧ RB G w2 lost v2 (sts.take j) f ∧ AHeap.le H G ∧ ∀ i, rfoot w2 v2 i → H i = none) (n := sts.length) ⟨0, _, Nat.zero_le _, rfl, rfl, hR0, le_set_own hle hw2, fun i hi => ?_⟩ ?_
  · rcases hi with rfl | hi
    · exact hw2
    · cases hi
  clear hR0 hR st g2 h1 hle
  rintro X n vs G ⟨j, v2, hj, rfl, rfl, hR, hle, hf⟩ hX
  have h1 := h.le hle
  obtain ⟨_, m1, _⟩ := h1.ld
  by_cases hjl : j < sts.length
  · have hlt : (j : Int) < (sts.length : Int) := by omega
    have hw : IntKind.i64.wrap ((j : Int) + 1) = ((j + 1 : Nat) : Int) := by rw [wrap_i64 (by omega) (by omega)]; omega
    obtain ⟨i0, ver, Lm, e1, e2, e3, e4⟩ := h1.at hjl
    have e5 := ld6t (r := rRow (sts.getD j default)) rfl e3 e4
    have ok := h.okj hjl
    generalize hs : sts.getD j default = s at *
    simp only [List.getD_cons_succ, List.getD_cons_zero, nilCk_ptr, ti76_f1, Nat.zero_add, m1, h1.len, intA_lss, optA_some, hlt, decide_true, ifA_t, e1, e5]
    refine alloc_open fun u G1 hG1 hle1 hu => ?_
    have st := sto6 (l := rRow s) (G := G1) (u := u) rfl hG1 rfl
    simp only [st, stepK_some, sets_cons, sets_nil', bs3_0', newK_iff]
    intro _ _
    have hle2 : AHeap.le G (G1.set u (.mem 0 0 6 [(rRow s).map AV.d])) := le_set_own hle1 hu
    have l3 : ldV false 1 (.ptr u 0 0 0) (G1.set u (.mem 0 0 6 [(rRow s).map AV.d])) = some (.d (.sl false (ints s.row))) := ldV_at set_self rfl rfl
    simp only [ti89_f0, Nat.zero_add, Nat.add_zero, l3, optA_some]
    refine (?_ : newK (G1.set u (.mem 0 0 6 [(rRow s).map AV.d])) (fun n40 => apA 1 8 (.lit []) (.d (.sl false (ints s.row))) (G1.set u (.mem 0 0 6 [(rRow s).map AV.d])) n40) _)
    refine cpI ok.len fun x G2 hv hnv hfr => ?_
    have hu2 : G2 u = some (.mem 0 0 6 [(rRow s).map AV.d]) := by rw [hfr u (by rw [set_self]; rfl)]; exact set_self
    have hxu : ∀ i, idOf x = some i → i ≠ u := fun i hi he => by
      obtain ⟨⟨ver, L', g1⟩, _⟩ := Gr.obj hv hi
      rw [he, hu2] at g1
      cases g1
    obtain ⟨us, f1, f2, f3, f4⟩ := hv.own.frz
    rw [hnv] at f1 f2
    have stx : x.storable = true ∧ x.cells = [x] := by
      rcases hv.2.2 with ⟨_, rfl | rfl⟩ | ⟨i, ver, L', rfl, _⟩ <;> exact ⟨rfl, rfl⟩
    have st2 : stoA false 1 (.ptr u 0 0 0) x G2 = some (.junk, [(u, .mem 0 0 6 [x :: ((rRow s).map AV.d).drop 1])]) := stoA_at hu2 (Nat.le_refl 0) rfl (show 0 < 6 by decide) stx.1 stx.2
    simp only [st2, stepK_some, sets_cons, sets_nil']
    -- the row is given away
    have f1' : AM.frz x (G2.set u (.mem 0 0 6 [x :: ((rRow s).map AV.d).drop 1])) = some (.d (.sl false (ints s.row)), us) := by
      rcases hv.2.2 with ⟨e, rfl | rfl⟩ | ⟨i, ver, L', rfl, g1, g2, g3, _⟩
      · exact f1
      · exact f1
      · have hne := hxu i rfl
        simp only [AM.frz, set_ne hne] at f1 ⊢
        exact f1
    have hus : ∀ o, (u, o) ∉ us := fun o hm => hxu u (f4 u o hm) rfl
    have hfz := fz_cell (k := u) (e := 0) (off := 0) f1' set_self hus rfl rfl
    refine (?_ : ∃ H1, Fz _ H1 ∧ _)
    refine ⟨_, hfz, ?_⟩
    generalize hG3 : ((G2.set u (.mem 0 0 6 [x :: ((rRow s).map AV.d).drop 1])).sets us).set u (.mem 0 0 6 (List.set [x :: ((rRow s).map AV.d).drop 1] 0 (List.set (x :: ((rRow s).map AV.d).drop 1) 0 (.d (.sl false (ints s.row)))))) = G3
    have hu3 : G3 u = some (.mem 0 0 6 [(rRow s).map AV.d]) := by rw [← hG3]; exact set_self
    have hle3 : AHeap.le G G3 := fun i o hi => by
      have hiu : i ≠ u := fun he => by rw [he, hu] at hi; cases hi
      have h2 := hle2 i o hi
      have h3 : G2 i = some o := by rw [hfr i (by rw [h2]; rfl)]; exact h2
      have h4 : ∀ o', (i, o') ∉ us := fun o' hm => by
        have hid := f4 i o' hm
        have := (Gr.obj hv hid).2
        rw [h2] at this; cases this
      rw [← hG3, set_ne hiu, upsOut h4, set_ne hiu, h3]
    have hR3 := hR.le hle3
    obtain ⟨_, q1, _⟩ := hR3.ld
    have q2 : ldV true 6 (.ptr u 0 0 0) G3 = some (.agg ((rRow s).map AV.d)) := ld6t (r := rRow s) (Lm := [(rRow s).map AV.d]) rfl hu3 rfl
    simp only [List.getD_cons_succ, List.getD_cons_zero, drA_true, nilCk_ptr, ti76_f1, Nat.zero_add, q1, q2, optA_some, rsOf_agg, ap_nil, true_and]
    refine noRs_row ?_
    simp only [rRow_cells, bs89_1, newK_iff, stepK_some, sets_nil']
    intro _ _
    refine (?_ : newK G3 (fun n22 => apA 6 64 v2 (.lit [rRow s]) G3 n22) _)
    refine hR3.ms.app (ys := [rRow s]) elemsA_lit (by decide) (by decide) (by simp [rRow]) (by simp [mostBytes]; omega) fun y G4 hx hfx hnx _ => ?_
    have hr2 : G4 w2 = some (.mem 0 0 3 [[.d (.sl false (ints lost)), v2, .d (.int .i64 f)]]) := by
      rw [hfx w2 (by rw [hR3.node]; rfl) (fun he => hR3.wne w2 he rfl)]; exact hR3.node
    have hagg : aggL y = [] := by rcases hx.2 with ⟨rfl, _⟩ | ⟨i, ver, L, rfl, _⟩ <;> rfl
    have st : stoA false 1 (.ptr w2 0 0 1) y G4 = some (.junk, [(w2, .mem 0 0 3 [[.d (.sl false (ints lost)), y, .d (.int .i64 f)]])]) := stoA_at hr2 (Nat.le_refl 0) rfl (show 1 < 3 by decide) hx.st.1 hx.st.2
    simp only [nilCk_ptr, ti76_f1, Nat.zero_add, optA_some, hagg, noRsA_nil, st, stepK_some, sets_cons, sets_nil', List.getD_cons_succ, List.getD_cons_zero, intA_add, hw]
    have hG4 : ∀ i o, G i = some o → ¬ rfoot w2 v2 i → G4 i = some o := fun i o hi hnf => by
      have := hle3 i o hi
      rw [hfx i (by rw [this]; rfl) (fun he => hnf (.inr he)), this]
    refine hX (sts.length - (j + 1)) _ _ (by omega) ⟨j + 1, y, by omega, rfl, rfl, ⟨set_self, ?_, by rw [List.length_take]; omega, fun t ht => h.ok t (List.mem_of_mem_take ht)⟩, fun i o hi => ?_, fun i hi => ?_⟩
    · rw [take_st hjl, hs, List.map_append]
      exact hx.keep fun i hi => set_ne (hx.ne hr2 (by simp [osz]) hi)
    · have hnf : ¬ rfoot w2 v2 i := fun hh => by have := hf i hh; rw [this] at hi; cases hi
      rw [set_ne (fun he => hnf (.inl he))]
      exact hG4 i o (hle i o hi) hnf
    · rcases hi with rfl | hi
      · exact hf _ (.inl rfl)
      · rcases hnx i hi with h2 | h2
        · exact hf i (.inr h2)
        · exact le_none hle (le_none hle3 h2)
  · have hjl : j = sts.length := by omega
    subst hjl
    rw [List.take_length] at hR
    simp only [List.getD_cons_succ, List.getD_cons_zero, nilCk_ptr, ti76_f1, Nat.zero_add, m1, h1.len, intA_lss, optA_some, Int.lt_irrefl, decide_false, ifA_f, ret1_ptr]
    exact ⟨G, le_refl', hk w2 v2 G hR hle hf⟩
end
end Go.Proofs.Ytadpakkenokilaa
/- Two buses that are in one state are the same. -/
set_option autoImplicit false
set_option maxRecDepth 100000
set_option linter.unusedVariables false
set_option linter.unusedSimpArgs false
set_option linter.unnecessarySimpa false
namespace Go.Proofs.Ytadpakkenokilaa
open Go Go.AM Go.Proofs
section
variable {H G : AHeap} {k w : Nat} {ln : Bool} {L lost : List Int} {sv v : AV} {ids : List Nat} {sts : List St} {f : Int} {K : AV → AHeap → Prop}
theorem slice_d {nl : Bool} {l : List Int} {n : Nat} (h : n ≤ l.length) : sliceA 1 (.d (.sl nl (ints l))) (some (.d (.int .i64 (n : Int)))) none none H = some (.d (.sl nl (ints (l.drop n)))) := by
  have e : bnd (some (AV.d (.int .i64 (n : Int)))) 0 = some n := by simp [bnd]
  have e2 : ∀ n, bnd none n = some n := fun _ => rfl
  simp only [sliceA, e, e2]
  rw [if_pos ⟨by rw [ints_len]; exact h, Nat.le_refl _, .inr (by cases l <;> rfl)⟩]
  have : (ints l).drop n = ints (l.drop n) := by simp only [ints, List.map_drop]
  rw [this, List.take_of_length_le (by rw [ints_len, ints_len, List.length_drop]; omega)]
/-- What is still lost. -/
def later (L : List Int) (f : Int) : List Int := L.drop (L.countP fun x => decide (x < f))
theorem later_c (h : BusAt H k ln L sv ids sts f) (hr : Rising L) (hl : L.length < 2 ^ 40) (hnl : ln = true → L = []) (hk : ∀ H', AHeap.le H H' → K (.d (.sl ln (ints (cm (later L f) (later L f).length)))) H') : CallsA Try.prog 53 [.ptr k 0 0 0] H K := by
  apply C53
  unfold S53
  have l1 : ldV false 1 (.ptr k 0 0 1) H = some (.d (.sl ln (ints L))) := ldV_at h.node rfl rfl
  have l3 : ldV false 1 (.ptr k 0 0 3) H = some (.d (.int .i64 f)) := ldV_at h.node rfl rfl
  have hc : (L.countP fun x => decide (x < f)) ≤ L.length := List.countP_le_length
  simp only [drA_true, nilCk_ptr, ti52_f1, ti52_f3, Nat.zero_add, l1, l3, optA_some, aggL_d, noRsA_nil, frzLK_d, frzLK_nil]
  refine ⟨_, search_c hr hl ⟨rfl, le_refl'⟩, ?_⟩
  simp only [extractA_0, extractA_1, optA_some, nilCk_ptr, ti52_f1, Nat.zero_add, l1, slice_d hc, frzLK_d, frzLK_nil]
  refine cloneM_c (l := later L f) (by unfold later; rw [List.length_drop]; omega) (fun h => by rw [later, hnl h]; rfl) fun v H' h1 h2 h3 h4 => ?_
  refine compact_c (H0 := H) (by unfold later; rw [List.length_drop]; omega) h1.own h3 ?_
  simp only [ret1_d]
  rw [h2]
  exact ⟨H, le_refl', hk H le_refl'⟩
theorem equal_c {n1 n2 : Bool} {l : List Int} (hl : l.length < 2 ^ 40) (hk : K (.d (.bool true)) H) : CallsA Try.prog 56 [.d (.sl n1 (ints l)), .d (.sl n2 (ints l))] H K := by
  apply C56
  unfold S56
  simp only [lenSl_d, optA_some, intA_neq, ints_len, ne_eq, not_true_eq_false, decide_false, ifA_f]
  refine loop_ind (fun r vs G => G = H ∧ ∃ j : Nat, j ≤ l.length ∧ r = l.length - j ∧ vs = [.d (.sl n1 (ints l)), .d (.sl n2 (ints l)), .d (.int .i64 l.length), .d (.int .i64 j)]) (n := l.length) ⟨rfl, 0, by omega, by omega, rfl⟩ ?_
  rintro X r vs G ⟨rfl, j, hj, rfl, rfl⟩ hX
  by_cases hjl : j < l.length
  · have hlt : (j : Int) < (l.length : Int) := by omega
    have hw : IntKind.i64.wrap ((j : Int) + 1) = ((j + 1 : Nat) : Int) := by rw [wrap_i64 (by omega) (by omega)]; omega
    simp only [List.getD_cons_succ, List.getD_cons_zero, intA_lss, optA_some, hlt, decide_true, ifA_t, drA_true, ixI hjl, ldI, intA_neq, ne_eq, not_true_eq_false, decide_false, ifA_f, intA_add, hw]
    exact hX (l.length - (j + 1)) _ _ (by omega) ⟨rfl, j + 1, by omega, rfl, rfl⟩
  · have hjl : j = l.length := by omega
    subst hjl
    simp only [List.getD_cons_succ, List.getD_cons_zero, intA_lss, optA_some, Int.lt_irrefl, decide_false, ifA_f, ret1_d]
    exact ⟨G, le_refl', hk⟩
theorem guesses_c {p q : Nat} {s : St} (hp : H p = some (sObj s)) (hq : H q = some (sObj s)) (ok : s.Ok) {n : Int} (hn : 0 ≤ n) (hk : ∀ H', AHeap.le H H' → K (.d (.bool true)) H') : CallsA Try.prog 73 [.ptr p 0 0 0, .ptr q 0 0 0, .d (.int .i64 n)] H K := by
  apply C73
  unfold S73
  simp only [drA_true, nilCk_ptr, ldS hp, ldS hq, optA_some]
  refine alloc_open fun u G1 hG1 hle1 hu => ?_
  refine alloc_open fun t G2 hG2 hle2 ht => ?_
  have hu2 := hle2 _ _ hG1
  have hut : u ≠ t := fun he => by rw [← he, hG1] at ht; cases ht
  have st1 : stoA true 6 (.ptr u 0 0 0) (.agg (St.cells s)) G2 = some (.junk, [(u, sObj s)]) := sto6 (l := sRow s) rfl hu2 rfl
  have st2 : stoA true 6 (.ptr t 0 0 0) (.agg (St.cells s)) (G2.set u (sObj s)) = some (.junk, [(t, sObj s)]) := sto6 (l := sRow s) rfl (by rw [set_ne (Ne.symm hut)]; exact hG2) rfl
  have nr : ∀ X : Prop, X → noRsA (aggL (.agg (St.cells s))) X := fun X h => by
    simp only [aggL_agg, St.cells, noRsA_cons, noRs_d, noRsA_nil, true_and]; exact h
  refine nr _ ?_
  simp only [st1, stepK_some, sets_cons, sets_nil']
  refine nr _ ?_
  simp only [st2, stepK_some, sets_cons, sets_nil']
  have hle : AHeap.le H ((G2.set u (sObj s)).set t (sObj s)) := le_set_own (le_set_own (le_trans' hle1 hle2) hu) (le_none hle1 ht)
  refine loop_ind (fun r vs G => ∃ (j : Nat) (s1 : St), j ≤ 254 ∧ r = 254 - j ∧ vs = [.d (.int .i64 n), .ptr u 0 0 0, .ptr t 0 0 0, .d (.int .i64 j)] ∧ AHeap.le H G ∧ G u = some (sObj s1) ∧ G t = some (sObj s1) ∧ s1.row.length < 2 ^ 40) (n := 254) ⟨0, s, by omega, rfl, rfl, hle, by rw [set_ne hut, set_self], set_self, ok.len⟩ ?_
  have uN : H u = none := hu
  have tN : H t = none := le_none hle1 ht
  clear hle st1 st2 hG2 hu2 hG1 ht hu hle1 hle2
  rintro X r vs G ⟨j, s1, hj, rfl, rfl, hle, hu, ht, hlen⟩ hX
  by_cases hjl : j < 254
  · have hlt : (j : Int) ≤ 253 := by omega
    have hw : IntKind.i64.wrap ((j : Int) + 1) = ((j + 1 : Nat) : Int) := by rw [wrap_i64 (by omega) (by omega)]; omega
    have s3 : stoA false 1 (.ptr u 0 0 3) (.d (.int .i64 (j : Int))) G = some (.junk, [(u, sObj { s1 with k := j })]) := stoA_at hu (Nat.le_refl 0) rfl (show 3 < 6 by decide) rfl rfl
    have s4 : stoA false 1 (.ptr t 0 0 3) (.d (.int .i64 (j : Int))) (G.set u (sObj { s1 with k := j })) = some (.junk, [(t, sObj { s1 with k := j })]) := stoA_at (l := [St.cells s1]) (cs := St.cells s1) (esz := 6) (fro := 0) (by rw [set_ne (Ne.symm hut)]; exact ht) (Nat.le_refl 0) rfl (show 3 < 6 by decide) rfl rfl
    simp only [List.getD_cons_succ, List.getD_cons_zero, intA_leq, optA_some, hlt, decide_true, ifA_t, ti68_f3, Nat.zero_add, s3, s4, stepK_some, sets_cons, sets_nil', frzLK_ptr, frzLK_nil]
    refine guess_c (s := { s1 with k := j }) (by rw [set_ne hut, set_self]) (by constructor <;> simp <;> omega) hlen ?_
    refine guess_c (s := { s1 with k := j }) set_self (by constructor <;> simp <;> omega) hlen ?_
    simp only [intA_neq, ne_eq, not_true_eq_false, decide_false, optA_some, ifA_f, intA_add, hw]
    exact hX (254 - (j + 1)) _ _ (by omega) ⟨j + 1, { s1 with k := j }, by omega, rfl, rfl, le_set_own (le_set_own hle uN) tN, by rw [set_ne hut, set_self], set_self, hlen⟩
  · have hjl : j = 254 := by omega
    subst hjl
    have hlt : ¬ (((254 : Nat) : Int) ≤ 253) := by omega
    simp only [List.getD_cons_succ, List.getD_cons_zero, intA_leq, optA_some, hlt, decide_false, ifA_f, intA_geq, decide_eq_true hn, ret1_d]
    exact ⟨G, le_refl', hk G hle⟩
theorem sameS_c {p q : Nat} {s : St} (hp : H p = some (sObj s)) (hq : H q = some (sObj s)) (ok : s.Ok) (hk : ∀ H', AHeap.le H H' → K (.d (.bool true)) H') : CallsA Try.prog 58 [.ptr p 0 0 0, .ptr q 0 0 0] H K := by
  apply C58
  unfold S58
  have a1 : ∀ i, H i = some (sObj s) → ldV false 1 (.ptr i 0 0 1) H = some (.d (.bool s.on)) := fun i h => ldV_at h rfl rfl
  have a2 : ∀ i, H i = some (sObj s) → ldV false 1 (.ptr i 0 0 2) H = some (.d (.int .i64 s.state)) := fun i h => ldV_at h rfl rfl
  have a3 : ∀ i, H i = some (sObj s) → ldV false 1 (.ptr i 0 0 3) H = some (.d (.int .i64 s.k)) := fun i h => ldV_at h rfl rfl
  have a4 : ∀ i, H i = some (sObj s) → ldV false 1 (.ptr i 0 0 4) H = some (.d (.int .i64 s.sent)) := fun i h => ldV_at h rfl rfl
  have a5 : ∀ i, H i = some (sObj s) → ldV false 1 (.ptr i 0 0 5) H = some (.d (.int .i64 s.node)) := fun i h => ldV_at h rfl rfl
  simp only [drA_true, nilCk_ptr, ti68_f1, ti68_f2, ti68_f3, ti68_f4, ti68_f5, Nat.zero_add, a1 p hp, a1 q hq, a2 p hp, a2 q hq, a3 p hp, a3 q hq, a4 p hp, a4 q hq, a5 p hp, a5 q hq, optA_some, boolA_neq, beq_self_eq_true, Bool.not_true, ifA_f, intA_neq, ne_eq, not_true_eq_false, decide_false, intA_eql, decide_true, ifA_t, ifA_ite, aggL_ptr, aggL_d, noRsA_nil, frzLK_ptr, frzLK_d, frzLK_nil]
  have fin : ∀ G, AHeap.le H G → retF [.d (.bool true)] G K := fun G h => by
    rw [ret1_d]; exact ⟨G, le_refl', hk G h⟩
  refine ite_oz (fun h1 => ?_) fun h1 => ite_oz (fun h2 => ?_) fun h2 => ?_
  · exact ⟨_, guesses_c hp hq ok ok.k.1 fun H' h => ⟨rfl, h⟩, fin H le_refl'⟩
  · exact ⟨_, guesses_c hp hq ok (Int.le_refl 0) fun H' h => ⟨rfl, h⟩, fin H le_refl'⟩
  · exact guesses_c hp hq ok (Int.le_refl 0) fun H' h => fin H' h
theorem callA_58 {args : List AV} : callA (CallsA Try.prog) pol57 (.func 58 [] []) args H K = frzLK args H (fun l H' => CallsA Try.prog 58 l H' K) := by
  show argsA pol57 58 ([] ++ args ++ []) H _ = _
  rw [List.nil_append, List.append_nil]
  rfl
theorem stas_c {sv2 : AV} {ids2 : List Nat} (h : Sts H sv ids sts) (h2 : Sts H sv2 ids2 sts) (hk : ∀ H', AHeap.le H H' → K (.d (.bool true)) H') : CallsA Try.prog 57 [sv, sv2, .func 58 [] []] H K := by
  apply C57
  unfold S57
  have hn := h.n40
  simp only [h.lenS, h2.lenS, optA_some, intA_neq, ne_eq, not_true_eq_false, decide_false, ifA_f]
  refine loop_ind (fun r vs G => AHeap.le H G ∧ ∃ j : Nat, j ≤ sts.length ∧ r = sts.length - j ∧ vs = [sv2, .func 58 [] [], sv, .d (.int .i64 sts.length), .d (.int .i64 j)]) (n := sts.length) ⟨le_refl', 0, by omega, by omega, rfl⟩ ?_
  rintro X r vs G ⟨hle, j, hj, rfl, rfl⟩ hX
  by_cases hjl : j < sts.length
  · have hlt : (j : Int) < (sts.length : Int) := by omega
    have hw : IntKind.i64.wrap ((j : Int) + 1) = ((j + 1 : Nat) : Int) := by rw [wrap_i64 (by omega) (by omega)]; omega
    have g1 := h.le hle
    have g2 := h2.le hle
    obtain ⟨p1, e1, e2⟩ := g1.ix hjl
    obtain ⟨p2, f1, f2⟩ := g2.ix hjl
    simp only [List.getD_cons_succ, List.getD_cons_zero, intA_lss, optA_some, hlt, decide_true, ifA_t, e1, e2, f1, f2, callA_58, frzLK_ptr, frzLK_nil]
    refine sameS_c (g1.obj j hjl) (g2.obj j hjl) (g1.okj hjl) fun H' hle' => ?_
    simp only [unA_not, Bool.not_true, optA_some, ifA_f, intA_add, hw]
    exact hX (sts.length - (j + 1)) _ _ (by omega) ⟨le_trans' hle hle', j + 1, by omega, rfl, rfl⟩
  · have hjl : j = sts.length := by omega
    subst hjl
    simp only [List.getD_cons_succ, List.getD_cons_zero, intA_lss, optA_some, Int.lt_irrefl, decide_false, ifA_f, ret1_d]
    exact ⟨G, le_refl', hk G hle⟩
theorem Same_c {k2 : Nat} {sv2 : AV} {ids2 : List Nat} (h : BusAt H k ln L sv ids sts f) (h2 : BusAt H k2 ln L sv2 ids2 sts f) (hr : Rising L) (hl : L.length < 2 ^ 40) (hnl : ln = true → L = []) (hk : ∀ H', AHeap.le H H' → K (.d (.bool true)) H') : CallsA Try.prog 27 [.ptr k 0 0 0, .ptr k2 0 0 0] H K := by
  apply C27j
  unfold S27j
  simp only [frzLK_ptr, frzLK_nil]
  refine none_c h ?_
  simp only [ifA_f]
  refine none_c h2 ?_
  have l3 : ldV false 1 (.ptr k 0 0 3) H = some (.d (.int .i64 f)) := ldV_at h.node rfl rfl
  have m3 : ldV false 1 (.ptr k2 0 0 3) H = some (.d (.int .i64 f)) := ldV_at h2.node rfl rfl
  have l2 : ∀ G, AHeap.le H G → ldV false 1 (.ptr k 0 0 2) G = some sv := fun G hh => ldV_at (hh _ _ h.node) rfl rfl
  have m2 : ∀ G, AHeap.le H G → ldV false 1 (.ptr k2 0 0 2) G = some sv2 := fun G hh => ldV_at (hh _ _ h2.node) rfl rfl
  simp only [ifA_f, drA_true, nilCk_ptr, ti52_f2, ti52_f3, Nat.zero_add, l3, m3, optA_some, intA_eql, decide_true, ifA_t]
  refine later_c h hr hl hnl fun H1 hle1 => ?_
  try simp only [frzLK_ptr, frzLK_nil]
  refine later_c (h2.le hle1) hr hl hnl fun H2 hle2 => ?_
  try simp only [frzLK_d, frzLK_nil]
  refine equal_c (by have := cm_len (l := later L f) (n := (later L f).length); unfold later at this ⊢; rw [List.length_drop] at this ⊢; omega) ?_
  have hle := le_trans' hle1 hle2
  simp only [ifA_t, nilCk_ptr, ti52_f2, Nat.zero_add, l2 H2 hle, m2 H2 hle, optA_some]
  refine stas_c (h.sts.le hle) (h2.sts.le hle) fun H3 hle3 => ?_
  rw [ret1_d]
  exact ⟨H3, le_refl', hk H3 (le_trans' hle hle3)⟩
end
/-- Two buses, each with the document's, beside each other. -/
structure Two (G : AHeap) (ln : Bool) (L lost : List Int) (k w : Nat) (sv : AV) (ids : List Nat) (v : AV) (s : List St × Int) (k2 w2 : Nat) (sv2 : AV) (ids2 : List Nat) (v2 : AV) (s2 : List St × Int) : Prop where
  a : Both G k w ln L lost sv ids v s.1 s.2
  b : Both G k2 w2 ln L lost sv2 ids2 v2 s2.1 s2.2
  dj : ∀ i, (foot k sv ids i ∨ rfoot w v i) → ¬ (foot k2 sv2 ids2 i ∨ rfoot w2 v2 i)
theorem Two.sym {G : AHeap} {ln : Bool} {L lost : List Int} {k w k2 w2 : Nat} {sv v sv2 v2 : AV} {ids ids2 : List Nat} {s s2 : List St × Int} (h : Two G ln L lost k w sv ids v s k2 w2 sv2 ids2 v2 s2) : Two G ln L lost k2 w2 sv2 ids2 v2 s2 k w sv ids v s :=
  ⟨h.b, h.a, fun i h1 h2 => h.dj i h2 h1⟩
theorem Both.keep {H G : AHeap} {k w : Nat} {ln : Bool} {L lost : List Int} {sv v : AV} {ids : List Nat} {sts : List St} {f : Int} (h : Both H k w ln L lost sv ids v sts f) (hk : ∀ i, (foot k sv ids i ∨ rfoot w v i) → G i = H i) : Both G k w ln L lost sv ids v sts f :=
  ⟨h.b.keep fun i hi => hk i (.inl hi), h.r.keep fun i hi => hk i (.inr hi), h.dj⟩
theorem Both.isS {H : AHeap} {k w : Nat} {ln : Bool} {L lost : List Int} {sv v : AV} {ids : List Nat} {sts : List St} {f : Int} (h : Both H k w ln L lost sv ids v sts f) {i : Nat} (hi : foot k sv ids i ∨ rfoot w v i) : (H i).isSome := by
  rcases hi with hi | hi
  · exact h.b.foot hi
  · exact h.r.foot hi
section
variable {H G : AHeap} {k w k2 w2 : Nat} {ln : Bool} {L lost : List Int} {sv v sv2 v2 : AV} {ids ids2 : List Nat} {s s2 : List St × Int} {K : AV → AHeap → Prop}
/-- A deed to the second one leaves the first one alone. -/
theorem Two.act (h : Two H ln L lost k w sv ids v s k2 w2 sv2 ids2 v2 s2) (hrs : Rising L) (hll : L.length < 2 ^ 40) (hll2 : lost.length < 2 ^ 40) (hlo : lostB L = lostB lost) (hf : 0 ≤ s2.2 ∧ s2.2 < 2 ^ 39) {a : Ac} (ok : a.Ok) (hl : a.row.length < 2 ^ 40)
    (hk : ∀ H' sv3 ids3 v3, Two H' ln L lost k w sv ids v s k2 w2 sv3 ids3 v3 (doS L a s2) → 0 ≤ (doS L a s2).2 ∧ (doS L a s2).2 ≤ s2.2 + 1640 → K (.d (.bool true)) H') : CallsA Try.prog 19 [.ptr k2 0 0 0, .ptr w2 0 0 0, a.av] H K := by
  refine doX_c h.b hrs hll hll2 hlo hf ok hl fun H' sv3 ids3 v3 h1 h2 h3 h4 => hk H' sv3 ids3 v3 ⟨h.a.keep fun i hi => ?_, h1, fun i hi hj => ?_⟩ h2
  · have := h.dj i hi
    exact h3 i (h.a.isS hi) (fun hh => this (.inl hh)) fun hh => this (.inr hh)
  · rcases h4 i hj with h5 | h5 | h5
    · exact h.dj i hi (.inl h5)
    · exact h.dj i hi (.inr h5)
    · have := h.a.isS hi; rw [h5] at this; cases this
/-- The state behind several deeds. -/
def runS (L : List Int) (l : List Ac) (s : List St × Int) : List St × Int := l.foldl (fun s a => doS L a s) s
theorem runS_take {l : List Ac} {j : Nat} {a : Ac} (h : l[j]? = some a) : runS L (l.take (j + 1)) s = doS L a (runS L (l.take j) s) := by
  obtain ⟨hj, rfl⟩ := List.getElem?_eq_some_iff.1 h
  rw [List.take_succ_eq_append_getElem hj]
  simp only [runS, List.foldl_append, List.foldl_cons, List.foldl_nil]
end
end Go.Proofs.Ytadpakkenokilaa
/- The law of copies of a bus. -/
set_option autoImplicit false
set_option maxRecDepth 100000
set_option linter.unusedVariables false
set_option linter.unusedSimpArgs false
set_option linter.unnecessarySimpa false
namespace Go.Proofs.Ytadpakkenokilaa
open Go Go.AM Go.Proofs
section
variable {H G : AHeap} {K : AV → AHeap → Prop}
theorem copies_law {nl0 nl nl3 : Bool} {zs : List Int} {l more : List Ac} (hnl : nl0 = true → zs = []) (hl : l.length < 2 ^ 62) (hok : ∀ a ∈ l, a.Ok) (hl3 : more.length < 2 ^ 62) (hok3 : ∀ a ∈ more, a.Ok) (hk : ∀ H', K (.d (.bool true)) H') : CallsA Try.prog 9 [.d (.sl nl0 (ints zs)), .d (.sl nl (l.map Ac.dats)), .d (.sl nl3 (more.map Ac.dats))] H K := by
  apply C9
  unfold S9
  simp only [frzLK_d, frzLK_nil]
  have aw : ∀ G, CallsA Try.prog 10 [] G fun v5 H6 => retF [v5] H6 K := fun G => awake_c fun H' => by simp only [go_sem]; exact ⟨_, le_refl', hk _⟩
  refine longG_c hl fun b hb => ?_
  cases b
  rotate_left
  · simp only [ifA_t, frzLK_nil]
    exact aw _
  obtain ⟨h300, hz300, h60⟩ := hb rfl
  simp only [ifA_f, frzLK_d, frzLK_nil]
  refine longG_c (zs := []) hl3 fun b hb3 => ?_
  cases b
  rotate_left
  · simp only [ifA_t, frzLK_nil]
    exact aw _
  obtain ⟨g300, _, g60⟩ := hb3 rfl
  simp only [ifA_f, frzLK_d, frzLK_nil]
  refine newLost_c hnl (by omega) fun k H1 hB hle hk1 => ?_
  try simp only [frzLK_d, frzLK_nil]
  refine newRefL_c (by omega) fun w H2 hR hle2 hwn => ?_
  have hrs : Rising (srtI zs) := srtI_rising
  have hll : (srtI zs).length < 2 ^ 40 := by rw [srtI_len]; omega
  have hll2 : zs.length < 2 ^ 40 := by omega
  have hlo := srtI_lost (zs := zs)
  have hln : zs.isEmpty = true → srtI zs = [] := fun h => by
    have : zs = [] := by simpa using h
    subst this; exact List.eq_nil_of_length_eq_zero (by rw [srtI_len]; rfl)
  have hboth : Both H2 k w zs.isEmpty (srtI zs) zs (.d (.sl true [])) [] (.d (.sl true [])) (([], 0) : List St × Int).1 (([], 0) : List St × Int).2 := ⟨hB.le hle2, hR, fun i hi hh => by
    rcases hi with rfl | hi
    · have := hB.foot hh; rw [hwn] at this; cases this
    · cases hi⟩
  generalize srtI zs = L at *
  generalize zs.isEmpty = ln at *
  -- the deeds to the first one
  refine loop_ind (fun n vs G => ∃ (j : Nat) (sv : AV) (ids : List Nat) (v : AV) (s : List St × Int), j ≤ l.length ∧ n = l.length - j ∧ vs = [.d (.sl nl (l.map Ac.dats)), .d (.sl nl3 (more.map Ac.dats)), .ptr k 0 0 0, .ptr w 0 0 0, .d (.int .i64 (j : Int)), .junk, .junk, .junk, .junk] ∧ Both G k w ln L zs sv ids v s.1 s.2 ∧ 0 ≤ s.2 ∧ s.2 ≤ 1640 * (j : Int)) (n := l.length) ⟨0, _, _, _, ([], 0), Nat.zero_le _, rfl, rfl, hboth, Int.le_refl _, by simp⟩ ?_
  rintro X n vs G ⟨j, sv, ids, v, s, hj, rfl, rfl, hG, hf0, hf1⟩ hX
  by_cases hjl : j < l.length
  · have hlt : (j : Int) < (l.length : Int) := by omega
    obtain ⟨a, ha⟩ : ∃ a, l[j]? = some a := ⟨_, List.getElem?_eq_getElem (by omega)⟩
    have ham := List.mem_of_getElem? ha
    have hw : IntKind.i64.wrap ((j : Int) + 1) = ((j + 1 : Nat) : Int) := by rw [wrap_i64 (by omega) (by omega)]; omega
    have ra : ldV true 3 (.vptr a.dats 0) G = some a.av := rfl
    simp only [List.getD_cons_succ, List.getD_cons_zero, lenSl_d, List.length_map, optA_some, intA_lss, hlt, decide_true, ifA_t, ix36 ha, ra, frzLK_ptr, frzLK_Ac, frzLK_nil]
    refine doX_c hG hrs hll hll2 hlo ⟨hf0, by omega⟩ (hok a ham) (by have := h60 a ham; omega) fun G3 sv3 ids3 v3 hB3 hf3 _ _ => ?_
    simp only [optA_some, intA_add, hw]
    exact hX (l.length - (j + 1)) _ _ (by omega) ⟨j + 1, sv3, ids3, v3, doS L a (s.1, s.2), by omega, rfl, rfl, hB3, hf3.1, by omega⟩
  have hjl : j = l.length := by omega
  subst hjl
  clear hX hboth hB hR hle hle2
  simp only [List.getD_cons_succ, List.getD_cons_zero, lenSl_d, List.length_map, optA_some, intA_lss, Int.lt_irrefl, decide_false, ifA_f, frzLK_ptr, frzLK_nil]
  -- the copies
  refine copy_c hG.b fun k2 sv2 ids2 G1 hB2 hle1 hfr1 => ?_
  try simp only [frzLK_ptr, frzLK_nil]
  refine rcopy_c (hG.r.le hle1) hll2 fun w2 v2 G2 hR2 hle2 hfr2 => ?_
  try simp only [frzLK_ptr, frzLK_nil]
  have hle12 := le_trans' hle1 hle2
  have two : Two G2 ln L zs k w sv ids v s k2 w2 sv2 ids2 v2 s := by
    refine ⟨hG.le hle12, ⟨hB2.le hle2, hR2, fun i hi hh => ?_⟩, fun i hi hj => ?_⟩
    · have := hB2.foot hh; rw [hfr2 i hi] at this; cases this
    · have h1 := hG.isS hi
      rcases hj with hj | hj
      · rw [hfr1 i hj] at h1; cases h1
      · rw [le_none hle1 (hfr2 i hj)] at h1; cases h1
  refine Same_c two.a.b two.b.b hrs hll hln fun G3 hle3 => ?_
  have two : Two G3 ln L zs k w sv ids v s k2 w2 sv2 ids2 v2 s := ⟨two.a.le hle3, two.b.le hle3, two.dj⟩
  simp only [unA_not, Bool.not_true, optA_some, ifA_f]
  clear hG hB2 hR2 hfr1 hfr2 hle1 hle2 hle12 hle3
  obtain ⟨B, hB⟩ : ∃ B : Int, B = 1640 * (l.length : Int) := ⟨_, rfl⟩
  have hB1 : B ≤ 492000 := by omega
  rw [← hB] at hf1
  -- the deeds to the copy
  refine loop_ind (fun n vs G => ∃ (j : Nat) (sv2 : AV) (ids2 : List Nat) (v2 : AV), j ≤ more.length ∧ n = more.length - j ∧ vs = [.d (.sl nl (l.map Ac.dats)), .d (.sl nl3 (more.map Ac.dats)), .ptr k 0 0 0, .ptr w 0 0 0, .d (.int .i64 (l.length : Int)), .ptr k2 0 0 0, .ptr w2 0 0 0, .d (.int .i64 (j : Int)), .junk] ∧ Two G ln L zs k w sv ids v s k2 w2 sv2 ids2 v2 (runS L (more.take j) s) ∧ 0 ≤ (runS L (more.take j) s).2 ∧ (runS L (more.take j) s).2 ≤ B + 1640 * (j : Int)) (n := more.length) ⟨0, _, _, _, Nat.zero_le _, rfl, rfl, two, hf0, by simpa [runS] using hf1⟩ ?_
  clear two
  rintro X n vs G4 ⟨j, sv2, ids2, v2, hj, rfl, rfl, two, hq0, hq1⟩ hX
  by_cases hjl : j < more.length
  · have hlt : (j : Int) < (more.length : Int) := by omega
    obtain ⟨a, ha⟩ : ∃ a, more[j]? = some a := ⟨_, List.getElem?_eq_getElem (by omega)⟩
    have ham := List.mem_of_getElem? ha
    have hw : IntKind.i64.wrap ((j : Int) + 1) = ((j + 1 : Nat) : Int) := by rw [wrap_i64 (by omega) (by omega)]; omega
    have ra : ldV true 3 (.vptr a.dats 0) G4 = some a.av := rfl
    simp only [List.getD_cons_succ, List.getD_cons_zero, lenSl_d, List.length_map, optA_some, intA_lss, hlt, decide_true, ifA_t, ix36 ha, ra, frzLK_ptr, frzLK_Ac, frzLK_nil]
    refine two.act hrs hll hll2 hlo ⟨hq0, by omega⟩ (hok3 a ham) (by have := g60 a ham; omega) fun G5 sv3 ids3 v3 two3 hf3 => ?_
    simp only [unA_not, Bool.not_true, optA_some, ifA_f, intA_add, hw]
    refine hX (more.length - (j + 1)) _ _ (by omega) ⟨j + 1, sv3, ids3, v3, by omega, rfl, rfl, ?_, ?_, ?_⟩
    · rw [runS_take ha]; exact two3
    · rw [runS_take ha]; exact hf3.1
    · rw [runS_take ha]; omega
  have hjl : j = more.length := by omega
  subst hjl
  clear hX
  rw [List.take_length] at two hq0 hq1
  simp only [List.getD_cons_succ, List.getD_cons_zero, lenSl_d, List.length_map, optA_some, intA_lss, Int.lt_irrefl, decide_false, ifA_f, frzLK_ptr, frzLK_nil]
  refine same_c two.a.b two.a.r ?_
  simp only [unA_not, Bool.not_true, optA_some, ifA_f, frzLK_ptr, frzLK_nil]
  refine same_c two.b.b two.b.r ?_
  simp only [unA_not, Bool.not_true, optA_some, ifA_f, frzLK_ptr, frzLK_nil]
  -- and to the first one
  refine loop_ind (fun n vs G => ∃ (j : Nat) (sv : AV) (ids : List Nat) (v : AV), j ≤ more.length ∧ n = more.length - j ∧ vs = [.d (.sl nl (l.map Ac.dats)), .d (.sl nl3 (more.map Ac.dats)), .ptr k 0 0 0, .ptr w 0 0 0, .d (.int .i64 (l.length : Int)), .ptr k2 0 0 0, .ptr w2 0 0 0, .d (.int .i64 (more.length : Int)), .d (.int .i64 (j : Int))] ∧ Two G ln L zs k2 w2 sv2 ids2 v2 (runS L more s) k w sv ids v (runS L (more.take j) s) ∧ 0 ≤ (runS L (more.take j) s).2 ∧ (runS L (more.take j) s).2 ≤ B + 1640 * (j : Int)) (n := more.length) ⟨0, _, _, _, Nat.zero_le _, rfl, rfl, two.sym, hf0, by simpa [runS] using hf1⟩ ?_
  clear two
  rintro X n vs G6 ⟨j, sv, ids, v, hj, rfl, rfl, two, hp0, hp1⟩ hX
  by_cases hjl : j < more.length
  · have hlt : (j : Int) < (more.length : Int) := by omega
    obtain ⟨a, ha⟩ : ∃ a, more[j]? = some a := ⟨_, List.getElem?_eq_getElem (by omega)⟩
    have ham := List.mem_of_getElem? ha
    have hw : IntKind.i64.wrap ((j : Int) + 1) = ((j + 1 : Nat) : Int) := by rw [wrap_i64 (by omega) (by omega)]; omega
    have ra : ldV true 3 (.vptr a.dats 0) G6 = some a.av := rfl
    simp only [List.getD_cons_succ, List.getD_cons_zero, lenSl_d, List.length_map, optA_some, intA_lss, hlt, decide_true, ifA_t, ix36 ha, ra, frzLK_ptr, frzLK_Ac, frzLK_nil]
    refine two.act hrs hll hll2 hlo ⟨hp0, by omega⟩ (hok3 a ham) (by have := g60 a ham; omega) fun G5 sv3 ids3 v3 two3 hf3 => ?_
    simp only [optA_some, intA_add, hw]
    refine hX (more.length - (j + 1)) _ _ (by omega) ⟨j + 1, sv3, ids3, v3, by omega, rfl, rfl, ?_, ?_, ?_⟩
    · rw [runS_take ha]; exact two3
    · rw [runS_take ha]; exact hf3.1
    · rw [runS_take ha]; omega
  have hjl : j = more.length := by omega
  subst hjl
  rw [List.take_length] at two
  simp only [List.getD_cons_succ, List.getD_cons_zero, lenSl_d, List.length_map, optA_some, intA_lss, Int.lt_irrefl, decide_false, ifA_f, frzLK_ptr, frzLK_nil]
  refine Same_c two.b.b two.a.b hrs hll hln fun G7 _ => ?_
  simp only [ifA_t, frzLK_nil]
  exact aw _
theorem copies_row (xs : List Dat) (h : DatOk Try.prog 9 22 xs) (ys : List Dat) (h2 : DatOk Try.prog 9 36 ys) (zs : List Dat) (h3 : DatOk Try.prog 9 36 zs) : CallsA Try.prog 9 [argAV (aggT Try.prog 22) xs, argAV (aggT Try.prog 36) ys, argAV (aggT Try.prog 36) zs] noHeap fun v _ => v = .d (.bool true) := by
  obtain ⟨nl, ls, e, hnl⟩ := lost_open h
  rw [e]
  rw [datOk_slice Try.underlying36] at h2 h3
  obtain ⟨nl2, l, rfl, _, hl, hlen⟩ := h2
  obtain ⟨nl3, m, rfl, _, hm, hlen3⟩ := h3
  have hb := acs_len (nl := nl2) hlen
  have hb3 := acs_len (nl := nl3) hlen3
  obtain ⟨acs, rfl, hz⟩ := acs_open hl
  obtain ⟨acs3, rfl, hz3⟩ := acs_open hm
  rw [List.length_map] at hb hb3
  rw [show aggT Try.prog 36 = false by kernel_rfl]
  exact copies_law hnl hb hz hb3 hz3 fun _ => rfl
end
end Go.Proofs.Ytadpakkenokilaa

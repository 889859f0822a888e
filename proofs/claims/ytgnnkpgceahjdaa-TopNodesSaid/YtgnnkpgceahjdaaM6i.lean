/- Two kinds of links: the law TopNodes. -/
import Derived.Test.YtgnnkpgceahjdaaM6h
set_option autoImplicit false
set_option maxRecDepth 100000
set_option linter.unusedVariables false
set_option linter.unusedSimpArgs false
set_option linter.unnecessarySimpa false
namespace Go.Proofs.Ytgnnkpgceahjdaa
section
open Go Go.AM Go.Proofs
/-- A deed to a bus. -/
structure Ac where
  do_ : Int
  st : Int
  rn : Bool
  row : List Int
abbrev Ac.dats (a : Ac) : List Dat := [.int .i64 a.do_, .int .i64 a.st, .sl a.rn (ints a.row)]
abbrev Ac.cells (a : Ac) : List AV := [.d (.int .i64 a.do_), .d (.int .i64 a.st), .d (.sl a.rn (ints a.row))]
abbrev Ac.av (a : Ac) : AV := .agg a.cells
structure Ac.Ok (a : Ac) : Prop where
  wf : ∀ x ∈ a.row, -9223372036854775808 ≤ x ∧ x ≤ 9223372036854775807
  nl : a.rn = true → a.row = []
section
variable {H G : AHeap} {k w : Nat} {sv : AV} {ids : List Nat} {sts : List St} {f : Int} {K : AV → AHeap → Prop}
theorem frzLK_Ac {a : Ac} {l : List AV} {K : List AV → AHeap → Prop} : frzLK (a.av :: l) H K = frzLK l H fun l' H' => K (a.av :: l') H' := by
  unfold frzLK
  simp only [frzAL, frzA, frzL, frz, AHeap.sets, List.append_nil]
  cases frzAL l H <;> rfl
theorem ix36 {nl : Bool} {l : List Ac} {j : Nat} {a : Ac} (h : l[j]? = some a) : indexAddrA ti60 3 (.d (.sl nl (l.map Ac.dats))) (.d (.int .i64 (j : Int))) = some (.vptr a.dats 0) := by
  have h1 : (l.map Ac.dats)[j]? = some a.dats := by rw [List.getElem?_map, h]; rfl
  simp only [indexAddrA, ti60, Int.natCast_nonneg, if_true, Int.toNat_natCast, h1, List.length_cons, List.length_nil, Nat.zero_add, Nat.reduceAdd]
theorem ints_open {l : List (List Dat)} (h : ∀ c ∈ l, ∃ i, c = [Dat.int .i64 i] ∧ (Lit.int .i64 i).wf = true) : ∃ zs : List Int, l = ints zs ∧ ∀ x ∈ zs, -9223372036854775808 ≤ x ∧ x ≤ 9223372036854775807 := by
  induction l with
  | nil => exact ⟨[], rfl, by simp⟩
  | cons c l ih =>
    obtain ⟨i, rfl, hw⟩ := h c (by simp)
    obtain ⟨zs, rfl, has⟩ := ih fun x hx => h x (by simp [hx])
    refine ⟨i :: zs, rfl, fun x hx => ?_⟩
    rcases List.mem_cons.1 hx with rfl | hx
    · simp only [Lit.wf, Bool.and_eq_true, decide_eq_true_eq] at hw
      exact ⟨Int.le_trans (by decide) hw.1, Int.le_trans hw.2 (by decide)⟩
    · exact has x hx
theorem ac_open {ys : List Dat} (h : DatOk Try.prog 8 70 ys) : ∃ a : Ac, ys = a.dats ∧ a.Ok := by
  rw [datOk_struct Try.underlying70] at h
  simp only [datFs_cons, datFs_nil] at h
  obtain ⟨x0, y0, rfl, h0, x1, y1, rfl, h1, x2, y2, rfl, h2, rfl⟩ := h
  simp only [datOk_int Try.underlying3, datOk_slice Try.underlying55] at h0 h1 h2
  obtain ⟨a0, rfl, _⟩ := h0
  obtain ⟨a1, rfl, _⟩ := h1
  obtain ⟨nl, l, rfl, hnl, hl, _⟩ := h2
  obtain ⟨zs, rfl, hz⟩ := ints_open hl
  refine ⟨⟨a0, a1, nl, zs⟩, rfl, hz, fun h => ?_⟩
  have := hnl h
  cases zs with
  | nil => rfl
  | cons b r => cases this
theorem acs_open {l : List (List Dat)} (h : ∀ c ∈ l, DatOk Try.prog 8 70 c) : ∃ zs : List Ac, l = zs.map Ac.dats ∧ ∀ a ∈ zs, a.Ok := by
  induction l with
  | nil => exact ⟨[], rfl, by simp⟩
  | cons c l ih =>
    obtain ⟨a, rfl, ha⟩ := ac_open (h c (by simp))
    obtain ⟨zs, rfl, has⟩ := ih fun x hx => h x (by simp [hx])
    exact ⟨a :: zs, rfl, fun x hx => by
      rcases List.mem_cons.1 hx with rfl | hx
      · exact ha
      · exact has x hx⟩
theorem acs_len {nl : Bool} {l : List (List Dat)} (hlen : l.length * Try.prog.bytesOf 70 ≤ reachBytes) : l.length < 2 ^ 62 := by
  have : Nat.ble 1 (Try.prog.bytesOf 70) = true := by kernel_rfl
  have := Nat.le_of_ble_eq_true this
  have h3 : l.length * 1 ≤ l.length * Try.prog.bytesOf 70 := Nat.mul_le_mul_left _ this
  unfold reachBytes at hlen
  omega
end

end
section
open Go Go.AM Go.Proofs
/-- How far those that guess have come. -/
def Far (sts : List St) (t : Int) : Prop := ∀ j, j < sts.length → (sts.getD j default).state = 1 → t ≤ 8 * (sts.getD j default).k + (sts.getD j default).sent
theorem step_at {lost : Int → Bool} {sts : List St} {f : Int} {j : Nat} (hj : j < sts.length) : ∃ a, ((step lost sts f).1).getD j default = if (sts.getD j default).state = 1 then (sts.getD j default).fin a else sts.getD j default := by
  unfold step
  simp only
  rw [finS_at askS_nodup fun i hi => (askS_mem.1 hi).1]
  have hm : j ∈ askS sts sts.length ↔ (sts.getD j default).state = 1 := askS_mem.trans ⟨fun h => h.2, fun h => ⟨hj, h⟩⟩
  simp only [hm]
  exact ⟨_, rfl⟩
theorem Far.stp {lost : Int → Bool} {sts : List St} {t f : Int} (h : Far sts t) (ok : ∀ s ∈ sts, s.Ok) : Far (step lost sts f).1 (t + 1) := by
  intro j hj h1
  rw [step_len] at hj
  obtain ⟨a, ha⟩ := step_at (lost := lost) (f := f) hj
  rw [ha] at h1 ⊢
  have okj : (sts.getD j default).Ok := by
    rw [List.getD_eq_getElem?_getD, List.getElem?_eq_getElem hj]
    exact ok _ (List.getElem_mem hj)
  have hfar := h j hj
  generalize sts.getD j default = s at *
  split at h1
  · rename_i hs
    rw [if_pos hs]
    have hgo := okj.go hs
    have hfs := hfar hs
    unfold St.fin at h1 ⊢
    cases a
    · simp only [Bool.false_eq_true, if_false] at h1 ⊢
      split at h1
      · cases h1
      · rename_i h8
        rw [if_neg h8]
        simp only
        omega
    · simp only [if_true] at h1 ⊢
      omega
  · rename_i hs
    exact absurd h1 hs
theorem Far.quiet {sts : List St} {t : Int} (h : Far sts t) (ht : 2024 ≤ t) (ok : ∀ s ∈ sts, s.Ok) : quietB sts = true := by
  rw [quietB_lt]
  intro j hj h1
  have okj : (sts.getD j default).Ok := by
    rw [List.getD_eq_getElem?_getD, List.getElem?_eq_getElem hj]
    exact ok _ (List.getElem_mem hj)
  have := okj.go h1
  have := h j hj h1
  omega
section
variable {H G : AHeap} {K : AV → AHeap → Prop}
abbrev rowD (r : Bool × List Int) : List Dat := [.sl r.1 (ints r.2)]
theorem ix23 {nl : Bool} {l : List (Bool × List Int)} {j : Nat} {r : Bool × List Int} (h : l[j]? = some r) : indexAddrA ti44 1 (.d (.sl nl (l.map rowD))) (.d (.int .i64 (j : Int))) = some (.vptr (rowD r) 0) := by
  have h1 : (l.map rowD)[j]? = some (rowD r) := by rw [List.getElem?_map, h]; rfl
  simp only [indexAddrA, ti44, Int.natCast_nonneg, if_true, Int.toNat_natCast, h1, List.length_cons, List.length_nil, Nat.zero_add, Nat.reduceAdd]
structure RowOk (r : Bool × List Int) : Prop where
  wf : ∀ x ∈ r.2, -9223372036854775808 ≤ x ∧ x ≤ 9223372036854775807
  nl : r.1 = true → r.2 = []
theorem row_open {c : List Dat} (h : DatOk Try.prog 8 55 c) : ∃ r, c = rowD r ∧ RowOk r := by
  rw [datOk_slice Try.underlying55] at h
  obtain ⟨nl, l, rfl, hnl, hl, _⟩ := h
  simp only [datOk_int Try.underlying3] at hl
  obtain ⟨zs, rfl, hz⟩ := ints_open hl
  refine ⟨(nl, zs), rfl, hz, fun h => ?_⟩
  have := hnl h
  cases zs with
  | nil => rfl
  | cons b r => cases this
theorem rows_open {l : List (List Dat)} (h : ∀ c ∈ l, DatOk Try.prog 8 55 c) : ∃ zs : List (Bool × List Int), l = zs.map rowD ∧ ∀ r ∈ zs, RowOk r := by
  induction l with
  | nil => exact ⟨[], rfl, by simp⟩
  | cons c l ih =>
    obtain ⟨a, rfl, ha⟩ := row_open (h c (by simp))
    obtain ⟨zs, rfl, has⟩ := ih fun x hx => h x (by simp [hx])
    exact ⟨a :: zs, rfl, fun x hx => by
      rcases List.mem_cons.1 hx with rfl | hx
      · exact ha
      · exact has x hx⟩
end

end
section
open Go Go.AM Go.Proofs
theorem lost_nil : lostB [] = never := by funext f; simp [lostB, never]
structure Two (G : AHeap) (k : Nat) (sv : AV) (ids : List Nat) (sts : List St) (f : Int) (w : Nat) (sv2 : AV) (ids2 : List Nat) (ps : List Pt) (g : Int) : Prop where
  b : BusAt G k true [] sv ids sts f
  l : LinkAt G w sv2 ids2 ps g
  dj : ∀ i, foot k sv ids i → ¬ foot w sv2 ids2 i
  al : Alone sts
  pa : PAlone ps
variable {H G G' : AHeap} {k w : Nat} {sv sv2 : AV} {ids ids2 : List Nat} {sts : List St} {ps : List Pt} {f g : Int} {K : AV → AHeap → Prop}
theorem Two.le (h : Two G k sv ids sts f w sv2 ids2 ps g) (hle : AHeap.le G G') : Two G' k sv ids sts f w sv2 ids2 ps g := ⟨h.b.le hle, h.l.le hle, h.dj, h.al, h.pa⟩
theorem Two.bus (h : Two G k sv ids sts f w sv2 ids2 ps g) {sv' : AV} {ids' : List Nat} {sts' : List St} {f' : Int} (hb : BusAt G' k true [] sv' ids' sts' f') (ha : Alone sts') (fr : ∀ i, (G i).isSome → ¬ foot k sv ids i → G' i = G i) (gr : ∀ i, foot k sv' ids' i → foot k sv ids i ∨ G i = none) : Two G' k sv' ids' sts' f' w sv2 ids2 ps g :=
  ⟨hb, h.l.keep fun i hi => fr i (h.l.foot hi) fun hh => h.dj i hh hi, (fun i hi hh => by
    rcases gr i hi with h1 | h1
    · exact h.dj i h1 hh
    · have := h.l.foot hh; rw [h1] at this; cases this), ha, h.pa⟩
theorem Two.link (h : Two G k sv ids sts f w sv2 ids2 ps g) {sv' : AV} {ids' : List Nat} {ps' : List Pt} {g' : Int} (hb : LinkAt G' w sv' ids' ps' g') (ha : PAlone ps') (fr : ∀ i, (G i).isSome → ¬ foot w sv2 ids2 i → G' i = G i) (gr : ∀ i, foot w sv' ids' i → foot w sv2 ids2 i ∨ G i = none) : Two G' k sv ids sts f w sv' ids' ps' g' :=
  ⟨h.b.keep fun i hi => fr i (h.b.foot hi) (h.dj i hi), hb, (fun i hi hh => by
    rcases gr i hh with h1 | h1
    · exact h.dj i hi h1
    · have := h.b.foot hi; rw [h1] at this; cases this), h.al, ha⟩
theorem deed_c (hh : Two H k sv ids sts f w sv2 ids2 ps g) (hf : 0 ≤ f ∧ f < 2 ^ 39) {a : Ac} (hk : ∀ G' sts' f' ps' g', Two G' k sv ids sts' f' w sv2 ids2 ps' g' → 0 ≤ f' ∧ f' ≤ f + 1640 → K (.tup []) G') : CallsA Try.prog 28 [.ptr k 0 0 0, .ptr w 0 0 0, a.av] H K := by
  apply C28
  unfold S28
  refine box_open rfl fun u G hG hle hu => ?_
  have hG : G u = some (.mem 0 0 3 [a.cells]) := hG
  have l0 : ∀ G', G' u = some (.mem 0 0 3 [a.cells]) → ldV false 1 (.ptr u 0 0 0) G' = some (.d (.int .i64 a.do_)) := fun G' hh => ldV_at hh rfl rfl
  have l1 : ∀ G', G' u = some (.mem 0 0 3 [a.cells]) → ldV false 1 (.ptr u 0 0 1) G' = some (.d (.int .i64 a.st)) := fun G' hh => ldV_at hh rfl rfl
  have hT := hh.le hle
  have huf : ¬ foot k sv ids u := fun h1 => by have := hh.b.foot h1; rw [hu] at this; cases this
  have hn := hh.b.sts.n40
  have f0 : 0 ≤ f ∧ f ≤ f + 1640 := by omega
  have fin : ∀ G' sts' f' ps' g', Two G' k sv ids sts' f' w sv2 ids2 ps' g' → 0 ≤ f' ∧ f' ≤ f + 1640 → retF [] G' K := fun G' sts' f' ps' g' h1 h2 => by
    simp only [go_sem]
    exact ⟨_, le_refl', hk G' sts' f' ps' g' h1 h2⟩
  have inl : ∀ i, foot k sv ids i → foot k sv ids i ∨ G i = none := fun i hi => .inl hi
  have tn : ∀ (b : Bool) (X : AV → AHeap → Prop), (∀ (n : Int) G' sts', Two G' k sv ids sts' f w sv2 ids2 ps g → G' u = some (.mem 0 0 3 [a.cells]) → X (.d (.int .i64 n)) G') → CallsA Try.prog 79 [.ptr k 0 0 0, .d (.int .i64 a.st), .d (.bool b)] G X := fun b X hX =>
    Turn_c hT.b (fun _ => hX 2 G sts hT hG) fun j hj _ G3 hB3 hfr => hX 0 G3 _ (hT.bus hB3 (hT.al.set hj turn_2) (fun i _ hi => hfr i hi) inl) ((hfr u huf).trans hG)
  have gs : ∀ (X : AV → AHeap → Prop), (∀ (n : Int) G' sts', Two G' k sv ids sts' f w sv2 ids2 ps g → G' u = some (.mem 0 0 3 [a.cells]) → X (.d (.int .i64 n)) G') → CallsA Try.prog 72 [.ptr k 0 0 0, .d (.int .i64 a.st)] G X := fun X hX =>
    GuessAny_c hT.b (fun n => hX n G sts hT hG) fun j hj _ G3 hB3 hfr => hX 0 G3 _ (hT.bus hB3 (hT.al.set hj (by
      unfold St.begin
      split
      · exact .inl rfl
      · exact .inr (by simp))) (fun i _ hi => hfr i hi) inl) ((hfr u huf).trans hG)
  have A : CallsA Try.prog 72 [.ptr k 0 0 0, .d (.int .i64 a.st)] G fun v9 H10 => optA (ldV false 1 (.ptr u 0 0 1) H10) fun v14 => frzLK [.ptr w 0 0 0, v14] H10 fun l17 H18 => CallsA Try.prog 78 l17 H18 fun v15 H16 => retF [] H16 K := by
    refine gs _ fun n G3 sts3 hT3 hu3 => ?_
    simp only [l1 G3 hu3, optA_some, frzLK_ptr, frzLK_d, frzLK_nil]
    exact Probe_c hT3.l hT3.pa fun n2 G4 ps4 hL4 hA4 hfr4 => fin _ _ _ _ _ (hT3.link hL4 hA4 (fun i _ hi => hfr4 i hi) fun i hi => .inl hi) f0
  have B : CallsA Try.prog 79 [.ptr k 0 0 0, .d (.int .i64 a.st), .d (.bool true)] G fun v22 H23 => retF [] H23 K := tn true _ fun n G3 sts3 hT3 hu3 => fin _ _ _ _ _ hT3 f0
  have C : CallsA Try.prog 79 [.ptr k 0 0 0, .d (.int .i64 a.st), .d (.bool false)] G fun v29 H30 => optA (ldV false 1 (.ptr u 0 0 1) H30) fun v34 => frzLK [.ptr w 0 0 0, v34] H30 fun l37 H38 => CallsA Try.prog 80 l37 H38 fun v35 H36 => retF [] H36 K := by
    refine tn false _ fun n G3 sts3 hT3 hu3 => ?_
    simp only [l1 G3 hu3, optA_some, frzLK_ptr, frzLK_d, frzLK_nil]
    exact Leave_c hT3.l hT3.pa fun n2 G4 ps4 hL4 hA4 hfr4 => fin _ _ _ _ _ (hT3.link hL4 hA4 (fun i _ hi => hfr4 i hi) fun i hi => .inl hi) f0
  have D : CallsA Try.prog 32 [.ptr k 0 0 0] G fun v39 H40 => frzLK [.ptr w 0 0 0] H40 fun l45 H46 => CallsA Try.prog 81 l45 H46 fun v43 H44 => retF [] H44 K := by
    refine Step_c hT.b List.Pairwise.nil (by simp) hf fun G3 hB4 hfr => ?_
    rw [lost_nil] at hB4
    have hs := step_f (lost := never) (sts := sts) (f := f) hn
    have hT3 := hT.bus hB4 (hT.al.stp hT.b.sts.ok) hfr inl
    simp only [frzLK_ptr, frzLK_nil]
    exact pStep_c hT3.l fun G4 ps4 g4 hL4 hS4 hfr4 => fin _ _ _ _ _ (hT3.link hL4 (hT3.pa.stp hS4) hfr4 fun i hi => .inl hi) (by omega)
  simp only [frzLK_ptr, frzLK_d, frzLK_nil] at A C D
  simp only [ti70_f0, ti70_f1, Nat.zero_add, l0 G hG, l1 G hG, optA_some, intA_eql, ifA_ite, frzLK_ptr, frzLK_d, frzLK_nil]
  have rest : if a.do_ = 1 then _ else if a.do_ = 2 then _ else _ := ite_of (fun _ => B) fun _ => ite_of (fun _ => C) fun _ => D
  exact ite_of (fun h0 => ite_of (fun _ => A) fun _ => rest) fun h0 => ite_of (fun h3 => A) fun h3 => rest
theorem ix60 {nl : Bool} {l : List Ac} {j : Nat} {a : Ac} (h : l[j]? = some a) : indexAddrA ti60 3 (.d (.sl nl (l.map Ac.dats))) (.d (.int .i64 (j : Int))) = some (.vptr a.dats 0) := by
  have h1 : (l.map Ac.dats)[j]? = some a.dats := by rw [List.getElem?_map, h]; rfl
  simp only [indexAddrA, ti60, Int.natCast_nonneg, if_true, Int.toNat_natCast, h1, List.length_cons, List.length_nil, Nat.zero_add, Nat.reduceAdd]
theorem nodes_law {nl nl2 : Bool} {rows : List (Bool × List Int)} {l : List Ac} (hro : ∀ r ∈ rows, RowOk r) (hk : ∀ H', K (.d (.bool true)) H') : CallsA Try.prog 5 [.d (.sl nl (rows.map rowD)), .d (.sl nl2 (l.map Ac.dats))] H K := by
  apply C5
  unfold S5
  have aw : ∀ G, CallsA Try.prog 23 [] G fun v5 H6 => retF [v5] H6 K := fun G => awake_c fun H' => by simp only [go_sem]; exact ⟨_, le_refl', hk _⟩
  have n0 : ¬ (((0 : Nat) : Int) > 0) := by decide
  simp only [lenSl_d, List.length_map, optA_some, intA_gtr, ifA_ite, frzLK_d, frzLK_nil]
  refine ite_of (fun _ => aw _) fun h6 => ?_
  refine ite_of (fun _ => aw _) fun h200 => ?_
  refine newNil_c fun k H1 hB hle hk1 => ?_
  try simp only [frzLK_d, frzLK_nil]
  refine pNew_c fun w H2 hL hle2 hwn => ?_
  simp only [extractA_0, extractA_1, optA_some, intA_neq, ne_eq, not_true_eq_false, decide_false, ifA_f]
  have hT0 : Two H2 k (.d (.sl true [])) [] [] 0 w (.d (.sl true [])) [] [] 0 := ⟨hB.le hle2, hL, (fun i hi hh => by
    rcases hh with rfl | hh | hh
    · have := hB.foot hi; rw [hwn] at this; cases this
    · cases hh
    · cases hh), Alone.nil, PAlone.nil⟩
  refine loop_ind (fun n vs G => ∃ (j : Nat) (sv sv2 : AV) (ids ids2 : List Nat) (sts : List St) (ps : List Pt) (g : Int), j ≤ rows.length ∧ n = rows.length - j ∧ vs = [.d (.sl nl (rows.map rowD)), .d (.sl nl2 (l.map Ac.dats)), .ptr k 0 0 0, .ptr w 0 0 0, .d (.int .i64 (j : Int)), .junk, .junk] ∧ Two G k sv ids sts 0 w sv2 ids2 ps g ∧ sts.length = j ∧ ps.length = j) (n := rows.length) ⟨0, _, _, _, _, _, _, _, Nat.zero_le _, rfl, rfl, hT0, rfl, rfl⟩ ?_
  rintro X n vs G ⟨j, sv, sv2, ids, ids2, sts, ps, g, hj, rfl, rfl, hT, hsl, hpl⟩ hX
  by_cases hjl : j = rows.length
  · subst hjl
    clear hX
    simp only [List.getD_cons_succ, List.getD_cons_zero, lenSl_d, List.length_map, optA_some, intA_lss, Int.lt_irrefl, decide_false, ifA_f]
    refine loop_ind (fun n vs G => ∃ (j : Nat) (sts : List St) (f : Int) (ps : List Pt) (g : Int), j ≤ l.length ∧ n = l.length - j ∧ vs = [.d (.sl nl (rows.map rowD)), .d (.sl nl2 (l.map Ac.dats)), .ptr k 0 0 0, .ptr w 0 0 0, .d (.int .i64 (rows.length : Int)), .d (.int .i64 (j : Int)), .junk] ∧ Two G k sv ids sts f w sv2 ids2 ps g ∧ 0 ≤ f ∧ f ≤ 1640 * (j : Int)) (n := l.length) ⟨0, _, _, _, _, Nat.zero_le _, rfl, rfl, hT, Int.le_refl _, by simp⟩ ?_
    rintro X n vs G ⟨j, sts, f, ps, g, hj, rfl, rfl, hT, hf0, hf1⟩ hX
    by_cases hjl : j = l.length
    · subst hjl
      clear hX
      have endc : ∀ (G : AHeap) (sts : List St) (f : Int), BusAt G k true [] sv ids sts f → Alone sts → quietB sts = true → CallsA Try.prog 31 [.ptr k 0 0 0] G fun v102 H103 => ifA v102 (frzLK [.ptr k 0 0 0] H103 fun l108 H109 => CallsA Try.prog 29 l108 H109 fun v106 H107 => optA (lenSl v106) fun v110 => optA (intA .eql v110 (.d (.int .i64 0))) fun v111 => ifA v111 (frzLK [] H107 fun l114 H115 => CallsA Try.prog 23 l114 H115 fun v112 H113 => retF [v112] H113 K) (retF [.d (.bool false)] H107 K)) (retF [.d (.bool false)] H103 K) := fun G sts f hB hA hq => by
        refine Quiet_c hB ?_
        rw [hq]
        simp only [ifA_t, frzLK_ptr, frzLK_nil]
        refine Clashes_c hB hA ?_
        simp only [lenSl_d, List.length_nil, optA_some, intA_eql, Int.reduceEq, Int.reduceNe, Int.reduceLT, Int.reduceLE, not_true_eq_false, not_false_eq_true, decide_true, decide_false, Int.reduceAdd, Int.reduceSub, Int.reduceMul, frzLK_nil]
        exact aw _
      simp only [List.getD_cons_succ, List.getD_cons_zero, lenSl_d, List.length_map, optA_some, intA_lss, Int.lt_irrefl, decide_false, ifA_f]
      refine loop_ind (fun n vs G' => ∃ (i : Nat) (sts' : List St) (f' : Int), i ≤ 2700 ∧ n = 2700 - i ∧ vs = [.d (.sl nl (rows.map rowD)), .d (.sl nl2 (l.map Ac.dats)), .ptr k 0 0 0, .ptr w 0 0 0, .d (.int .i64 (rows.length : Int)), .d (.int .i64 (l.length : Int)), .d (.int .i64 (i : Int))] ∧ BusAt G' k true [] sv ids sts' f' ∧ Alone sts' ∧ Far sts' i ∧ 0 ≤ f' ∧ f' ≤ f + 1640 * (i : Int)) (n := 2700) ⟨0, _, _, Nat.zero_le _, rfl, rfl, hT.b, hT.al, fun j hj h1 => ?_, hf0, by simp⟩ ?_
      · have okj := hT.b.sts.okj hj
        have := okj.k
        have := okj.sent
        omega
      rintro X' n vs G' ⟨i, sts', f', hi, rfl, rfl, hG', hA', hF, hg0, hg1⟩ hX'
      have nj := endc G' sts' f' hG' hA'
      simp only [frzLK_ptr, frzLK_nil] at nj
      by_cases hi2 : i = 2700
      · subst hi2
        have m0 : ¬ (((2700 : Nat) : Int) < 2700) := by decide
        simp only [List.getD_cons_succ, List.getD_cons_zero, optA_some, intA_lss, m0, decide_false, ifA_f, frzLK_ptr, frzLK_nil]
        exact nj (hF.quiet (by omega) hG'.sts.ok)
      · have hlt : (i : Int) < 2700 := by omega
        have hw : IntKind.i64.wrap ((i : Int) + 1) = ((i + 1 : Nat) : Int) := by rw [wrap_i64 (by omega) (by omega)]; omega
        simp only [List.getD_cons_succ, List.getD_cons_zero, optA_some, intA_lss, hlt, decide_true, ifA_t, frzLK_ptr, frzLK_nil]
        refine Quiet_c hG' ?_
        cases hq : quietB sts' with
        | true =>
          simp only [unA_not, Bool.not_true, optA_some, ifA_f]
          exact nj hq
        | false =>
          simp only [unA_not, Bool.not_false, optA_some, ifA_t]
          refine Step_c hG' List.Pairwise.nil (by simp) ⟨hg0, by omega⟩ fun G3 hB4 _ => ?_
          rw [lost_nil] at hB4
          have hs2 := step_f (lost := never) (sts := sts') (f := f') hG'.sts.n40
          simp only [intA_add, hw, optA_some]
          exact hX' (2700 - (i + 1)) _ _ (by omega) ⟨i + 1, _, _, by omega, rfl, rfl, hB4, hA'.stp hG'.sts.ok, by have := hF.stp (lost := never) (f := f') hG'.sts.ok; simpa using this, by omega, by omega⟩
    · have hlt : (j : Int) < (l.length : Int) := by omega
      obtain ⟨a, ha⟩ : ∃ a, l[j]? = some a := ⟨_, List.getElem?_eq_getElem (by omega)⟩
      have hw : IntKind.i64.wrap ((j : Int) + 1) = ((j + 1 : Nat) : Int) := by rw [wrap_i64 (by omega) (by omega)]; omega
      have ra : ldV true 3 (.vptr a.dats 0) G = some a.av := rfl
      simp only [List.getD_cons_succ, List.getD_cons_zero, lenSl_d, List.length_map, optA_some, intA_lss, hlt, decide_true, ifA_t, ix60 ha, ra, frzLK_ptr, frzLK_Ac, frzLK_nil]
      refine deed_c hT ⟨hf0, by omega⟩ fun G3 sts3 f3 ps3 g3 hT3 hf3 => ?_
      try simp only [frzLK_ptr, frzLK_nil]
      refine Clashes_c hT3.b hT3.al ?_
      simp only [lenSl_d, List.length_nil, optA_some, intA_gtr, n0, decide_false, ifA_f, frzLK_ptr, frzLK_nil]
      refine pClashes_c hT3.l hT3.pa ?_
      simp only [lenSl_d, List.length_nil, optA_some, intA_gtr, n0, decide_false, ifA_f, intA_add, hw]
      exact hX (l.length - (j + 1)) _ _ (by omega) ⟨j + 1, sts3, f3, ps3, g3, by omega, rfl, rfl, hT3, hf3.1, by omega⟩
  · have hlt : (j : Int) < (rows.length : Int) := by omega
    obtain ⟨r, hr⟩ : ∃ r, rows[j]? = some r := ⟨_, List.getElem?_eq_getElem (by omega)⟩
    have hrok := hro r (List.mem_of_getElem? hr)
    have hw : IntKind.i64.wrap ((j : Int) + 1) = ((j + 1 : Nat) : Int) := by rw [wrap_i64 (by omega) (by omega)]; omega
    have ra : ∀ G : AHeap, ldV false 1 (.vptr (rowD r) 0) G = some (.d (.sl r.1 (ints r.2))) := fun _ => rfl
    simp only [List.getD_cons_succ, List.getD_cons_zero, lenSl_d, List.length_map, optA_some, intA_lss, hlt, decide_true, ifA_t, ix23 hr, ra, ints_len, intA_gtr, ifA_ite, frzLK_ptr, frzLK_d, frzLK_nil]
    refine ite_of (fun _ => aw _) fun h60 => ?_
    refine Add_c hT.b hrok.wf (by omega) hrok.nl (fun h => by omega) fun _ G1 sv1 ids1 hB2 hfr hft => ?_
    have hT1 := hT.bus hB2 (hT.al.more (show (0 : Int) ≠ 2 by decide)) hfr hft
    try simp only [ix23 hr, ra, optA_some, frzLK_ptr, frzLK_d, frzLK_nil]
    refine pAdd_c hT1.l hrok.wf (by omega) hrok.nl (fun h => by omega) fun _ G2 sv3 ids3 hL2 hfr2 hft2 => ?_
    have hT2 := hT1.link hL2 (hT1.pa.more (show (0 : Int) ≠ 2 by decide)) hfr2 hft2
    simp only [intA_add, hw, optA_some]
    exact hX (rows.length - (j + 1)) _ _ (by omega) ⟨j + 1, _, _, _, _, _, _, _, by omega, rfl, rfl, hT2, by simp [hsl], by simp [hpl]⟩
theorem nodes_row (xs : List Dat) (h : DatOk Try.prog 9 44 xs) (ys : List Dat) (h2 : DatOk Try.prog 9 60 ys) : CallsA Try.prog 5 [argAV (aggT Try.prog 44) xs, argAV (aggT Try.prog 60) ys] noHeap fun v _ => v = .d (.bool true) := by
  rw [datOk_slice Try.underlying44] at h
  obtain ⟨nl, rws, rfl, _, hr, _⟩ := h
  obtain ⟨rows, rfl, hro⟩ := rows_open hr
  rw [datOk_slice Try.underlying60] at h2
  obtain ⟨nl2, l, rfl, _, hl, hlen⟩ := h2
  obtain ⟨acs, rfl, hz⟩ := acs_open hl
  rw [show aggT Try.prog 44 = false by kernel_rfl, show aggT Try.prog 60 = false by kernel_rfl]
  exact nodes_law hro fun _ => rfl
end
end Go.Proofs.Ytgnnkpgceahjdaa

/- Stations with empty rows find numbers of their own. -/
import Derived.Test.YtadpakkenokilaaM2p
set_option autoImplicit false
set_option maxRecDepth 100000
set_option linter.unusedVariables false
set_option linter.unusedSimpArgs false
namespace Go.Proofs.Ytadpakkenokilaa
theorem gD_set_self {α : Type} {d : α} {l : List α} {j : Nat} {s : α} (h : j < l.length) : (l.set j s).getD j d = s := by
  rw [List.getD_eq_getElem?_getD, List.getElem?_set_self h]; rfl
theorem gD_set_ne {α : Type} {d : α} {l : List α} {i j : Nat} {s : α} (h : j ≠ i) : (l.set j s).getD i d = l.getD i d := by
  rw [List.getD_eq_getElem?_getD, List.getElem?_set_ne h, ← List.getD_eq_getElem?_getD]
def never (f : Int) : Bool := false
theorem hear_never : ∀ {l : List Nat} {f : Int}, hearS never l f = l
  | [], f => rfl
  | i :: l, f => by simp [hearS, never, hear_never (l := l) (f := f + 1)]
theorem an1s_never {sts : List St} {i : Nat} {s : Int × List Bool} (hi : i < s.2.length) : ∀ {n : Nat} {j : Nat}, (an1s never sts i s n).2.getD j false = (s.2.getD j false || (decide (j = i) && decide (∃ k, k < n ∧ ans sts k i = true)))
  | 0, j => by simp [an1s]
  | n + 1, j => by
    have ih := an1s_never (sts := sts) (i := i) (s := s) hi (n := n) (j := j)
    have hl := (an1s_bd (lost := never) (sts := sts) (i := i) (s := s) (n := n)).2.2
    rw [an1s_succ]
    unfold an1
    have hex : (∃ k, k < n + 1 ∧ ans sts k i = true) ↔ (∃ k, k < n ∧ ans sts k i = true) ∨ ans sts n i = true := by
      constructor
      · rintro ⟨k, hk, ha⟩
        rcases Nat.lt_succ_iff_lt_or_eq.1 hk with hk | rfl
        · exact .inl ⟨k, hk, ha⟩
        · exact .inr ha
      · rintro (⟨k, hk, ha⟩ | ha)
        · exact ⟨k, by omega, ha⟩
        · exact ⟨n, by omega, ha⟩
    split
    · rename_i ha
      simp only [never, Bool.false_eq_true, if_false]
      by_cases hj : j = i
      · subst hj
        rw [gD_set_self (by omega)]
        have : ∃ k, k < n + 1 ∧ ans sts k j = true := ⟨n, by omega, ha⟩
        simp [this]
      · rw [gD_set_ne (Ne.symm hj), ih]
        simp [hj]
    · rename_i ha
      rw [ih]
      have : (∃ k, k < n + 1 ∧ ans sts k i = true) ↔ (∃ k, k < n ∧ ans sts k i = true) := by rw [hex]; simp [ha]
      simp only [this]
theorem an3_never {sts : List St} : ∀ {l : List Nat} {s : Int × List Bool} {j : Nat}, (∀ i ∈ l, i < s.2.length) → (an3 never sts s l).2.getD j false = (s.2.getD j false || (decide (j ∈ l) && decide (∃ k, k < sts.length ∧ ans sts k j = true)))
  | [], s, j, _ => by simp [an3]
  | i :: l, s, j, h => by
    have hi := h i (List.mem_cons_self ..)
    have hl := (an1s_bd (lost := never) (sts := sts) (i := i) (s := s) (n := sts.length)).2.2
    have e : an3 never sts s (i :: l) = an3 never sts (an1s never sts i s sts.length) l := rfl
    rw [e, an3_never (fun x hx => by rw [hl]; exact h x (List.mem_cons_of_mem _ hx)), an1s_never hi]
    by_cases hji : j = i
    · subst hji
      cases s.2.getD j false <;> simp
    · simp [hji]
theorem finS_at {A : List Bool} : ∀ {l : List Nat} {sts : List St} {j : Nat}, l.Nodup → (∀ i ∈ l, i < sts.length) → (finS A sts l).getD j default = if j ∈ l then (sts.getD j default).fin (A.getD j false) else sts.getD j default
  | [], sts, j, _, _ => by simp [finS]
  | i :: l, sts, j, hn, h => by
    have hi := h i (List.mem_cons_self ..)
    have hn' := List.nodup_cons.1 hn
    have e : finS A sts (i :: l) = finS A (sts.set i ((sts.getD i default).fin (A.getD i false))) l := rfl
    rw [e, finS_at hn'.2 (fun x hx => by rw [List.length_set]; exact h x (List.mem_cons_of_mem _ hx))]
    by_cases hji : j = i
    · subst hji
      rw [if_neg hn'.1, if_pos (List.mem_cons_self ..), gD_set_self hi]
    · rw [gD_set_ne (Ne.symm hji)]
      simp [hji]
theorem askS_mem {sts : List St} {i : Nat} : i ∈ askS sts sts.length ↔ i < sts.length ∧ (sts.getD i default).state = 1 := by
  simp [askS, List.mem_filter]
theorem askS_nodup {sts : List St} {n : Nat} : (askS sts n).Nodup := List.filter_sublist.nodup List.nodup_range
theorem step_len {lost : Int → Bool} {sts : List St} {f : Int} : (step lost sts f).1.length = sts.length := finS_len
theorem step_f {lost : Int → Bool} {sts : List St} {f : Int} (h : sts.length ≤ 40) : f ≤ (step lost sts f).2 ∧ (step lost sts f).2 ≤ f + 1640 := by
  unfold step
  have h1 := askS_len (sts := sts) (n := sts.length)
  have h2 := hearS_len (lost := lost) (l := askS sts sts.length) (f := f)
  have h3 := an3_bd (lost := lost) (sts := sts) (l := hearS lost (askS sts sts.length) f) (s := (f + (askS sts sts.length).length, List.replicate sts.length false))
  have hmul : (hearS lost (askS sts sts.length) f).length * sts.length ≤ 1600 := Nat.le_trans (Nat.mul_le_mul (show _ ≤ 40 by omega) h) (by omega)
  have hmul' : ((hearS lost (askS sts sts.length) f).length : Int) * (sts.length : Int) ≤ 1600 := by exact_mod_cast hmul
  simp only at h3 ⊢
  omega
/-- What a step does to a station, if no frame is lost. -/
theorem step_never {sts : List St} {f : Int} {j : Nat} (hj : j < sts.length) : ((step never sts f).1).getD j default = if (sts.getD j default).state = 1 then (sts.getD j default).fin (decide (∃ k, k < sts.length ∧ ans sts k j = true)) else sts.getD j default := by
  unfold step
  simp only [hear_never]
  rw [finS_at askS_nodup fun i hi => (askS_mem.1 hi).1]
  have hm : j ∈ askS sts sts.length ↔ (sts.getD j default).state = 1 := askS_mem.trans ⟨fun h => h.2, fun h => ⟨hj, h⟩⟩
  simp only [hm]
  split
  · rename_i h1
    rw [an3_never (fun i hi => by rw [List.length_replicate]; exact (askS_mem.1 hi).1)]
    have : (List.replicate sts.length false).getD j false = false := by rw [List.getD_eq_getElem?_getD, List.getElem?_replicate]; split <;> rfl
    simp only [this, hm.2 h1, decide_true, Bool.true_and, Bool.false_or]
  · rfl
/-- Stations with empty rows that search. -/
structure Fnd (sts : List St) (t : Int) : Prop where
  n : sts.length ≤ 40
  row : ∀ i, i < sts.length → (sts.getD i default).row = [] ∧ (sts.getD i default).on = true
  ok : ∀ i, i < sts.length → (sts.getD i default).Ok
  st : ∀ i, i < sts.length → (sts.getD i default).state = 1 ∨ ((sts.getD i default).state = 2 ∧ (sts.getD i default).sent = 8 ∧ (sts.getD i default).node = (sts.getD i default).k + 1)
  strong : ∀ i j, i < sts.length → j < sts.length → i ≠ j → 0 < (sts.getD i default).sent → 0 < (sts.getD j default).sent → (sts.getD i default).k ≠ (sts.getD j default).k
  held : ∀ i, i < sts.length → ∀ g : Int, 0 ≤ g → g < (sts.getD i default).k → ∃ j, j < sts.length ∧ (sts.getD j default).k = g ∧ 0 < (sts.getD j default).sent
  pot : ∀ i, i < sts.length → (sts.getD i default).state = 1 → t ≤ 8 * (sts.getD i default).k + (sts.getD i default).sent
theorem hold_le {n : Nat} {k : Nat → Int} {K : Nat} (h : ∀ g : Nat, g < K → ∃ j, j < n ∧ k j = g) : K ≤ n := by
  have key : ∀ g : Nat, ∃ j, g < K → j < n ∧ k j = g := fun g => by
    by_cases hg : g < K
    · obtain ⟨j, hj⟩ := h g hg; exact ⟨j, fun _ => hj⟩
    · exact ⟨0, fun h => absurd h hg⟩
  have := AM.nodup_le n ((List.range K).map fun g => Classical.choose (key g)) ?_ ?_
  · simpa using this
  · rw [List.Nodup, List.pairwise_map]
    refine List.nodup_range.imp_of_mem fun {a b} ha hb hne he => hne ?_
    have h1 := (Classical.choose_spec (key a) (List.mem_range.1 ha)).2
    have h2 := (Classical.choose_spec (key b) (List.mem_range.1 hb)).2
    rw [he, h2] at h1
    omega
  · intro x hx
    obtain ⟨g, hg, rfl⟩ := List.mem_map.1 hx
    exact (Classical.choose_spec (key g) (List.mem_range.1 hg)).1
theorem gs_nil {s : St} (h : s.row = []) (hk : 0 ≤ s.k ∧ s.k < 253) : s.gs = s.k + 1 := by
  unfold St.gs guess
  rw [if_pos h, Int.tmod_eq_of_lt hk.1 hk.2]
  omega
theorem Fnd.step {sts : List St} {t f : Int} (h : Fnd sts t) : Fnd (step never sts f).1 (t + 1) := by
  have hn := h.n
  -- who answers whom
  have at1 : ∀ i, i < sts.length → (sts.getD i default).state = 1 → (sts.getD i default).gs = (sts.getD i default).k + 1 := fun i hi h1 => gs_nil (h.row i hi).1 ⟨(h.ok i hi).k.1, ((h.ok i hi).go h1).1⟩
  have ansD : ∀ k j, k < sts.length → j < sts.length → (sts.getD j default).state = 1 → (ans sts k j = true ↔ k ≠ j ∧ (sts.getD k default).k = (sts.getD j default).k ∧ ((sts.getD k default).state = 2 ∨ ((sts.getD k default).state = 1 ∧ ((sts.getD j default).sent < (sts.getD k default).sent ∨ (sts.getD k default).sent = (sts.getD j default).sent ∧ k < j)))) := fun k j hk hj h1 => by
    have e1 := at1 j hj h1
    have e2 := (h.row k hk).2
    unfold ans
    simp only [e1]
    by_cases hkj : k = j
    · simp [hkj]
    · rcases h.st k hk with hs | ⟨hs, hs8, hsn⟩
      · have e3 := at1 k hk hs
        generalize sts.getD k default = s at *
        generalize sts.getD j default = u at *
        simp [hkj, e2, hs, e3]
      · generalize sts.getD k default = s at *
        generalize sts.getD j default = u at *
        simp [hkj, e2, hs, hsn]
  have small : ∀ i, i < sts.length → (sts.getD i default).k < 40 := fun i hi => by
    have hk0 := (h.ok i hi).k.1
    have := hold_le (n := sts.length) (k := fun j => (sts.getD j default).k) (K := (sts.getD i default).k.toNat) fun g hg => by
      obtain ⟨j, hj, e, _⟩ := h.held i hi g (by omega) (by omega)
      exact ⟨j, hj, e⟩
    by_cases hlt : (sts.getD i default).k < 40
    · exact hlt
    · exfalso
      -- i's own place: one more
      have := hold_le (n := sts.length) (k := fun j => (sts.getD j default).k) (K := (sts.getD i default).k.toNat + 1) fun g hg => by
        by_cases hgi : g = (sts.getD i default).k.toNat
        · exact ⟨i, hi, by omega⟩
        · obtain ⟨j, hj, e, _⟩ := h.held i hi g (by omega) (by omega)
          exact ⟨j, hj, e⟩
      omega
  have nx : ∀ i, i < sts.length → ((Ytadpakkenokilaa.step never sts f).1).getD i default = if (sts.getD i default).state = 1 then (sts.getD i default).fin (decide (∃ k, k < sts.length ∧ ans sts k i = true)) else sts.getD i default := fun i hi => step_never hi
  -- a strong one is not answered
  have noans : ∀ i, i < sts.length → (sts.getD i default).state = 1 → 0 < (sts.getD i default).sent → ¬ ∃ k, k < sts.length ∧ ans sts k i = true := by
    rintro i hi h1 h2 ⟨k, hk, ha⟩
    obtain ⟨a1, a2, a3⟩ := (ansD k i hk hi h1).1 ha
    have hs : 0 < (sts.getD k default).sent := by
      rcases a3 with a3 | ⟨_, a3⟩
      · rcases h.st k hk with hs | ⟨_, hs8, _⟩
        · rw [hs] at a3; cases a3
        · omega
      · omega
    exact h.strong k i hk hi a1 hs h2 a2
  -- a station behind a step
  have beh : ∀ i, i < sts.length → ∃ s', ((Ytadpakkenokilaa.step never sts f).1).getD i default = s' ∧
      ((0 < (sts.getD i default).sent ∧ s'.k = (sts.getD i default).k ∧ 0 < s'.sent) ∨ ((sts.getD i default).sent = 0 ∧ (sts.getD i default).state = 1 ∧ (¬ ∃ k, k < sts.length ∧ ans sts k i = true) ∧ s'.k = (sts.getD i default).k ∧ s'.sent = 1) ∨ ((sts.getD i default).sent = 0 ∧ (sts.getD i default).state = 1 ∧ (∃ k, k < sts.length ∧ ans sts k i = true) ∧ s'.k = (sts.getD i default).k + 1 ∧ s'.sent = 0)) ∧
      s'.row = [] ∧ s'.on = true ∧ s'.Ok ∧ (s'.state = 1 ∨ (s'.state = 2 ∧ s'.sent = 8 ∧ s'.node = s'.k + 1)) ∧ (s'.state = 1 → t + 1 ≤ 8 * s'.k + s'.sent) := fun i hi => by
    refine ⟨_, rfl, ?_⟩
    rw [nx i hi]
    have hrow := h.row i hi
    have hok := h.ok i hi
    have hsm := small i hi
    have hst := h.st i hi
    by_cases h1 : (sts.getD i default).state = 1
    · rw [if_pos h1]
      have hgs := at1 i hi h1
      have hpot := h.pot i hi h1
      have hgo := hok.go h1
      by_cases ha : ∃ k, k < sts.length ∧ ans sts k i = true
      · have hs0 : (sts.getD i default).sent = 0 := by
          by_cases hs : 0 < (sts.getD i default).sent
          · exact absurd ha (noans i hi h1 hs)
          · have := hok.sent; omega
        have hf := hok.fin h1 true
        rw [decide_eq_true ha]
        generalize sts.getD i default = s at *
        unfold St.fin at hf ⊢
        simp only [if_true] at hf ⊢
        rw [if_neg (show ¬ s.k + 1 = 253 by omega)] at hf ⊢
        exact ⟨.inr (.inr ⟨hs0, h1, ha, by first | rfl | trivial, by first | rfl | trivial⟩), hrow.1, hrow.2, hf, .inl h1, fun _ => by first | omega | (simp only; omega)⟩
      · have hf := hok.fin h1 false
        have hss := hok.sent
        rw [decide_eq_false ha]
        generalize sts.getD i default = s at *
        unfold St.fin at hf ⊢
        simp only [Bool.false_eq_true, if_false] at hf ⊢
        have c1 : ∀ s' : St, s'.k = s.k → s'.sent = s.sent + 1 → ((0 < s.sent ∧ s'.k = s.k ∧ 0 < s'.sent) ∨ (s.sent = 0 ∧ s.state = 1 ∧ (¬ ∃ k, k < sts.length ∧ ans sts k i = true) ∧ s'.k = s.k ∧ s'.sent = 1) ∨ (s.sent = 0 ∧ s.state = 1 ∧ (∃ k, k < sts.length ∧ ans sts k i = true) ∧ s'.k = s.k + 1 ∧ s'.sent = 0)) := fun s' e1 e2 => by
          by_cases hs : 0 < s.sent
          · exact .inl ⟨hs, e1, by omega⟩
          · exact .inr (.inl ⟨by omega, h1, ha, e1, by omega⟩)
        by_cases h8 : s.sent + 1 = 8
        · rw [if_pos h8] at hf ⊢
          exact ⟨c1 _ rfl (by first | omega | (simp only; omega)), hrow.1, hrow.2, hf, .inr ⟨rfl, rfl, hgs⟩, fun hh => by cases hh⟩
        · rw [if_neg h8] at hf ⊢
          exact ⟨c1 _ rfl rfl, hrow.1, hrow.2, hf, .inl h1, fun _ => by first | omega | (simp only; omega)⟩
    · rw [if_neg h1]
      rcases hst with hst | hst
      · exact absurd hst h1
      · exact ⟨.inl ⟨by omega, rfl, by omega⟩, hrow.1, hrow.2, hok, .inr hst, fun hh => absurd hh h1⟩
  refine ⟨by rw [step_len]; exact hn, fun i hi => ?_, fun i hi => ?_, fun i hi => ?_, fun i j hi hj hij s1 s2 => ?_, fun i hi g g0 g1 => ?_, fun i hi => ?_⟩
  all_goals rw [step_len] at hi
  · obtain ⟨s', e, _, h1, h2, _⟩ := beh i hi; rw [e]; exact ⟨h1, h2⟩
  · obtain ⟨s', e, _, _, _, h1, _⟩ := beh i hi; rw [e]; exact h1
  · obtain ⟨s', e, _, _, _, _, h1, _⟩ := beh i hi; rw [e]; exact h1
  · rw [step_len] at hj
    obtain ⟨a, ea, ca, _⟩ := beh i hi
    obtain ⟨b, eb, cb, _⟩ := beh j hj
    rw [ea] at s1 ⊢
    rw [eb] at s2 ⊢
    intro he
    have cross : ∀ i j, i < sts.length → j < sts.length → i ≠ j → 0 < (sts.getD i default).sent → (sts.getD j default).state = 1 → (sts.getD j default).sent = 0 → (sts.getD i default).k = (sts.getD j default).k → ∃ k, k < sts.length ∧ ans sts k j = true := fun i j hi hj hij hs h1 h0 hk => by
      refine ⟨i, hi, (ansD i j hi hj h1).2 ⟨hij, hk, ?_⟩⟩
      rcases h.st i hi with hs1 | ⟨hs2, _⟩
      · exact .inr ⟨hs1, .inl (by omega)⟩
      · exact .inl hs2
    rcases ca with ⟨a1, a2, _⟩ | ⟨a1, a2, a3, a4, _⟩ | ⟨_, _, _, _, a5⟩
    · rcases cb with ⟨b1, b2, _⟩ | ⟨b1, b2, b3, b4, _⟩ | ⟨_, _, _, _, b5⟩
      · exact h.strong i j hi hj hij a1 b1 (by rw [← a2, ← b2]; exact he)
      · exact b3 (cross i j hi hj hij a1 b2 b1 (by rw [← a2, ← b4]; exact he))
      · omega
    · rcases cb with ⟨b1, b2, _⟩ | ⟨b1, b2, b3, b4, _⟩ | ⟨_, _, _, _, b5⟩
      · exact a3 (cross j i hj hi (Ne.symm hij) b1 a2 a1 (by rw [← a4, ← b2]; exact he.symm))
      · have hkk : (sts.getD i default).k = (sts.getD j default).k := by rw [← a4, ← b4]; exact he
        rcases Nat.lt_or_gt_of_ne hij with hlt | hlt
        · exact b3 ⟨i, hi, (ansD i j hi hj b2).2 ⟨hij, hkk, .inr ⟨a2, .inr ⟨by omega, hlt⟩⟩⟩⟩
        · exact a3 ⟨j, hj, (ansD j i hj hi a2).2 ⟨Ne.symm hij, hkk.symm, .inr ⟨b2, .inr ⟨by omega, hlt⟩⟩⟩⟩
      · omega
    · omega
  · -- what is held stays so
    rw [step_len]
    have keep : ∀ j, j < sts.length → 0 < (sts.getD j default).sent → ∃ j', j' < sts.length ∧ (((Ytadpakkenokilaa.step never sts f).1).getD j' default).k = (sts.getD j default).k ∧ 0 < (((Ytadpakkenokilaa.step never sts f).1).getD j' default).sent := fun j hj hs => by
      obtain ⟨s', e, c, _⟩ := beh j hj
      refine ⟨j, hj, ?_⟩
      rw [e]
      rcases c with ⟨_, c1, c2⟩ | ⟨c0, _⟩ | ⟨c0, _⟩
      · exact ⟨c1, c2⟩
      · omega
      · omega
    obtain ⟨s', e, c, _⟩ := beh i hi
    rw [e] at g1
    by_cases hg : g < (sts.getD i default).k
    · obtain ⟨j, hj, h1, h2⟩ := h.held i hi g g0 hg
      obtain ⟨j', h3, h4, h5⟩ := keep j hj h2
      exact ⟨j', h3, by rw [h4, h1], h5⟩
    · rcases c with ⟨_, c1, _⟩ | ⟨_, _, _, c1, _⟩ | ⟨_, c0, ⟨k, hk, ha⟩, c1, _⟩
      · omega
      · omega
      · have hge : g = (sts.getD i default).k := by omega
        -- somebody at g is strong, or the first one becomes so
        by_cases hex : ∃ j, j < sts.length ∧ (sts.getD j default).k = g ∧ 0 < (sts.getD j default).sent
        · obtain ⟨j, hj, h1, h2⟩ := hex
          obtain ⟨j', h3, h4, h5⟩ := keep j hj h2
          exact ⟨j', h3, by rw [h4, h1], h5⟩
        · have weak : ∀ j, j < sts.length → (sts.getD j default).k = g → (sts.getD j default).sent = 0 ∧ (sts.getD j default).state = 1 := fun j hj hk => by
            have h0 : (sts.getD j default).sent = 0 := by
              by_cases hs : 0 < (sts.getD j default).sent
              · exact absurd ⟨j, hj, hk, hs⟩ hex
              · have := (h.ok j hj).sent; omega
            refine ⟨h0, ?_⟩
            rcases h.st j hj with h1 | ⟨_, h8, _⟩
            · exact h1
            · omega
          -- the least index at g
          have least : ∀ m, m < sts.length → (sts.getD m default).k = g → ∃ j, j < sts.length ∧ (sts.getD j default).k = g ∧ ∀ x, x < j → (sts.getD x default).k ≠ g := by
            intro m
            induction m using Nat.strongRecOn with
            | ind m ih =>
              intro hm hmk
              by_cases hx : ∃ x, x < m ∧ (sts.getD x default).k = g
              · obtain ⟨x, hx1, hx2⟩ := hx
                exact ih x hx1 (by omega) hx2
              · exact ⟨m, hm, hmk, fun x hx1 hx2 => hx ⟨x, hx1, hx2⟩⟩
          obtain ⟨j, hj, hjk, hjl⟩ := least i hi hge.symm
          obtain ⟨w1, w2⟩ := weak j hj hjk
          obtain ⟨s2, e2, d, _⟩ := beh j hj
          refine ⟨j, hj, ?_⟩
          rw [e2]
          rcases d with ⟨d0, _⟩ | ⟨_, _, _, d1, d2⟩ | ⟨_, _, ⟨y, hy, hya⟩, _⟩
          · omega
          · exact ⟨by rw [d1, hjk], by omega⟩
          · exfalso
            obtain ⟨y1, y2, y3⟩ := (ansD y j hy hj w2).1 hya
            obtain ⟨v1, v2⟩ := weak y hy (by rw [y2, hjk])
            rcases y3 with y3 | ⟨_, y3⟩
            · rw [v2] at y3; cases y3
            · rcases y3 with y3 | ⟨_, y3⟩
              · omega
              · exact hjl y y3 (by rw [y2, hjk])
  · obtain ⟨s', e, _, _, _, _, _, h1⟩ := beh i hi; rw [e]; exact h1
end Go.Proofs.Ytadpakkenokilaa

/- What the other one allots. -/
import Derived.Test.YtlaojbclmcageaaM15g
set_option autoImplicit false
set_option maxRecDepth 100000
set_option linter.unusedVariables false
set_option linter.unusedSimpArgs false
namespace Go.Proofs.Ytlaojbclmcageaa
open Go Go.AM Go.Proofs
theorem lead_le (r : List Bool) : lead r ≤ r.length := by
  induction r with
  | nil => simp [lead]
  | cons b r ih => cases b <;> simp only [lead, List.length_cons] <;> omega
theorem run_c {nl : Bool} {m : List Bool} {i : Nat} (hl : m.length ≤ 300) (hi : i ≤ m.length) {H : AHeap} {K : AV → AHeap → Prop} (h : K (.d (.int .i64 (lead (m.drop i)))) H) : CallsA Try.prog 65 [.d (.sl nl (bls m)), .d (.int .i64 i)] H K := by
  apply C65
  unfold S65
  refine loop_ind (fun r vs G => G = H ∧ ∃ k : Nat, i + k ≤ m.length ∧ r = m.length - (i + k) ∧ lead (m.drop i) = k + lead (m.drop (i + k)) ∧ vs = [.d (.sl nl (bls m)), .d (.int .i64 i), .d (.int .i64 k)]) (n := m.length - i) ⟨rfl, 0, by omega, by omega, by simp, rfl⟩ ?_
  rintro X r vs G ⟨rfl, k, hk, rfl, hlead, rfl⟩ hX
  simp only [List.getD_cons_succ, List.getD_cons_zero, bls_len, go_sem]
  rw [wrap_i64 (n := (i : Int) + (k : Int)) (by omega) (by omega)]
  split
  · rename_i hlt
    have hk' : i + k < m.length := by omega
    have hd : m.drop (i + k) = m[i + k] :: m.drop (i + k + 1) := List.drop_eq_getElem_cons hk'
    have e : ((i : Int) + (k : Int)).toNat = i + k := by omega
    simp only [sl_get (ti := ti22) (e := 4) (esz := 1) rfl (by omega : (0 : Int) ≤ (i : Int) + (k : Int)) (by rw [e]; exact bls_get hk') rfl, List.map_cons, List.map_nil, go_sem]
    split
    · rename_i hb
      rw [hd, hb] at hlead
      simp only [lead] at hlead
      rw [wrap_i64 (by omega) (by omega)]
      exact hX (m.length - (i + (k + 1))) _ _ (by omega) ⟨rfl, k + 1, by omega, rfl, by rw [← Nat.add_assoc]; omega, by simp⟩
    · rename_i hb
      rw [Bool.not_eq_false] at hb
      rw [hd, hb] at hlead
      simp only [lead, Nat.add_zero] at hlead
      rw [hlead] at h
      exact ⟨G, le_refl', h⟩
  · rename_i hge
    rw [List.drop_eq_nil_of_le (by omega : m.length ≤ i + k)] at hlead
    simp only [lead, Nat.add_zero] at hlead
    rw [hlead] at h
    exact ⟨G, le_refl', h⟩
def prevB (m : List Bool) (i : Nat) : Bool := if i = 0 then true else m.getD (i - 1) false
theorem prevB_succ {m : List Bool} {i : Nat} (h : i < m.length) : prevB m (i + 1) = m[i] := by
  simp [prevB, List.getD_eq_getElem?_getD, h]
theorem picks_c {nl : Bool} {m : List Bool} {n : Int} (hl : m.length ≤ 300) (h0 : 0 ≤ n) (h1 : n ≤ (fr m).length) {H : AHeap} {K : AV → AHeap → Prop} (h : ∀ nl, (nl = true → pick m n = []) → K (.d (.sl nl (ints (pick m n)))) H) : CallsA Try.prog 51 [.d (.sl nl (bls m)), .d (.int .i64 n)] H K := by
  have hfl := fr_len (m := m)
  apply C51
  unfold S51
  simp only [go_sem]
  by_cases hn0 : n = 0
  · subst hn0
    rw [if_pos rfl]
    exact ⟨H, le_refl', h true fun _ => rfl⟩
  rw [if_neg hn0]
  refine loop_ind (fun r vs G => G = H ∧ ∃ (i : Nat) (u1 u2 : AV), i ≤ m.length ∧ r = m.length - i ∧ (runs m).find? (fun x => decide (n ≤ x.2)) = (runsAux (prevB m i) (m.drop i) i).find? (fun x => decide (n ≤ x.2)) ∧ vs = [.d (.sl nl (bls m)), .d (.int .i64 n), .d (.int .i64 i), u1, u2]) (n := m.length) ⟨rfl, 0, .junk, .junk, by omega, by omega, by simp [prevB, runs], rfl⟩ ?_
  rintro X r vs G ⟨rfl, i, u1, u2, hi, rfl, hf, rfl⟩ hX
  simp only [List.getD_cons_succ, List.getD_cons_zero, bls_len, go_sem]
  split
  · rename_i hlt
    have hi' : i < m.length := by omega
    have hd : m.drop i = m[i] :: m.drop (i + 1) := List.drop_eq_getElem_cons hi'
    refine run_c hl hi ?_
    simp only [go_sem]
    rw [hd] at hf ⊢
    have next : (runs m).find? (fun x => decide (n ≤ x.2)) = (runsAux (prevB m (i + 1)) (m.drop (i + 1)) ((i : Int) + 1)).find? (fun x => decide (n ≤ x.2)) → ∀ u1 u2, X [.d (.sl nl (bls m)), .d (.int .i64 n), .d (.int .i64 (IntKind.i64.wrap ((i : Int) + 1))), u1, u2] G := fun hn u1 u2 => by
      rw [wrap_i64 (by omega) (by omega)]
      exact hX (m.length - (i + 1)) _ _ (by omega) ⟨rfl, i + 1, u1, u2, by omega, rfl, hn, rfl⟩
    have found : (runs m).find? (fun x => decide (n ≤ x.2)) = some ((i : Int), ((lead (m[i] :: m.drop (i + 1)) : Nat) : Int)) → pick m n = part ((i : Int), ((lead (m[i] :: m.drop (i + 1)) : Nat) : Int)) n.toNat := fun hx => by
      rw [pick, if_neg hn0, hx]
    have hll := lead_le (m[i] :: m.drop (i + 1))
    simp only [List.length_cons, List.length_drop] at hll
    cases hb : m[i] with
    | true =>
      rw [hb] at hf hll
      rw [if_neg (show ¬ n ≤ ((lead (true :: m.drop (i + 1)) : Nat) : Int) by simp only [lead]; omega)]
      refine next ?_ _ _
      rw [hf, prevB_succ hi', hb]
      simp [runsAux]
    | false =>
      rw [hb] at hf found hll
      split
      · rename_i hbig
        have hfd : prevB m i = true → (runsAux (prevB m i) (false :: m.drop (i + 1)) i).find? (fun x => decide (n ≤ x.2)) = some ((i : Int), ((lead (false :: m.drop (i + 1)) : Nat) : Int)) := fun hp => by
          simp only [runsAux, hp, if_true, List.find?_cons, decide_eq_true hbig]
        by_cases hi0 : i = 0
        · rw [if_pos (by omega)]
          have hp := found (by rw [hf]; exact hfd (by simp [prevB, hi0]))
          refine loop_ind (fun r vs G' => ∃ (k : Nat) (v : AV), (k : Int) ≤ n ∧ r = n.toNat - k ∧ Gr G 1 G' v (ints (part ((i : Int), ((lead (false :: m.drop (i + 1)) : Nat) : Int)) k)) ∧ vs = [.d (.sl nl (bls m)), .d (.int .i64 n), .d (.int .i64 i), v, .d (.int .i64 k)]) (n := n.toNat)
            ⟨0, _, by omega, by omega, by simpa [part, ints] using Gr.nil le_refl', by simp⟩ ?_
          rintro X3 r3 vs3 G3 ⟨k, v3, hk, rfl, hG3, rfl⟩ hX3
          simp only [List.getD_cons_succ, List.getD_cons_zero, go_sem]
          split
          · rename_i hlt3
            rw [wrap_i64 (n := (i : Int) + (k : Int)) (by omega) (by omega)]
            intro n24 _
            simp only [bs3_1, go_sem]
            refine one_more hG3 (by rw [part_len]; omega) fun v4 G4 hG4 _ _ => ?_
            rw [wrap_i64 (by omega) (by omega)]
            exact hX3 (n.toNat - (k + 1)) _ _ (by omega) ⟨k + 1, v4, by omega, rfl, by rw [part_succ]; exact hG4, by simp⟩
          · rename_i hge
            have hkk : k = n.toNat := by omega
            subst hkk
            refine ret_ints hG3 le_refl' fun n3 hn3 => ?_
            rw [← hp] at hn3 ⊢
            exact h n3 hn3
        · rw [if_neg (by omega), wrap_i64 (n := (i : Int) - 1) (by omega) (by omega)]
          have hi1 : i - 1 < m.length := by omega
          have e1 : ((i : Int) - 1).toNat = i - 1 := by omega
          have hpr : prevB m i = m[i - 1] := by simp [prevB, hi0, List.getD_eq_getElem?_getD, hi1]
          simp only [sl_get (ti := ti22) (e := 4) (esz := 1) rfl (by omega : (0 : Int) ≤ (i : Int) - 1) (by rw [e1]; exact bls_get hi1) rfl, List.map_cons, List.map_nil, go_sem]
          split
          · rename_i hbp
            have hp := found (by rw [hf]; exact hfd (by rw [hpr, hbp]))
            refine loop_ind (fun r vs G' => ∃ (k : Nat) (v : AV), (k : Int) ≤ n ∧ r = n.toNat - k ∧ Gr G 1 G' v (ints (part ((i : Int), ((lead (false :: m.drop (i + 1)) : Nat) : Int)) k)) ∧ vs = [.d (.sl nl (bls m)), .d (.int .i64 n), .d (.int .i64 i), v, .d (.int .i64 k)]) (n := n.toNat)
              ⟨0, _, by omega, by omega, by simpa [part, ints] using Gr.nil le_refl', by simp⟩ ?_
            rintro X3 r3 vs3 G3 ⟨k, v3, hk, rfl, hG3, rfl⟩ hX3
            simp only [List.getD_cons_succ, List.getD_cons_zero, go_sem]
            split
            · rename_i hlt3
              rw [wrap_i64 (n := (i : Int) + (k : Int)) (by omega) (by omega)]
              intro n24 _
              simp only [bs3_1, go_sem]
              refine one_more hG3 (by rw [part_len]; omega) fun v4 G4 hG4 _ _ => ?_
              rw [wrap_i64 (by omega) (by omega)]
              exact hX3 (n.toNat - (k + 1)) _ _ (by omega) ⟨k + 1, v4, by omega, rfl, by rw [part_succ]; exact hG4, by simp⟩
            · rename_i hge
              have hkk : k = n.toNat := by omega
              subst hkk
              refine ret_ints hG3 le_refl' fun n3 hn3 => ?_
              rw [← hp] at hn3 ⊢
              exact h n3 hn3
          · rename_i hbp
            rw [Bool.not_eq_true] at hbp
            try simp only [go_sem]
            refine next ?_ _ _
            rw [hf, prevB_succ hi', hb, hpr, hbp]
            simp [runsAux]
      · rename_i hsmall
        try simp only [go_sem]
        refine next ?_ _ _
        rw [hf, prevB_succ hi', hb]
        simp only [runsAux]
        cases prevB m i
        · simp
        · simp only [if_true, Bool.false_eq_true, if_false, List.find?_cons]
          rw [show decide (n ≤ ((lead (false :: m.drop (i + 1)) : Nat) : Int)) = false from decide_eq_false hsmall]
  · rename_i hge
    rw [List.drop_eq_nil_of_le (by omega : m.length ≤ i)] at hf
    refine rfree_c (by omega) fun n2 hn2 => ?_
    have hp : pick m n = (fr m).take n.toNat := by
      rw [pick, if_neg hn0, hf]
      simp [runsAux]
    have hsl : sliceA 1 (.d (.sl n2 (ints (fr m)))) none (some (.d (.int .i64 n))) none G = some (.d (.sl n2 (ints (pick m n)))) := by
      simp only [sliceA, bnd, h0, if_true, ints_len]
      rw [if_pos ⟨by omega, by omega, .inl trivial⟩, hp]
      simp [ints, List.map_take]
    simp only [hsl, go_sem]
    refine ⟨G, le_refl', h n2 fun hh => ?_⟩
    rw [hp, hn2 hh]
    simp
end Go.Proofs.Ytlaojbclmcageaa

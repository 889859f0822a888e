/- The law of stations that find numbers of their own. -/
import Derived.Test.YtadpakkenokilaaM2e
import Derived.Test.YtadpakkenokilaaM2f
set_option autoImplicit false
set_option maxRecDepth 100000
set_option linter.unusedVariables false
set_option linter.unusedSimpArgs false
namespace Go.Proofs.Ytadpakkenokilaa
open Go Go.AM Go.Proofs
theorem lost_nil : lostB [] = never := by funext f; simp [lostB, never]
theorem keyInt {k : Int} {f : AV → Option AV} : lookKA Try.prog 3 (.d (.int .i64 k)) f = f (.d (.int .i64 k)) := by
  simp only [lookKA, Try.underlying3, keyOk, decide_true, if_true]
theorem keyEq_int {a b : Int} : keyEq (.int .i64 a) (.int .i64 b) = some (a == b) := by simp [keyEq]
def Keys (es : List MEnt) (l : List Int) : Prop := es.map (fun e => (e.key, e.val)) = l.map fun k => (Dat.int .i64 k, AV.d (.bool true))
theorem findE_no {k : Int} : ∀ {es : List MEnt} {l : List Int} (i : Nat), Keys es l → k ∉ l → findE (.int .i64 k) es i = some none
  | [], _, _, _, _ => rfl
  | e :: es, [], _, h, _ => by simp [Keys] at h
  | e :: es, y :: l, i, h, hk => by
    simp only [Keys, List.map_cons, List.cons.injEq, Prod.mk.injEq] at h
    have hne : (k == y) = false := by
      have : k ≠ y := fun he => hk (he ▸ List.mem_cons_self ..)
      simpa using this
    simp only [findE, h.1.1, keyEq_int, hne]
    exact findE_no (i + 1) h.2 fun hm => hk (List.mem_cons_of_mem _ hm)
/-- All stations begun. -/
def begun (n : Nat) : List St := List.replicate n (newSt true []).begin
theorem begun_get {n i : Nat} (h : i < n) : (begun n).getD i default = (newSt true []).begin := by
  rw [begun, List.getD_eq_getElem?_getD, List.getElem?_replicate, if_pos h]; rfl
theorem begun_fnd {n : Nat} (h : n ≤ 40) : Fnd (begun n) 0 := by
  have hl : (begun n).length = n := List.length_replicate
  have hb : (newSt true []).begin.Ok := new_ok.begin rfl
  refine ⟨by omega, fun i hi => ?_, fun i hi => ?_, fun i hi => ?_, fun i j hi hj hij h1 => ?_, fun i hi g g0 g1 => ?_, fun i hi h1 => ?_⟩
  all_goals rw [hl] at hi
  · rw [begun_get hi]; exact ⟨rfl, rfl⟩
  · rw [begun_get hi]; exact hb
  · rw [begun_get hi]; exact .inl rfl
  · rw [begun_get hi] at h1; exact absurd h1 (by decide)
  · rw [begun_get hi] at g1
    have : (newSt true []).begin.k = 0 := rfl
    omega
  · rw [begun_get hi]
    decide
theorem finds_law {b : UInt8} : CallsA Try.prog 4 [.d (.int .u8 b.toNat)] noHeap fun v _ => v = .d (.bool true) := by
  have hb := b.toNat_lt
  apply C4
  unfold S4
  simp only [intA_rem (a := (b.toNat : Int)) (b := 41) (by decide), go_sem]
  rw [wrap_i64 (n := (b.toNat : Int)) (by omega) (by omega)]
  simp only [intA_rem (b := 41) (by decide), go_sem]
  rw [Int.tmod_eq_emod_of_nonneg (by omega), show (b.toNat : Int) % 41 = ((b.toNat % 41 : Nat) : Int) by omega]
  generalize hn : b.toNat % 41 = n
  have hn40 : n ≤ 40 := by omega
  clear hn hb
  refine newNil_c fun k H1 hB hle hk1 => ?_
  try simp only [go_sem]
  refine loop_ind (fun r vs G => ∃ (i : Nat) (sv : AV) (ids : List Nat), i ≤ n ∧ r = n - i ∧ BusAt G k true [] sv ids (begun i) 0 ∧ vs = [.d (.int .i64 n), .ptr k 0 0 0, .d (.int .i64 i), .junk, .junk, .junk]) (n := n) ⟨0, _, _, by omega, by omega, hB, rfl⟩ ?_
  rintro X r vs G ⟨i, sv, ids, hi, rfl, hG, rfl⟩ hX
  simp only [List.getD_cons_succ, List.getD_cons_zero, go_sem]
  split
  · rename_i hlt
    have hi' : i < n := by omega
    have hbl : (begun i).length = i := List.length_replicate
    refine Add_c (row := []) hG (by simp) (by simp) (fun _ => rfl) (fun h => by omega) fun _ G1 sv1 ids1 hG1 _ _ => ?_
    try simp only [hbl, go_sem] at hG1
    try simp only [go_sem]
    have hlen : (begun i ++ [newSt true []]).length = i + 1 := by simp [hbl]
    have hget : (begun i ++ [newSt true []]).getD i default = newSt true [] := by
      rw [List.getD_eq_getElem?_getD, List.getElem?_append_right (by omega)]
      simp [hbl]
    refine Guess_c (i := i) hG1 (by omega) (by rw [hget]; rfl) fun G2 hG2 _ => ?_
    rw [hget] at hG2
    have hset : (begun i ++ [newSt true []]).set i (newSt true []).begin = begun (i + 1) := by
      rw [List.set_append_right _ _ (by omega), hbl, Nat.sub_self, List.set_cons_zero, begun, begun, List.replicate_succ']
    rw [hset] at hG2
    rw [wrap_i64 (by omega) (by omega)]
    exact hX (n - (i + 1)) _ _ (by omega) ⟨i + 1, sv1, ids1, by omega, rfl, hG2, by simp⟩
  · rename_i hge
    have : i = n := by omega
    subst this
    clear hX hB hle hk1
    -- what is left, when the bus is quiet
    have tail : ∀ (G : AHeap) (sts : List St) (f t : Int), BusAt G k true [] sv ids sts f → Fnd sts t → sts.length = i → quietB sts = true → ∀ u3 : AV,
        newK G (fun n66 => some (.map n66, [(n66, .map [] 0)])) fun v64 H65 => loopA (fun X67 l68 H69 => optA (intA .lss (l68.getD 5 .junk) (l68.getD 0 .junk)) fun v70 => ifA v70 (frzLK [l68.getD 1 .junk, l68.getD 5 .junk] H69 fun l73 H74 => CallsA Try.prog 16 l73 H74 fun v71 H72 => frzLK [l68.getD 1 .junk, l68.getD 5 .junk] H72 fun l77 H78 => CallsA Try.prog 17 l77 H78 fun v75 H76 => optA (intA .neq v75 (.d (.int .i64 2))) fun v79 => ifA v79 (retF [.d (.bool false)] H76 fun v _ => v = .d (.bool true)) (optA (intA .lss v71 (.d (.int .i64 1))) fun v80 => ifA v80 (retF [.d (.bool false)] H76 fun v _ => v = .d (.bool true)) (optA (intA .gtr v71 (.d (.int .i64 253))) fun v81 => ifA v81 (retF [.d (.bool false)] H76 fun v _ => v = .d (.bool true)) (optA (lookKA Try.prog 3 v71 (fun kk => lookA (.d (.bool false)) (l68.getD 4 .junk) kk false H76)) fun v82 => ifA v82 (retF [.d (.bool false)] H76 fun v _ => v = .d (.bool true)) (stepK (muA Try.prog 3 (l68.getD 4 .junk) v71 (.d (.bool true)) H76) H76 fun v83 H84 => optA (intA .add (l68.getD 5 .junk) (.d (.int .i64 1))) fun v85 => X67 [l68.getD 0 .junk, l68.getD 1 .junk, l68.getD 2 .junk, l68.getD 3 .junk, l68.getD 4 .junk, v85] H84))))) (frzLK [l68.getD 1 .junk] H69 fun l88 H89 => CallsA Try.prog 14 l88 H89 fun v86 H87 => ifA v86 (frzLK [] H87 fun l92 H93 => CallsA Try.prog 10 l92 H93 fun v90 H91 => retF [v90] H91 fun v _ => v = .d (.bool true)) (retF [.d (.bool false)] H87 fun v _ => v = .d (.bool true)))) [.d (.int .i64 i), .ptr k 0 0 0, .d (.int .i64 i), u3, v64, .d (.int .i64 0)] H65 := by
      intro G sts f t hB hF hl hq u3 m hm
      simp only [stepK, optA, AHeap.sets]
      have hq' := quietB_lt.1 hq
      have hset : ∀ j, j < i → (sts.getD j default).state = 2 ∧ (sts.getD j default).sent = 8 ∧ (sts.getD j default).node = (sts.getD j default).k + 1 := fun j hj => by
        rcases hF.st j (by omega) with h1 | h1
        · exact absurd h1 (hq' j (by omega))
        · exact h1
      let ns : Nat → List Int := fun j => (List.range j).map fun x => (sts.getD x default).node
      refine loop_ind (fun r vs G' => ∃ (j : Nat) (es : List MEnt) (cl : Nat), j ≤ i ∧ r = i - j ∧ BusAt G' k true [] sv ids sts f ∧ G' m = some (.map es cl) ∧ Keys es (ns j) ∧ vs = [.d (.int .i64 i), .ptr k 0 0 0, .d (.int .i64 i), u3, .map m, .d (.int .i64 j)]) (n := i)
        ⟨0, [], 0, by omega, by omega, hB.le (le_set le_refl' hm), set_self, rfl, rfl⟩ ?_
      rintro X r vs G' ⟨j, es, cl, hj, rfl, hB', hm', hK, rfl⟩ hX
      simp only [List.getD_cons_succ, List.getD_cons_zero, go_sem]
      split
      · rename_i hlt
        have hj' : j < i := by omega
        obtain ⟨s1, s2, s3⟩ := hset j hj'
        have hok := hF.ok j (by omega)
        have hnode : nodeB sts (j : Int) = (sts.getD j default).node := by
          unfold nodeB
          rw [if_pos ⟨by omega, by omega⟩, Int.toNat_natCast]
          unfold nodeOf
          rw [s1]
          simp
        have hstate : stateB sts (j : Int) = 2 := by
          unfold stateB
          rw [if_pos ⟨by omega, by omega⟩, Int.toNat_natCast, s1]
        have hnew : (sts.getD j default).node ∉ ns j := fun hh => by
          obtain ⟨x, hx, he⟩ := List.mem_map.1 hh
          have hx := List.mem_range.1 hx
          obtain ⟨x1, x2, x3⟩ := hset x (by omega)
          exact hF.strong x j (by omega) (by omega) (by omega) (by omega) (by omega) (by omega)
        have hk0 := hok.k
        have hn2 := hok.node
        refine Node_c hB' ?_
        simp only [go_sem]
        refine State_c hB' ?_
        rw [hnode, hstate]
        simp only [ne_eq, not_true_eq_false, if_false, go_sem]
        rw [if_neg (show ¬ (sts.getD j default).node < 1 by omega)]
        try simp only [go_sem]
        rw [if_neg (show ¬ 253 < (sts.getD j default).node by omega)]
        simp only [keyInt, lookA, hm', findE_no 0 hK hnew, Bool.false_eq_true, if_false, go_sem]
        have hmu : muA Try.prog 3 (.map m) (.d (.int .i64 (sts.getD j default).node)) (.d (.bool true)) G' = some (.junk, [(m, .map (es ++ [⟨.int .i64 (sts.getD j default).node, .d (.bool true), cl⟩]) (cl + 1))]) := by
          simp only [muA, Try.underlying3, keyOk, decide_true, AV.storable, and_self, if_true, mapSetA, hm', findE_no 0 hK hnew]
        simp only [hmu, go_sem]
        rw [wrap_i64 (by omega) (by omega)]
        refine hX (i - (j + 1)) _ _ (by omega) ⟨j + 1, _, _, by omega, rfl, hB'.keep fun x hx => set_ne fun he => ?_, set_self, ?_, by simp⟩
        · subst he
          have h1 := hB'.foot hx
          rcases hx with rfl | hx | hx
          · rw [hB'.node] at hm'; cases hm'
          · rcases hB'.sts.sl with ⟨_, rfl⟩ | ⟨y, ver, L, rfl, h3, _⟩
            · cases hx
            · cases hx; rw [h3] at hm'; cases hm'
          · obtain ⟨y, hy, he⟩ := List.mem_iff_getElem.1 hx
            have := hB'.sts.obj y (by rw [← hB'.sts.len]; exact hy)
            rw [List.getD_eq_getElem?_getD, List.getElem?_eq_getElem hy, he] at this
            simp only [Option.getD_some] at this
            rw [this] at hm'; cases hm'
        · have : ns (j + 1) = ns j ++ [(sts.getD j default).node] := by simp only [ns, List.range_succ, List.map_append, List.map_cons, List.map_nil]
          rw [this]
          unfold Keys at hK ⊢
          rw [List.map_append, List.map_append, hK]
          rfl
      · rename_i hge2
        refine Quiet_c hB' ?_
        rw [hq]
        simp only [if_true, go_sem]
        exact awake_end
    refine loop_ind (fun r vs G => ∃ (t : Nat) (sts : List St) (f : Int), t ≤ 2700 ∧ r = 2700 - t ∧ BusAt G k true [] sv ids sts f ∧ Fnd sts t ∧ sts.length = i ∧ 0 ≤ f ∧ f ≤ 1640 * t ∧ vs = [.d (.int .i64 i), .ptr k 0 0 0, .d (.int .i64 i), .d (.int .i64 t), .junk, .junk]) (n := 2700)
      ⟨0, _, 0, by omega, by omega, hG, begun_fnd hn40, List.length_replicate, by omega, by omega, rfl⟩ ?_
    rintro X r vs G2 ⟨t, sts, f, ht, rfl, hG2, hF, hl, hf0, hf1, rfl⟩ hX
    have tl := fun hq => tail G2 sts f t hG2 hF hl hq (.d (.int .i64 t))
    have noguess : 2700 ≤ t → quietB sts = true := fun h27 => by
      rw [quietB_lt]
      intro j hj h1
      have h2 := hF.pot j hj h1
      have h3 := (hF.ok j hj).go h1
      omega
    simp only [List.getD_cons_succ, List.getD_cons_zero, go_sem] at tl ⊢
    split
    · rename_i hlt
      refine Quiet_c hG2 ?_
      cases hq : quietB sts with
      | true =>
        simp only [Bool.not_true, Bool.false_eq_true, if_false, go_sem]
        exact tl hq
      | false =>
        simp only [Bool.not_false, if_true, go_sem]
        have hs := step_f (lost := never) (f := f) (by omega : sts.length ≤ 40)
        refine Step_c hG2 rising_nil (by simp) (by omega) fun G3 hG3 _ => ?_
        rw [lost_nil] at hG3
        rw [wrap_i64 (by omega) (by omega)]
        refine hX (2700 - (t + 1)) _ _ (by omega) ⟨t + 1, _, _, by omega, rfl, hG3, ?_, by rw [step_len]; exact hl, by omega, by omega, by simp⟩
        have := hF.step (f := f)
        rwa [show ((t + 1 : Nat) : Int) = (t : Int) + 1 by omega]
    · rename_i hge2
      exact tl (noguess (by omega))
theorem finds_row (xs : List Dat) (h : DatOk Try.prog 9 5 xs) : CallsA Try.prog 4 [argAV (aggT Try.prog 5) xs] noHeap fun v _ => v = .d (.bool true) := by
  rw [datOk_int (show Try.prog.underlying 5 = some (.int .u8) from Try.underlying5)] at h
  obtain ⟨a, rfl, hw⟩ := h
  have hb := Go.bounds_u8 hw
  rw [show aggT Try.prog 5 = false by kernel_rfl]
  have e : a = ((UInt8.ofNat a.toNat).toNat : Int) := by rw [UInt8.toNat_ofNat']; omega
  have := finds_law (b := UInt8.ofNat a.toNat)
  rw [← e] at this
  exact this
end Go.Proofs.Ytadpakkenokilaa

/- Several of my texts as one. -/
import Derived.Test.YtmciomkibklokaaG23f
import Derived.Test.YtmciomkibklokaaT23i
import Derived.Test.YtmciomkibklokaaM23s
import Derived.Test.YtmciomkibklokaaA29
import Derived.Test.YtmciomkibklokaaG23a
set_option linter.unnecessarySimpa false
/- The document's Load: the walk. -/
set_option autoImplicit false
set_option maxRecDepth 100000
set_option linter.unusedVariables false
set_option linter.unusedSimpArgs false
set_option linter.unnecessarySimpa false
namespace Go.Proofs.Ytmciomkibklokaa
open Go Go.AM Go.Proofs Go.RowKit
section
variable {all : By} {H0 H G : AHeap} {q k : Nat} {st : St} {iv pv cv : AV} {il : List Ic} {pl : List Pg} {cl : List Cm} {K : AV → AHeap → Prop} {X : AHeap → Prop}
theorem errEq {A B : Prop} (hR : RD all H q st) (h1 : ∀ r, st = .ok r → A) (h2 : ∀ e, st = .error e → B) : optA (nilCkA (.ptr q 0 0 0)) fun v50 => optA (fieldA ti79 v50 2) fun v51 => optA (ldV false 1 v51 H) fun v52 => optA (intA .eql v52 (.d (.int .i64 0))) fun v53 => ifA v53 A B := by
  obtain ⟨e, g1, g2, g3⟩ := hR.err
  simp only [nilCkA, ti79_f2, Nat.zero_add, g1, optA_some, intA_eql]
  cases st with
  | ok r =>
    obtain rfl : e = 0 := g2.2 ⟨r, rfl⟩
    exact h1 r rfl
  | error e' =>
    have hne : ¬ e = 0 := fun h0 => by obtain ⟨r, hr⟩ := g2.1 h0; cases hr
    simp only [hne, decide_false, ifA_f]
    exact h2 e' rfl
theorem errNe {A B : Prop} (hR : RD all H q st) (h1 : ∀ r, st = .ok r → A) (h2 : ∀ e, st = .error e → B) : optA (nilCkA (.ptr q 0 0 0)) fun v50 => optA (fieldA ti79 v50 2) fun v51 => optA (ldV false 1 v51 H) fun v52 => optA (intA .neq v52 (.d (.int .i64 0))) fun v53 => ifA v53 B A := by
  obtain ⟨e, g1, g2, g3⟩ := hR.err
  simp only [nilCkA, ti79_f2, Nat.zero_add, g1, optA_some, intA_neq]
  cases st with
  | ok r =>
    obtain rfl : e = 0 := g2.2 ⟨r, rfl⟩
    exact h1 r rfl
  | error e' =>
    have hne : ¬ e = 0 := fun h0 => by obtain ⟨r, hr⟩ := g2.1 h0; cases hr
    simp only [ne_eq, hne, not_false_eq_true, decide_true, ifA_t]
    exact h2 e' rfl
theorem headL {A B : Prop} {i n : Int} (hR : RD all H q st) (h1 : ∀ r, i < n → st = .ok r → A) (h2 : (∀ r, st = .ok r → ¬ i < n) → B) : optA (intA .lss (.d (.int .i64 i)) (.d (.int .i64 n))) fun v => ifA v (optA (nilCkA (.ptr q 0 0 0)) fun v50 => optA (fieldA ti79 v50 2) fun v51 => optA (ldV false 1 v51 H) fun v52 => optA (intA .eql v52 (.d (.int .i64 0))) fun v53 => ifA v53 A B) B := by
  simp only [intA_lss, optA_some, ifA_ite]
  refine ite_of' (fun hlt => ?_) fun hlt => h2 fun _ _ => hlt
  exact errEq hR (fun r hr => h1 r hlt hr) fun e he => h2 fun r hr => by rw [he] at hr; cases hr
theorem ftake {n : Nat} (h : RD all H q st) (hn : n < 2 ^ 40) (hk : ∀ nl (b : By) H', RD all H' q (sTk n st) → (∀ r, st = .ok r → n ≤ r.length → b = r.take n) → b.length = n → Fq q H H' → K (.d (.sl nl (bs b))) H') : frzLK [.ptr q 0 0 0, .d (.int .i64 n)] H fun l H1 => CallsA Try.prog 39 l H1 K := by
  simp only [frzLK_ptr, frzLK_d, frzLK_nil]
  exact rtake_c h hn hk
theorem fwhole (h : RD all H q st) (hk : ∀ (v : Int) H', RD all H' q (sTk 8 st) → (∀ r, st = .ok r → 8 ≤ r.length → v = wrap64 (be (r.take 8))) → Fq q H H' → K (.d (.int .i64 v)) H') : frzLK [.ptr q 0 0 0, .d (.int .i64 8)] H fun l H1 => CallsA Try.prog 40 l H1 K := by
  simp only [frzLK_ptr, frzLK_d, frzLK_nil]
  exact rnum_c (n := 8) h (by omega) fun v H' h1 h2 _ h3 => hk v H' h1 h2 h3
theorem fnum {n : Nat} (h : RD all H q st) (hn : n ≤ 4) (hk : ∀ (v : Int) H', RD all H' q (sTk n st) → (∀ r, st = .ok r → n ≤ r.length → v = be (r.take n)) → Fq q H H' → K (.d (.int .i64 v)) H') : frzLK [.ptr q 0 0 0, .d (.int .i64 n)] H fun l H1 => CallsA Try.prog 40 l H1 K := by
  simp only [frzLK_ptr, frzLK_d, frzLK_nil]
  exact rnum_c (n := n) h (by omega) fun v H' h1 h2 _ h3 => hk v H' h1 (fun r hr hle => by rw [h2 r hr hle, rnum_small hn hle]) h3
theorem fcheck {b : Bool} {e : Int} {st' : St} (h : RD all H q st) (he : e ≠ 0) (hs : must b e st = st') (hk : ∀ v H', RD all H' q st' → Fq q H H' → K v H') : frzLK [.ptr q 0 0 0, .d (.bool b), .d (.int .i64 e)] H fun l H1 => CallsA Try.prog 41 l H1 K := by
  subst hs
  simp only [frzLK_ptr, frzLK_d, frzLK_nil]
  exact check_c h he fun H' h1 h2 => hk _ H' h1 h2
theorem fcount (h : RD all H q st) (hk : ∀ (v : Int) H', RD all H' q (sCnt st) → (∀ r, st = .ok r → 2 ≤ r.length → be (r.take 2) ≤ 200 → v = be (r.take 2)) → Fq q H H' → K (.d (.int .i64 v)) H') : frzLK [.ptr q 0 0 0] H fun l H1 => CallsA Try.prog 38 l H1 K := by
  simp only [frzLK_ptr, frzLK_d, frzLK_nil]
  exact rcount_c h fun v H' h1 h2 _ h3 => hk v H' h1 h2 h3
theorem sCnt_ok {r : By} (h : sCnt st = .ok r) : ∃ r0, st = .ok r0 ∧ 2 ≤ r0.length ∧ be (r0.take 2) ≤ 200 := by
  cases st with
  | error e => cases h
  | ok r' =>
    simp only [sCnt] at h
    split at h
    · split at h
      · rename_i h1 h2; exact ⟨r', rfl, h1, h2⟩
      · cases h
    · cases h
theorem run_err {β : Type} {e : Int} {f g : By → Rd β} : run (.error e) f = run (.error e) g := rfl
theorem must_err {b b' : Bool} {e e' : Int} : must b e' (.error e : St) = must b' e' (.error e) := rfl
/-- The end: all of it read, or an error. -/
theorem rend {nl : Bool} {n3 : AV} (hR : RD all H q st) (hB : RB H0 H k q iv pv cv il pl cl)
    (hke : ∀ e H', AHeap.le H0 H' → st = .error e ∨ ((∃ r, st = .ok r ∧ r ≠ []) ∧ e = 3) → K (.tup [.nilptr, .d (.int .i64 e)]) H')
    (hk : ∀ H', st = .ok [] → RB H0 H' k q iv pv cv il pl cl → K (.tup [.ptr k 0 0 0, .d (.int .i64 0)]) H') :
    optA (nilCkA (.ptr q 0 0 0)) fun v255 => optA (fieldA ti79 v255 1) fun v256 => optA (ldV false 1 v256 H) fun v257 => optA (lenSl (.d (.sl nl (bs all)))) fun v258 => optA (intA .eql v257 v258) fun v259 => frzLK [.ptr q 0 0 0, v259, .d (.int .i64 3)] H fun l262 H263 => CallsA Try.prog 41 l262 H263 fun v260 H261 => optA (nilCkA (.ptr q 0 0 0)) fun v264 => optA (fieldA ti79 v264 2) fun v265 => optA (ldV false 1 v265 H261) fun v266 => optA (intA .neq v266 (.d (.int .i64 0))) fun v267 => ifA v267 (drA true (optA (nilCkA (.ptr q 0 0 0)) fun v268 => optA (fieldA ti79 v268 2) fun v269 => optA (ldV false 1 v269 H261) fun v270 => retF [.nilptr, v270] H261 K)) (retF [.ptr k 0 0 0, .d (.int .i64 0)] H261 K) := by
  have fin : ∀ (b : Bool) (st' : St), must b 3 st = st' → (∀ e, st' = .error e → st = .error e ∨ ((∃ r, st = .ok r ∧ r ≠ []) ∧ e = 3)) → (∀ r, st' = .ok r → st = .ok []) → frzLK [.ptr q 0 0 0, .d (.bool b), .d (.int .i64 3)] H fun l262 H263 => CallsA Try.prog 41 l262 H263 fun v260 H261 => optA (nilCkA (.ptr q 0 0 0)) fun v264 => optA (fieldA ti79 v264 2) fun v265 => optA (ldV false 1 v265 H261) fun v266 => optA (intA .neq v266 (.d (.int .i64 0))) fun v267 => ifA v267 (drA true (optA (nilCkA (.ptr q 0 0 0)) fun v268 => optA (fieldA ti79 v268 2) fun v269 => optA (ldV false 1 v269 H261) fun v270 => retF [.nilptr, v270] H261 K)) (retF [.ptr k 0 0 0, .d (.int .i64 0)] H261 K) := fun b st' hs h1 h2 => by
    refine fcheck hR (by decide) hs fun v H1 R1 F1 => ?_
    have B1 := hB.fq F1
    refine errNe R1 (fun r hr => ?_) fun e he => ?_
    · simp only [ret2_ptrd]
      exact ⟨_, le_refl', hk H1 (h2 r hr) B1⟩
    · obtain ⟨e', g1, g2, g3⟩ := R1.err
      obtain rfl := g3 e he
      simp only [drA_true, nilCkA, ti79_f2, Nat.zero_add, g1, optA_some, ret2_nilptrd]
      exact ⟨_, le_refl', hke e' H1 B1.le0 (h1 e' he)⟩
  have hat : ∃ at' : Nat, ldV false 1 (.ptr q 0 0 1) H = some (.d (.int .i64 at')) ∧ at' ≤ all.length ∧ ∀ r, st = .ok r → r = all.drop at' := by
    cases st with
    | ok r => obtain ⟨h0, nl, a, h1, h2, h⟩ := hR; exact ⟨a, ldV_at h rfl rfl, h1, fun r' hr => by cases hr; exact h2⟩
    | error e => obtain ⟨h0, h1, nl, a, h2, h⟩ := hR; exact ⟨a, ldV_at h rfl rfl, h2, fun r' hr => by cases hr⟩
  obtain ⟨a, g1, hle, hd⟩ := hat
  simp only [nilCkA, ti79_f1, Nat.zero_add, g1, optA_some, lenSl_d, bs_length, intA_eql]
  refine fin _ _ rfl (fun e he => ?_) fun r hr => ?_
  · cases st with
    | error e' => exact .inl he
    | ok r =>
      refine .inr ⟨⟨r, rfl, ?_⟩, ?_⟩
      · intro hr
        have := hd r rfl
        rw [hr] at this
        have h2 : all.length - a = 0 := by have := congrArg List.length this; simp at this; omega
        simp only [must] at he
        rw [if_pos (by rw [decide_eq_true]; omega)] at he
        cases he
      · simp only [must] at he
        split at he
        · cases he
        · cases he; rfl
  · obtain ⟨h1, h2⟩ := must_ok hr
    have h3 := hd r h1
    have h5 : (a : Int) = all.length := by simpa using h2
    have h4 : a = all.length := by omega
    rw [h1, h3, h4, List.drop_length]
end
end Go.Proofs.Ytmciomkibklokaa
/- The document's Load: the walk. -/
set_option autoImplicit false
set_option maxRecDepth 100000
set_option linter.unusedVariables false
set_option linter.unusedSimpArgs false
set_option linter.unnecessarySimpa false
namespace Go.Proofs.Ytmciomkibklokaa
open Go Go.AM Go.Proofs Go.RowKit
theorem kp_le {v : AV} {H H' : AHeap} (hv : v ≠ .junk) (hs : ∀ i, idOf v = some i → (H i).isSome) (hle : AHeap.le H H') : kp v H H' := by
  unfold kp
  split
  · exact hv rfl
  · split
    · rename_i i hi
      have := hs i hi
      cases hx : H i with
      | none => rw [hx] at this; cases this
      | some o => exact hle i o hx
    · trivial
theorem com_must {st : St} {last id : Int} (e1 : ∀ r, st = .ok r → 4 ≤ r.length → id = be (r.take 4)) (hlast : ∀ r, st = .ok r → 0 ≤ last) : must (decide (id > last)) 3 (sTk 4 st) = must (decide (id > last)) 3 (sNum 4 1 4294967295 st) := by
  cases st with
  | error e => rfl
  | ok r =>
    have h0 := hlast r rfl
    simp only [sTk, sNum]
    by_cases hle : 4 ≤ r.length
    · have := e1 r rfl hle
      subst this
      have hlt := be_lt (r.take 4)
      have hl : (r.take 4).length = 4 := by simp; omega
      rw [hl] at hlt
      rw [if_pos hle, if_pos hle]
      by_cases h1 : (1 : Int) ≤ be (r.take 4) ∧ (be (r.take 4) : Int) ≤ 4294967295
      · rw [if_pos h1]
      · rw [if_neg h1]
        have : decide ((be (r.take 4) : Int) > last) = false := by rw [decide_eq_false]; omega
        rw [this]; rfl
    · rw [if_neg hle, if_neg hle]
section
variable {H : AHeap} {K : AV → AHeap → Prop}
theorem RLoad_c {nl : Bool} {b : By} (hl : b.length < 2 ^ 50)
    (hke : ∀ e H', AHeap.le H H' → parse b = .error e → K (.tup [.nilptr, .d (.int .i64 e)]) H')
    (hk : ∀ k q iv pv cv il pl cs H', parse b = .ok (il, pl, cs) → RB H H' k q iv pv cv il pl cs → K (.tup [.ptr k 0 0 0, .d (.int .i64 0)]) H') : CallsA Try.prog 11 [.d (.sl nl (bs b))] H K := by
  apply C11
  unfold S11
  rw [show bdA Try.prog ti79 [0] [.d (.sl nl (bs b))] H = some (.agg [.d (.sl nl (bs b)), .d (.int .i64 0), .d (.int .i64 0)], []) from rfl]
  simp only [stepK_some, AHeap.sets]
  refine box_open rfl fun q G1 hG1 hle1 hq => ?_
  simp only [frzLK_nil]
  refine RNew_c fun k G2 hG2 hle2 hk0 => ?_
  have hkq : k ≠ q := fun he => by rw [he, hG1] at hk0; cases hk0
  have hkH : H k = none := by
    cases hx : H k with
    | none => rfl
    | some o => rw [hle1 k o hx] at hk0; cases hk0
  have hR0 : RD b G2 q (.ok b) := ⟨hl, nl, 0, Nat.zero_le _, by simp, hle2 _ _ hG1⟩
  have hB0 : RB H G2 k q (.d (.sl true [])) (.d (.sl true [])) (.d (.sl true [])) [] [] [] :=
    ⟨hG2, ⟨by simp, .inl ⟨rfl, rfl⟩⟩, ⟨by simp, .inl ⟨rfl, rfl⟩⟩, ⟨by simp, .inl ⟨rfl, rfl⟩⟩, hkq, fun h => (by cases h), fun h => (by cases h), fun h => (by cases h), fun h => (by cases h), le_trans' hle1 hle2, hkH, hq, fun i h => (by cases h), fun i h => (by cases h), fun i h => (by cases h)⟩
  obtain ⟨W, hW0⟩ : ∃ W, pG0 b = W := ⟨_, rfl⟩
  have hP : parse b = toE W := by rw [parse, hW0]
  refine fcount hR0 fun n G3 R3 hn1 F3 => ?_
  have B3 := hB0.fq F3
  obtain ⟨nn, hnn⟩ : ∃ nn : Nat, nn = n.toNat := ⟨_, rfl⟩
  have hW1 : run (sCnt (.ok b)) (fun r => bnd (icons nn [] r) pG1) = W := by
    rw [← run_cnt (f := fun n r => bnd (icons n [] r) pG1) (fun r h1 h2 h3 => by have := hn1 r h1 h2 h3; omega)]; exact hW0
  have hbound : ∀ r, sCnt (.ok b) = .ok r → n = nn ∧ nn ≤ 200 := fun r hr => by
    obtain ⟨r0, h1, h2, h3⟩ := sCnt_ok hr
    have := hn1 r0 h1 h2 h3
    omega
  clear hG1 hG2 hle1 hle2 hk0 hR0 hB0 hW0 hn1 F3
  have step1 : ∀ (st : St) (n : Int) (nn : Nat) (iv : AV) (il : List Ic), True := fun _ _ _ _ _ => trivial
  refine loop_ind (fun m vs G => ∃ (i : Nat) (st : St) (iv : AV) (il : List Ic) (x5 x6 x7 : AV), m = nn - i ∧ RD b G q st ∧ RB H G k q iv (.d (.sl true [])) (.d (.sl true [])) il [] [] ∧ il.length ≤ i ∧ (∀ r, st = .ok r → n = nn ∧ nn ≤ 200 ∧ i ≤ nn) ∧ run st (fun r => bnd (icons (nn - i) il r) pG1) = W ∧ vs = [.d (.sl nl (bs b)), .ptr q 0 0 0, .ptr k 0 0 0, .d (.int .i64 n), .d (.int .i64 i), x5, x6, x7]) (n := nn)
    ⟨0, _, _, [], _, _, _, rfl, R3, B3, Nat.le_refl _, fun r hr => ⟨(hbound r hr).1, (hbound r hr).2, Nat.zero_le _⟩, hW1, rfl⟩ ?_
  clear R3 B3 hW1 hbound step1
  rintro X m vs G ⟨i, st, iv, il, x5, x6, x7, rfl, hR, hB, hil, hin, hrun, rfl⟩ hX
  refine headL (i := (i : Int)) (n := n) hR (fun r0 hlt hok => ?_) fun hend => ?_
  · obtain ⟨hn1, hn2, hn3⟩ := hin r0 hok
    have hlt' : i < nn := by omega
    have hdec : nn - i = (nn - (i + 1)) + 1 := by omega
    rw [hdec] at hrun
    refine fun J hJ => ?_
    have hJ' : ∀ (st' : St) (iv' : AV) (il' : List Ic) (H' : AHeap), RD b H' q st' → RB H H' k q iv' (.d (.sl true [])) (.d (.sl true [])) il' [] [] → il'.length ≤ i + 1 → run st' (fun r => bnd (icons (nn - (i + 1)) il' r) pG1) = W → J [.d (.sl nl (bs b)), .ptr q 0 0 0, .ptr k 0 0 0, .d (.int .i64 n), .d (.int .i64 i), x5, x6, x7] H' := fun st' iv' il' H' h1 h2 h3 h4 => by
      refine hJ _ _ ?_
      simp only [List.getD_cons_succ, List.getD_cons_zero, intA_add, optA_some]
      rw [wrap_i64 (by omega) (by omega)]
      exact hX (nn - (i + 1)) _ _ (by omega) ⟨i + 1, st', iv', il', _, _, _, rfl, h1, h2, h3, fun _ _ => ⟨hn1, hn2, by omega⟩, h4, rfl⟩
    clear hJ hX
    simp only [List.getD_cons_succ, List.getD_cons_zero]
    refine ftake (n := 4) hR (by omega) fun nl1 b1 A1 R1 e1 l1 F1 => ?_
    simp only [cvBS_bs, optA_some]
    refine ftake (n := 4) R1 (by omega) fun nl2 b2 A2 R2 e2 l2 F2 => ?_
    simp only [cvBS_bs, optA_some]
    refine fnum (n := 1) R2 (by omega) fun s A3 R3 e3 F3 => ?_
    simp only [frzLK_d, frzLK_nil]
    refine isSize_c ?_
    refine fcheck R3 (by decide) (must_num (lo := 1) (hi := 6) e3 fun r _ _ => by rw [decide_eq_true_eq]) fun _ A4 R4 F4 => ?_
    have F := ((F1.trans F2).trans F3).trans F4
    have B4 := hB.fq F
    refine fun J2 hJ2 => ?_
    have hJ2' : ∀ (ix : Int) (H' : AHeap), RD b H' q (must (decide (ix < 0)) 3 (sNum 1 1 6 (sTk 4 (sTk 4 st)))) → Fq q A4 H' → (ix < 0 ↔ dupI il b1 b2 s = false) → J2 [.d (.sl nl (bs b)), .ptr q 0 0 0, .ptr k 0 0 0, .d (.int .i64 n), .d (.int .i64 i), .d (.str (bytes b1)), .d (.str (bytes b2)), .d (.int .i64 s), x5, x6, x7] H' := fun ix A5 R5 F5 hix => by
      have B5 := B4.fq F5
      refine hJ2 _ _ ?_
      simp only [List.getD_cons_succ, List.getD_cons_zero]
      refine fwhole R5 fun t A6 R6 e4 F6 => ?_
      refine fnum (n := 2) R6 (by omega) fun mm A7 R7 e5 F7 => ?_
      refine fun J3 hJ3 => ?_
      have B7 := (B5.fq F6).fq F7
      have hJ3' : ∀ (H' : AHeap), RD b H' q (sNum 2 1 500 (sTk 8 (must (decide (ix < 0)) 3 (sNum 1 1 6 (sTk 4 (sTk 4 st)))))) → Fq q A7 H' → J3 [.d (.sl nl (bs b)), .ptr q 0 0 0, .ptr k 0 0 0, .d (.int .i64 n), .d (.int .i64 i), .d (.str (bytes b1)), .d (.str (bytes b2)), .d (.int .i64 s), .d (.int .i64 t), .d (.int .i64 mm), x5, x6, x7] H' := fun A8 R8 F8 => by
        have B8 := B7.fq F8
        refine hJ3 _ _ ?_
        simp only [List.getD_cons_succ, List.getD_cons_zero]
        have key : ∀ (b3 : By), (∀ r, sNum 2 1 500 (sTk 8 (must (decide (ix < 0)) 3 (sNum 1 1 6 (sTk 4 (sTk 4 st))))) = .ok r → mm.toNat ≤ r.length → b3 = r.take mm.toNat) → run (sTk mm.toNat (sNum 2 1 500 (sTk 8 (must (decide (ix < 0)) 3 (sNum 1 1 6 (sTk 4 (sTk 4 st))))))) (fun r => bnd (icons (nn - (i + 1)) (il ++ [⟨b1, b2, s, t, b3⟩]) r) pG1) = W := fun b3 h => by
          rw [← hrun]
          exact (icon_step (n := nn - (i + 1)) (i := ix) (mm := mm) e1 e2 (fun r h1 h2 _ _ => e3 r h1 h2) hix e4 (fun r h1 h2 _ _ => e5 r h1 h2) h).symm
        refine errEq R8 (fun r8 hr8 => ?_) fun e he => ?_
        · obtain ⟨r7, hr7, q1, q2, q3⟩ := sNum_ok hr8
          have hmm := e5 r7 hr7 q1
          obtain ⟨mn, rfl⟩ : ∃ mn : Nat, mm = mn := ⟨mm.toNat, by omega⟩
          refine ftake (n := mn) R8 (by omega) fun nl3 b3 A9 R9 e6 l6 F9 => ?_
          have B9 := B8.fq F9
          have hk3 := key b3 e6
          rw [Int.toNat_natCast] at hk3
          refine errEq R9 (fun r9 hr9 => ?_) fun e he => ?_
          · refine rpushI B9 (by omega) (by omega) R9.isS fun iv' H' hB' hq' => ?_
            exact hJ' _ iv' _ H' (R9.keep hq') hB' (by simp; omega) hk3
          · refine hJ' _ iv il A9 R9 B9 (by omega) ?_
            rw [← hk3, he]; exact run_err
        · have hk3 := key [] fun r hr => by rw [he] at hr; cases hr
          rw [he] at hk3 R8
          refine hJ' _ iv il A8 R8 B8 (by omega) ?_
          rw [← hk3]; exact run_err
      clear hJ3
      simp only [intA_geq, intA_leq, optA_some, ifA_ite]
      refine ite_of' (fun h1 => ?_) fun h1 => ?_
      · refine fcheck R7 (by decide) (must_num (lo := 1) (hi := 500) e5 fun r _ _ => by rw [decide_eq_true_eq]; exact ⟨fun h => ⟨h1, h⟩, fun h => h.2⟩) fun _ A8 R8 F8 => hJ3' A8 R8 F8
      · refine fcheck R7 (by decide) (must_num (lo := 1) (hi := 500) e5 fun r _ _ => ⟨fun h => (by cases h), fun h => absurd h.1 h1⟩) fun _ A8 R8 F8 => hJ3' A8 R8 F8
    clear hJ2
    refine errNe R4 (fun r hr => ?_) fun e he => ?_
    · refine ricon_c B4.base B4.ics (by omega) fun ix A5 le5 hix => ?_
      simp only [intA_lss, optA_some]
      refine fcheck (R4.le le5) (by decide) rfl fun _ A6 R6 F6 => hJ2' ix A6 R6 ((Fq.of le5).trans F6) hix
    · refine fcheck R4 (by decide) rfl fun _ A5 R5 F5 => ?_
      refine hJ2' (if dupI il b1 b2 s = false then -1 else 0) A5 ?_ F5 ?_
      · rw [he] at R5 ⊢; exact R5
      · split
        · simp [*]
        · simp [*]
  clear hX
  simp only [List.getD_cons_succ, List.getD_cons_zero]
  refine fcount hR fun n2 G2 R2 hn2 F2 => ?_
  have B2 := hB.fq F2
  obtain ⟨n2n, hn2n⟩ : ∃ n2n : Nat, n2n = n2.toNat := ⟨_, rfl⟩
  have hW2 : run (sCnt st) (fun r => bnd (progs n2n [] r) (pG2 il)) = W := by
    rw [← run_cnt (f := fun n r => bnd (progs n [] r) (pG2 il)) (fun r h1 h2 h3 => by have := hn2 r h1 h2 h3; omega)]
    rw [← hrun]
    cases st with
    | error e => rfl
    | ok r =>
      have h1 := hend r rfl
      have h2 := hin r rfl
      have h3 : nn - i = 0 := by omega
      rw [h3]; rfl
  have hbound : ∀ r, sCnt st = .ok r → n2 = n2n ∧ n2n ≤ 200 := fun r hr => by
    obtain ⟨r0, h1, h2, h3⟩ := sCnt_ok hr
    have := hn2 r0 h1 h2 h3
    omega
  clear hrun hn2 hB hR F2 hend hin hil
  refine loop_ind (fun m vs G => ∃ (j : Nat) (st : St) (pv : AV) (pl : List Pg) (x6 x7 : AV), m = n2n - j ∧ RD b G q st ∧ RB H G k q iv pv (.d (.sl true [])) il pl [] ∧ pl.length ≤ j ∧ (∀ r, st = .ok r → n2 = n2n ∧ n2n ≤ 200 ∧ j ≤ n2n) ∧ run st (fun r => bnd (progs (n2n - j) pl r) (pG2 il)) = W ∧ vs = [.d (.sl nl (bs b)), .ptr q 0 0 0, .ptr k 0 0 0, .d (.int .i64 n2), .d (.int .i64 i), .d (.int .i64 j), x6, x7]) (n := n2n)
    ⟨0, _, _, [], _, _, rfl, R2, B2, Nat.le_refl _, fun r hr => ⟨(hbound r hr).1, (hbound r hr).2, Nat.zero_le _⟩, hW2, rfl⟩ ?_
  clear R2 B2 hW2 hbound
  rintro X m vs G ⟨j, st, pv, pl, x6, x7, rfl, hR, hB, hpl, hin, hrun, rfl⟩ hX
  refine headL (i := (j : Int)) (n := n2) hR (fun r0 hlt hok => ?_) fun hend => ?_
  · obtain ⟨hn1, hn2, hn3⟩ := hin r0 hok
    have hlt' : j < n2n := by omega
    have hdec : n2n - j = (n2n - (j + 1)) + 1 := by omega
    rw [hdec] at hrun
    simp only [List.getD_cons_succ, List.getD_cons_zero]
    refine ftake (n := 4) hR (by omega) fun nl1 b1 A1 R1 e1 l1 F1 => ?_
    simp only [cvBS_bs, optA_some]
    refine fwhole R1 fun t A2 R2 e2 F2 => ?_
    refine fnum (n := 4) R2 (by omega) fun f A3 R3 e3 F3 => ?_
    simp only [intA_geq, optA_some]
    refine fcheck R3 (by decide) (must_num (lo := 1) (hi := 4294967295) e3 fun r h1 h2 => ?_) fun _ A4 R4 F4 => ?_
    · have hlt := be_lt (r.take 4)
      have hl : (r.take 4).length = 4 := by simp; omega
      rw [hl] at hlt
      have := e3 r h1 h2
      rw [decide_eq_true_eq]
      omega
    have F := ((F1.trans F2).trans F3).trans F4
    have B4 := hB.fq F
    refine fun J2 hJ2 => ?_
    have hJ2' : ∀ (bb : Bool) (H' : AHeap), RD b H' q (must bb 3 (sNum 4 1 4294967295 (sTk 8 (sTk 4 st)))) → Fq q A4 H' → (bb = true ↔ dupP pl b1 f = false) → J2 [.d (.sl nl (bs b)), .ptr q 0 0 0, .ptr k 0 0 0, .d (.int .i64 n2), .d (.int .i64 i), .d (.int .i64 j), .d (.str (bytes b1)), .d (.int .i64 t), .d (.int .i64 f), x6, x7] H' := fun bb A5 R5 F5 hbb => by
      refine hJ2 _ _ ?_
      simp only [List.getD_cons_succ, List.getD_cons_zero]
      refine rpushP (x := ⟨b1, t, f⟩) (B4.fq F5) (by omega) R5.isS fun pv' H' hB' hq' => ?_
      simp only [intA_add, optA_some]
      rw [wrap_i64 (by omega) (by omega)]
      refine hX (n2n - (j + 1)) _ _ (by omega) ⟨j + 1, _, pv', pl ++ [⟨b1, t, f⟩], _, _, rfl, R5.keep hq', hB', by simp; omega, fun _ _ => ⟨hn1, hn2, by omega⟩, ?_, rfl⟩
      rw [← hrun]
      have hs := (prog_step (n := n2n - (j + 1)) (i := if bb then -1 else 0) (g := pG2 il) e1 e2 (fun r h1 h2 _ _ => e3 r h1 h2) (by rw [← hbb]; cases bb <;> simp)).symm
      rw [show decide ((if bb then (-1 : Int) else 0) < 0) = bb by cases bb <;> rfl] at hs
      exact hs
    clear hJ2 hX
    refine ⟨rfl, errNe R4 (fun r hr => ?_) fun e he => ?_⟩
    · have l1 : ldV false 1 (.ptr k 0 0 1) A4 = some pv := ldV_at B4.base rfl rfl
      simp only [nilCkA, ti86_f1, Nat.zero_add, l1, optA_some, B4.pgs.len, List.length_map]
      refine without_c B4.base B4.pgs (by omega) fun nl4 l4 A5 le5 h5 h6 => ?_
      refine ⟨kp_le (fun hj => by rcases B4.pgs.2 with ⟨h, _⟩ | ⟨_, _, _, h, _⟩ <;> rw [h] at hj <;> cases hj) (fun i hi => by obtain ⟨_, _, h⟩ := B4.pgs.isObj hi; rw [h]; rfl) le5, kp_le (fun hj => by cases hj) (fun i hi => by cases hi; rw [B4.base]; rfl) le5, ?_⟩
      simp only [lenSl_d, optA_some, intA_eql]
      refine fcheck (R4.le le5) (by decide) rfl fun _ A6 R6 F6 => hJ2' _ A6 R6 ((Fq.of le5).trans F6) ?_
      rw [decide_eq_true_eq, ← h5]
      omega
    · refine fcheck R4 (by decide) rfl fun _ A5 R5 F5 => ?_
      refine hJ2' (!dupP pl b1 f) A5 ?_ F5 (by cases dupP pl b1 f <;> simp)
      rw [he] at R5 ⊢; exact R5
  clear hX
  simp only [List.getD_cons_succ, List.getD_cons_zero]
  refine fcount hR fun n3 G3 R3 hn3 F3 => ?_
  have B3 := hB.fq F3
  obtain ⟨n3n, hn3n⟩ : ∃ n3n : Nat, n3n = n3.toNat := ⟨_, rfl⟩
  have hW3 : run (sCnt st) (fun r => bnd (coms n3n [] r) (pG3 il pl)) = W := by
    rw [← run_cnt (f := fun n r => bnd (coms n [] r) (pG3 il pl)) (fun r h1 h2 h3 => by have := hn3 r h1 h2 h3; omega)]
    rw [← hrun]
    cases st with
    | error e => rfl
    | ok r =>
      have h1 := hend r rfl
      have h2 := hin r rfl
      have h3 : n2n - j = 0 := by omega
      rw [h3]; rfl
  have hbound : ∀ r, sCnt st = .ok r → n3 = n3n ∧ n3n ≤ 200 := fun r hr => by
    obtain ⟨r0, h1, h2, h3⟩ := sCnt_ok hr
    have := hn3 r0 h1 h2 h3
    omega
  clear hrun hn3 hB hR F3 hend hin hpl
  refine loop_ind (fun m vs G => ∃ (t : Nat) (st : St) (cv : AV) (cs : List Cm) (last : Int), m = n3n - t ∧ RD b G q st ∧ RB H G k q iv pv cv il pl cs ∧ cs.length ≤ t ∧ (∀ r, st = .ok r → n3 = n3n ∧ n3n ≤ 200 ∧ t ≤ n3n) ∧ (∀ r, st = .ok r → last = lastI cs ∧ 0 ≤ last) ∧ run st (fun r => bnd (coms (n3n - t) cs r) (pG3 il pl)) = W ∧ vs = [.d (.sl nl (bs b)), .ptr q 0 0 0, .ptr k 0 0 0, .d (.int .i64 n3), .d (.int .i64 i), .d (.int .i64 j), .d (.int .i64 last), .d (.int .i64 t)]) (n := n3n)
    ⟨0, _, _, [], 0, rfl, R3, B3, Nat.le_refl _, fun r hr => ⟨(hbound r hr).1, (hbound r hr).2, Nat.zero_le _⟩, fun r hr => ⟨rfl, Int.le_refl _⟩, hW3, rfl⟩ ?_
  clear R3 B3 hW3 hbound
  rintro X m vs G ⟨t, st, cv, cs, last, rfl, hR, hB, hcs, hin, hlast, hrun, rfl⟩ hX
  refine headL (i := (t : Int)) (n := n3) hR (fun r0 hlt hok => ?_) fun hend => ?_
  · obtain ⟨hn1, hn2, hn3⟩ := hin r0 hok
    obtain ⟨hla, hlb⟩ := hlast r0 hok
    have hlt' : t < n3n := by omega
    have hdec : n3n - t = (n3n - (t + 1)) + 1 := by omega
    rw [hdec] at hrun
    refine fun J hJ => ?_
    have hJ' : ∀ (st' : St) (cv' : AV) (cs' : List Cm) (last' : Int) (H' : AHeap), RD b H' q st' → RB H H' k q iv pv cv' il pl cs' → cs'.length ≤ t + 1 → (∀ r, st' = .ok r → last' = lastI cs' ∧ 0 ≤ last') → run st' (fun r => bnd (coms (n3n - (t + 1)) cs' r) (pG3 il pl)) = W → J [.d (.sl nl (bs b)), .ptr q 0 0 0, .ptr k 0 0 0, .d (.int .i64 n3), .d (.int .i64 i), .d (.int .i64 j), .d (.int .i64 last'), .d (.int .i64 t)] H' := fun st' cv' cs' last' H' h1 h2 h3 h4 h5 => by
      refine hJ _ _ ?_
      simp only [List.getD_cons_succ, List.getD_cons_zero, intA_add, optA_some]
      rw [wrap_i64 (by omega) (by omega)]
      exact hX (n3n - (t + 1)) _ _ (by omega) ⟨t + 1, st', cv', cs', last', rfl, h1, h2, h3, fun _ _ => ⟨hn1, hn2, by omega⟩, h4, h5, rfl⟩
    clear hJ hX
    simp only [List.getD_cons_succ, List.getD_cons_zero]
    refine fnum (n := 4) hR (by omega) fun id A1 R1 e1 F1 => ?_
    simp only [intA_gtr, optA_some]
    refine fcheck R1 (by decide) (com_must e1 fun _ _ => hlb) fun _ A2 R2 F2 => ?_
    rw [hla] at R2
    refine fnum (n := 1) R2 (by omega) fun mm A3 R3 e3 F3 => ?_
    have B3 := hB.fq ((F1.trans F2).trans F3)
    refine fun J2 hJ2 => ?_
    have key : ∀ (b3 : By), (∀ r, sNum 1 1 199 (must (decide (id > lastI cs)) 3 (sNum 4 1 4294967295 st)) = .ok r → mm.toNat ≤ r.length → b3 = r.take mm.toNat) → run (sTk mm.toNat (sNum 1 1 199 (must (decide (id > lastI cs)) 3 (sNum 4 1 4294967295 st)))) (fun r => bnd (coms (n3n - (t + 1)) (cs ++ [⟨id, b3⟩]) r) (pG3 il pl)) = W := fun b3 h => by
      rw [← hrun]
      exact (com_step (n := n3n - (t + 1)) (mm := mm) (fun r h1 h2 _ _ => e1 r h1 h2) (fun r h1 h2 _ _ => e3 r h1 h2) h).symm
    have hJ2' : ∀ (H' : AHeap), RD b H' q (sNum 1 1 199 (must (decide (id > lastI cs)) 3 (sNum 4 1 4294967295 st))) → Fq q A3 H' → J2 [.d (.sl nl (bs b)), .ptr q 0 0 0, .ptr k 0 0 0, .d (.int .i64 n3), .d (.int .i64 i), .d (.int .i64 j), .d (.int .i64 id), .d (.int .i64 t), .d (.int .i64 id), .d (.int .i64 mm)] H' := fun A4 R4 F4 => by
      have B4 := B3.fq F4
      refine hJ2 _ _ ?_
      simp only [List.getD_cons_succ, List.getD_cons_zero]
      refine errEq R4 (fun r4 hr4 => ?_) fun e he => ?_
      · obtain ⟨r3, hr3, q1, q2, q3⟩ := sNum_ok hr4
        obtain ⟨hr1, hgt⟩ := must_ok hr3
        have hgt' : lastI cs < id := by simpa using hgt
        have hmm := e3 r3 hr3 q1
        obtain ⟨mn, rfl⟩ : ∃ mn : Nat, mm = mn := ⟨mm.toNat, by omega⟩
        refine rpushC (m := mn) R4 (by omega) B4 (by omega) fun b3 cv' H' e6 hB' hR' => ?_
        have hk3 := key b3 e6
        rw [Int.toNat_natCast] at hk3
        exact hJ' _ cv' _ id H' hR' hB' (by simp; omega) (fun _ _ => ⟨by simp [lastI], by omega⟩) hk3
      · have hk3 := key [] fun r hr => by rw [he] at hr; cases hr
        rw [he] at hk3 R4
        refine hJ' _ cv cs id A4 R4 B4 (by omega) (fun r hr => by cases hr) ?_
        rw [← hk3]; exact run_err
    clear hJ2
    simp only [intA_geq, intA_leq, optA_some, ifA_ite]
    refine ite_of' (fun h1 => ?_) fun h1 => ?_
    · refine fcheck R3 (by decide) (must_num (lo := 1) (hi := 199) e3 fun r _ _ => by rw [decide_eq_true_eq]; exact ⟨fun h => ⟨h1, h⟩, fun h => h.2⟩) fun _ A8 R8 F8 => hJ2' A8 R8 F8
    · refine fcheck R3 (by decide) (must_num (lo := 1) (hi := 199) e3 fun r _ _ => ⟨fun h => (by cases h), fun h => absurd h.1 h1⟩) fun _ A8 R8 F8 => hJ2' A8 R8 F8
  clear hX
  simp only [List.getD_cons_succ, List.getD_cons_zero]
  have hWk : ∀ r, st = .ok r → W = pG3 il pl cs r := fun r hr => by
    have h1 := hend r hr
    have h2 := hin r hr
    have h3 : n3n - t = 0 := by omega
    rw [← hrun, h3, hr]; rfl
  refine rend hR hB (n3 := .junk) (fun e H' hle he => hke e H' hle ?_) fun H' hs hB' => hk k q iv pv cv il pl cs H' ?_ hB'
  · rw [hP]
    rcases he with he | ⟨⟨r, hr, hne⟩, rfl⟩
    · rw [← hrun, he]; rfl
    · rw [hWk r hr]
      simp only [pG3]
      rw [if_neg hne]; rfl
  · rw [hP, hWk [] hs]; rfl
end
end Go.Proofs.Ytmciomkibklokaa
/- Numbers and lists of bytes, put together. -/
set_option autoImplicit false
set_option maxRecDepth 100000
set_option linter.unusedVariables false
set_option linter.unusedSimpArgs false
set_option linter.unnecessarySimpa false
namespace Go.Proofs.Ytmciomkibklokaa
open Go Go.AM Go.Proofs Go.RowKit
theorem u8w {x : Int} : IntKind.u8.wrap x = x % 256 := by simp [IntKind.wrap, IntKind.signed, IntKind.bits]
theorem u8of {x : Int} : ((UInt8.ofNat (x % 256).toNat).toNat : Int) = x % 256 := by
  simp only [UInt8.toNat_ofNat']
  omega
theorem fdiv256 {v : Int} {i : Nat} (hi : i ≤ 7) : v.fdiv (2 ^ (min ((8 * (i : Int)).toNat) IntKind.i64.bits)) = v / 256 ^ i := by
  have e : min ((8 * (i : Int)).toNat) IntKind.i64.bits = 8 * i := by simp only [IntKind.bits]; omega
  rw [e, Int.fdiv_eq_ediv_of_nonneg _ (Int.pow_nonneg (by decide)), Int.pow_mul]
  rfl
section
variable {H : AHeap} {K : AV → AHeap → Prop}
theorem nput_c {n : Nat} {v : Int} (hn : n ≤ 8) (hk : ∀ nl H', AHeap.le H H' → K (.d (.sl nl (bs (encZ n v)))) H') : CallsA Try.prog 45 [.d (.int .i64 n), .d (.int .i64 v)] H K := by
  apply C45
  unfold S45
  simp only [intA_sub, optA_some]
  rw [wrap_i64 (by omega) (by omega)]
  refine loop_ind (fun r vs G => ∃ (j : Nat) (w : AV) (l : By), r = j ∧ j ≤ n ∧ Go.AM.Own H 1 G w (bs l) ∧ l.length = n - j ∧ l ++ encZ j v = encZ n v ∧ vs = [.d (.int .i64 v), w, .d (.int .i64 ((j : Int) - 1))]) (n := n) ⟨n, _, [], rfl, Nat.le_refl _, Go.AM.Own.nil le_refl', by simp, rfl, rfl⟩ ?_
  rintro X r vs G ⟨j, w, l, rfl, hj, hO, hl, he, rfl⟩ hX
  simp only [List.getD_cons_succ, List.getD_cons_zero, intA_geq, optA_some, ifA_ite]
  cases r with
  | zero =>
    rw [if_neg (by omega)]
    have : l = encZ n v := by simpa [encZ] using he
    subst this
    exact hO.ret le_refl' (hk _ _ le_refl')
  | succ i =>
    rw [if_pos (by omega)]
    simp only [intA_mul, optA_some]
    rw [show (((i + 1 : Nat) : Int) - 1) = (i : Int) by omega, wrap_i64 (by omega) (by omega), intA_shr (by omega), fdiv256 (by omega)]
    simp only [optA_some, cvI_int, u8w]
    intro m hm
    show stepK (bsA ti5 1 [0] [.d (.int .u8 (v / 256 ^ i % 256))] G m) G _
    rw [show bsA ti5 1 [0] [.d (.int .u8 (v / 256 ^ i % 256))] G m = some (.lit [[.int .u8 (v / 256 ^ i % 256)]], []) from rfl]
    simp only [stepK_some, AHeap.sets]
    have eb : [[Dat.int .u8 (v / 256 ^ i % 256)]] = bs [UInt8.ofNat (v / 256 ^ i % 256).toNat] := by simp only [bs, List.map_cons, List.map_nil, u8of]
    rw [eb]
    refine hO.app (ys := bs [UInt8.ofNat (v / 256 ^ i % 256).toNat]) rfl (by decide) (by decide) bs_sz (by rw [bs_length, bs_length]; simp only [mostBytes, List.length_singleton]; omega) fun w' H' hO' _ _ _ => ?_
    simp only [intA_sub, optA_some]
    rw [wrap_i64 (by omega) (by omega)]
    refine hX i _ _ (by omega) ⟨i, w', l ++ [UInt8.ofNat (v / 256 ^ i % 256).toNat], rfl, by omega, ?_, by simp; omega, ?_, rfl⟩
    · have : bs (l ++ [UInt8.ofNat (v / 256 ^ i % 256).toNat]) = bs l ++ bs [UInt8.ofNat (v / 256 ^ i % 256).toNat] := by simp [bs]
      rw [this]; exact hO'
    · rw [← he, encZ_cons]; simp
theorem nput_m {n : Nat} {v : Int} (hn : n ≤ 8) (hk : ∀ w H', Go.AM.Own H 1 H' w (bs (encZ n v)) → K w H') : CallsA Try.prog 45 [.d (.int .i64 n), .d (.int .i64 v)] H K := by
  apply C45m
  unfold S45m
  simp only [intA_sub, optA_some]
  rw [wrap_i64 (by omega) (by omega)]
  refine loop_ind (fun r vs G => ∃ (j : Nat) (w : AV) (l : By), r = j ∧ j ≤ n ∧ Go.AM.Own H 1 G w (bs l) ∧ l.length = n - j ∧ l ++ encZ j v = encZ n v ∧ vs = [.d (.int .i64 v), w, .d (.int .i64 ((j : Int) - 1))]) (n := n) ⟨n, _, [], rfl, Nat.le_refl _, Go.AM.Own.nil le_refl', by simp, rfl, rfl⟩ ?_
  rintro X r vs G ⟨j, w, l, rfl, hj, hO, hl, he, rfl⟩ hX
  simp only [List.getD_cons_succ, List.getD_cons_zero, intA_geq, optA_some, ifA_ite]
  cases r with
  | zero =>
    rw [if_neg (by omega)]
    have : l = encZ n v := by simpa [encZ] using he
    subst this
    exact ⟨_, le_refl', hk _ _ hO⟩
  | succ i =>
    rw [if_pos (by omega)]
    simp only [intA_mul, optA_some]
    rw [show (((i + 1 : Nat) : Int) - 1) = (i : Int) by omega, wrap_i64 (by omega) (by omega), intA_shr (by omega), fdiv256 (by omega)]
    simp only [optA_some, cvI_int, u8w]
    intro m hm
    show stepK (bsA ti5 1 [0] [.d (.int .u8 (v / 256 ^ i % 256))] G m) G _
    rw [show bsA ti5 1 [0] [.d (.int .u8 (v / 256 ^ i % 256))] G m = some (.lit [[.int .u8 (v / 256 ^ i % 256)]], []) from rfl]
    simp only [stepK_some, AHeap.sets]
    have eb : [[Dat.int .u8 (v / 256 ^ i % 256)]] = bs [UInt8.ofNat (v / 256 ^ i % 256).toNat] := by simp only [bs, List.map_cons, List.map_nil, u8of]
    rw [eb]
    refine hO.app (ys := bs [UInt8.ofNat (v / 256 ^ i % 256).toNat]) rfl (by decide) (by decide) bs_sz (by rw [bs_length, bs_length]; simp only [mostBytes, List.length_singleton]; omega) fun w' H' hO' _ _ _ => ?_
    simp only [intA_sub, optA_some]
    rw [wrap_i64 (by omega) (by omega)]
    refine hX i _ _ (by omega) ⟨i, w', l ++ [UInt8.ofNat (v / 256 ^ i % 256).toNat], rfl, by omega, ?_, by simp; omega, ?_, rfl⟩
    · have : bs (l ++ [UInt8.ofNat (v / 256 ^ i % 256).toNat]) = bs l ++ bs [UInt8.ofNat (v / 256 ^ i % 256).toNat] := by simp [bs]
      rw [this]; exact hO'
    · rw [← he, encZ_cons]; simp
theorem rput_c {n : Nat} {v : Int} (hn : n ≤ 8) (hk : ∀ H', AHeap.le H H' → K (.d (.sl false (bs (encZ n v)))) H') : CallsA Try.prog 49 [.d (.int .i64 n), .d (.int .i64 v)] H K := by
  apply C49
  unfold S49
  intro u hu
  have e : mkSlA ti5 (.d (.int .i64 (n : Int))) (.d (.int .i64 (n : Int))) u = some (.rs u 0 1 0 n, [(u, .mem 0 0 1 (repl n [.d (.int .u8 0)]))]) := by
    simp only [mkSlA, Int.natCast_nonneg, Int.le_refl, Int.toNat_natCast, true_and, ti5]
    rw [if_pos ⟨by simp only [mostBytes]; omega, by decide, by decide⟩]
  show stepK (mkSlA ti5 (.d (.int .i64 (n : Int))) (.d (.int .i64 (n : Int))) u) H _
  rw [e]
  simp only [stepK_some, AHeap.sets, intA_sub, optA_some]
  rw [wrap_i64 (by omega) (by omega)]
  refine loop_ind (fun r vs G => ∃ (j : Nat), r = j ∧ j ≤ n ∧ AHeap.le H G ∧ G u = some (.mem 0 0 1 (avs (bs (List.replicate j (0 : UInt8) ++ encZ (n - j) v)))) ∧ vs = [.d (.int .i64 (v / 256 ^ (n - j))), .rs u 0 1 0 n, .d (.int .i64 ((j : Int) - 1))]) (n := n) ⟨n, rfl, Nat.le_refl _, le_set le_refl' hu, ?_, by simp⟩ ?_
  · rw [set_self, Nat.sub_self]
    simp [encZ, repl, bs, avs]
  rintro X r vs G ⟨j, rfl, hj, hle, hG, rfl⟩ hX
  simp only [List.getD_cons_succ, List.getD_cons_zero, intA_geq, optA_some, ifA_ite]
  cases r with
  | zero =>
    rw [if_neg (by omega)]
    rw [Nat.sub_zero, List.replicate_zero, List.nil_append] at hG
    have hlen : (bs (encZ n v)).length = n := by rw [bs_length, encZ_length]
    have hO : Go.AM.Own H 1 G (.rs u 0 1 0 n) (bs (encZ n v)) := by
      have := Go.AM.Own.rs (H0 := H) (H := G) (l := bs (encZ n v)) hle bs_sz hG (by rw [List.take_of_length_le (by simp [avs])]) (by simp [avs]) hu
      rw [hlen] at this
      exact this
    exact hO.ret le_refl' (hk _ le_refl')
  | succ i =>
    rw [if_pos (by omega)]
    rw [show (((i + 1 : Nat) : Int) - 1) = (i : Int) by omega]
    have hix : indexAddrA ti22 1 (.rs u 0 1 0 n) (.d (.int .i64 (i : Int))) = some (.ptr u 0 i 0) := by
      have h1 : i < n := hj
      simp [indexAddrA, ti22, h1]
    have hget : (avs (bs (List.replicate (i + 1) (0 : UInt8) ++ encZ (n - (i + 1)) v)))[i]? = some [.d (.int .u8 0)] := by
      simp [avs, bs, List.getElem?_append_left, List.getElem?_replicate]
    simp only [cvI_int, optA_some, u8w, hix]
    rw [stoA_at hG (Nat.zero_le i) hget (show 0 < 1 by decide) (v := .d (.int .u8 (v / 256 ^ (n - (i + 1)) % 256))) rfl rfl]
    simp only [stepK_some, AHeap.sets]
    rw [intA_shr (by decide)]
    simp only [optA_some, intA_sub]
    rw [wrap_i64 (by omega) (by omega)]
    have hne : ∀ (o : AObj), AHeap.le H (G.set u o) := fun o i x hi => by
      rw [set_ne (show i ≠ u from fun he => by rw [he, hu] at hi; cases hi)]; exact hle i x hi
    refine hX i _ _ (by omega) ⟨i, rfl, by omega, hne _, ?_, ?_⟩
    · rw [set_self]
      have e1 : n - i = (n - (i + 1)) + 1 := by omega
      rw [e1, encZ_cons]
      have e2 : List.replicate (i + 1) (0 : UInt8) = List.replicate i 0 ++ [0] := List.replicate_succ'
      rw [e2]
      simp only [avs, bs, List.map_append, List.map_cons, List.map_nil, List.append_assoc, List.cons_append, List.nil_append, List.set_cons_zero]
      simp [List.set_append, u8of]
      generalize v / 256 ^ (n - (i + 1)) = z
      omega
    · have e1 : n - i = (n - (i + 1)) + 1 := by omega
      rw [e1, Int.pow_succ, ← Int.ediv_ediv_of_nonneg (Int.pow_nonneg (by decide)), show ∀ x : Int, x.fdiv (2 ^ min (Int.toNat 8) IntKind.i64.bits) = x / 256 from fun x => Int.fdiv_eq_ediv_of_nonneg _ (by decide)]
theorem rput_m {n : Nat} {v : Int} (hn : n ≤ 8) (hk : ∀ w H', Go.AM.Own H 1 H' w (bs (encZ n v)) → K w H') : CallsA Try.prog 49 [.d (.int .i64 n), .d (.int .i64 v)] H K := by
  apply C49m
  unfold S49m
  intro u hu
  have e : mkSlA ti5 (.d (.int .i64 (n : Int))) (.d (.int .i64 (n : Int))) u = some (.rs u 0 1 0 n, [(u, .mem 0 0 1 (repl n [.d (.int .u8 0)]))]) := by
    simp only [mkSlA, Int.natCast_nonneg, Int.le_refl, Int.toNat_natCast, true_and, ti5]
    rw [if_pos ⟨by simp only [mostBytes]; omega, by decide, by decide⟩]
  show stepK (mkSlA ti5 (.d (.int .i64 (n : Int))) (.d (.int .i64 (n : Int))) u) H _
  rw [e]
  simp only [stepK_some, AHeap.sets, intA_sub, optA_some]
  rw [wrap_i64 (by omega) (by omega)]
  refine loop_ind (fun r vs G => ∃ (j : Nat), r = j ∧ j ≤ n ∧ AHeap.le H G ∧ G u = some (.mem 0 0 1 (avs (bs (List.replicate j (0 : UInt8) ++ encZ (n - j) v)))) ∧ vs = [.d (.int .i64 (v / 256 ^ (n - j))), .rs u 0 1 0 n, .d (.int .i64 ((j : Int) - 1))]) (n := n) ⟨n, rfl, Nat.le_refl _, le_set le_refl' hu, ?_, by simp⟩ ?_
  · rw [set_self, Nat.sub_self]
    simp [encZ, repl, bs, avs]
  rintro X r vs G ⟨j, rfl, hj, hle, hG, rfl⟩ hX
  simp only [List.getD_cons_succ, List.getD_cons_zero, intA_geq, optA_some, ifA_ite]
  cases r with
  | zero =>
    rw [if_neg (by omega)]
    rw [Nat.sub_zero, List.replicate_zero, List.nil_append] at hG
    have hlen : (bs (encZ n v)).length = n := by rw [bs_length, encZ_length]
    have hO : Go.AM.Own H 1 G (.rs u 0 1 0 n) (bs (encZ n v)) := by
      have := Go.AM.Own.rs (H0 := H) (H := G) (l := bs (encZ n v)) hle bs_sz hG (by rw [List.take_of_length_le (by simp [avs])]) (by simp [avs]) hu
      rw [hlen] at this
      exact this
    exact ⟨_, le_refl', hk _ _ hO⟩
  | succ i =>
    rw [if_pos (by omega)]
    rw [show (((i + 1 : Nat) : Int) - 1) = (i : Int) by omega]
    have hix : indexAddrA ti22 1 (.rs u 0 1 0 n) (.d (.int .i64 (i : Int))) = some (.ptr u 0 i 0) := by
      have h1 : i < n := hj
      simp [indexAddrA, ti22, h1]
    have hget : (avs (bs (List.replicate (i + 1) (0 : UInt8) ++ encZ (n - (i + 1)) v)))[i]? = some [.d (.int .u8 0)] := by
      simp [avs, bs, List.getElem?_append_left, List.getElem?_replicate]
    simp only [cvI_int, optA_some, u8w, hix]
    rw [stoA_at hG (Nat.zero_le i) hget (show 0 < 1 by decide) (v := .d (.int .u8 (v / 256 ^ (n - (i + 1)) % 256))) rfl rfl]
    simp only [stepK_some, AHeap.sets]
    rw [intA_shr (by decide)]
    simp only [optA_some, intA_sub]
    rw [wrap_i64 (by omega) (by omega)]
    have hne : ∀ (o : AObj), AHeap.le H (G.set u o) := fun o i x hi => by
      rw [set_ne (show i ≠ u from fun he => by rw [he, hu] at hi; cases hi)]; exact hle i x hi
    refine hX i _ _ (by omega) ⟨i, rfl, by omega, hne _, ?_, ?_⟩
    · rw [set_self]
      have e1 : n - i = (n - (i + 1)) + 1 := by omega
      rw [e1, encZ_cons]
      have e2 : List.replicate (i + 1) (0 : UInt8) = List.replicate i 0 ++ [0] := List.replicate_succ'
      rw [e2]
      simp only [avs, bs, List.map_append, List.map_cons, List.map_nil, List.append_assoc, List.cons_append, List.nil_append, List.set_cons_zero]
      simp [List.set_append, u8of]
      generalize v / 256 ^ (n - (i + 1)) = z
      omega
    · have e1 : n - i = (n - (i + 1)) + 1 := by omega
      rw [e1, Int.pow_succ, ← Int.ediv_ediv_of_nonneg (Int.pow_nonneg (by decide)), show ∀ x : Int, x.fdiv (2 ^ min (Int.toNat 8) IntKind.i64.bits) = x / 256 from fun x => Int.fdiv_eq_ediv_of_nonneg _ (by decide)]
theorem grow_c {n : Int} (h0 : 0 ≤ n) (h1 : n < 2 ^ 40) (h : ∀ v H', Go.AM.Own H 1 H' v [] → K v H') : CallsA Try.prog 63 [.d (.sl true []), .d (.int .i64 n)] H K := by
  apply C63
  simp only [S63, go_sem]
  rw [if_neg (by omega)]
  simp only [capA, go_sem]
  have e1 : IntKind.i64.wrap (0 - ((0 : Nat) : Int)) = 0 := rfl
  simp only [List.length_nil, e1]
  rw [wrap_i64 (by omega) (by omega)]
  split
  · rename_i hn
    have e2 : sliceA 1 (.d (.sl true [])) none (some (.d (.int .i64 0))) none H = some (.d (.sl true [])) := rfl
    simp only [e2, go_sem]
    intro m hm
    have e3 : apzA ti5 (.d (.sl true [])) (.d (.int .i64 (n - 0))) H m = some (.rs m 0 1 0 n.toNat, [(m, .mem 0 0 1 (repl n.toNat [.d (.int .u8 0)]))]) := by
      simp only [apzA, appA, Int.sub_zero]
      have hc : n.toNat * 1 ≤ mostBytes := by unfold mostBytes; omega
      rw [if_pos ⟨h0, by decide, by decide, hc⟩]
      cases hk : repl n.toNat ti5.zero with
      | nil => simp [repl] at hk; omega
      | cons y r =>
        have hl : (y :: r).length = n.toNat := by rw [← hk]; simp [repl]
        simp only [hl]
        have hk2 : y :: r = repl n.toNat [.d (.int .u8 0)] := hk.symm
        rw [hk2]
        exact if_pos hc
    simp only [e3, go_sem]
    have e4 : sliceA 1 (.rs m 0 1 0 n.toNat) none (some (.d (.int .i64 ((0 : Nat) : Int)))) none (H.set m (.mem 0 0 1 (repl n.toNat [.d (.int .u8 0)]))) = some (.rs m 0 1 0 0) := by
      simp [sliceA, set_self, AM.bnd]
    simp only [e4, go_sem]
    exact ⟨_, le_refl', h _ _ (Go.AM.Own.rs (l := []) (le_set le_refl' hm) (by simp) set_self (by simp [avs]) (by simp) hm)⟩
  · exact ⟨H, le_refl', h _ _ (Go.AM.Own.nil le_refl')⟩
abbrev rowD (r : Bool × By) : List Dat := [.sl r.1 (bs r.2)]
abbrev fl (l : List (Bool × By)) : By := (l.map (·.2)).flatten
theorem fl_app {a b : List (Bool × By)} : fl (a ++ b) = fl a ++ fl b := by simp [fl]
theorem concat_m {nl : Bool} {rows : List (Bool × By)} (ht : (fl rows).length < 2 ^ 30) (hr : rows.length < 2 ^ 30) (hk : ∀ w H', Go.AM.Own H 1 H' w (bs (fl rows)) → K w H') : CallsA Try.prog 46 [.d (.sl nl (rows.map rowD))] H K := by
  apply C46m
  unfold S46m
  have hix : ∀ (a : List (Bool × By)) (x : Bool × By) (b : List (Bool × By)), rows = a ++ x :: b → indexAddrA ti114 1 (.d (.sl nl (rows.map rowD))) (.d (.int .i64 (a.length : Int))) = some (.vptr (rowD x) 0) := fun a x b h => by
    refine sl_get (e := 22) rfl (by omega) ?_ rfl
    rw [Int.toNat_natCast, h]; simp
  simp only [lenSl_d, optA_some, List.length_map]
  refine loop_ind (fun r vs G => G = H ∧ ∃ (a b : List (Bool × By)), rows = a ++ b ∧ r = b.length ∧ vs = [.d (.sl nl (rows.map rowD)), .d (.int .i64 (fl a).length), .junk, .d (.sl nl (rows.map rowD)), .d (.int .i64 rows.length), .d (.int .i64 a.length), .junk, .junk, .junk]) (n := rows.length) ⟨rfl, [], rows, rfl, rfl, rfl⟩ ?_
  rintro X r vs G ⟨rfl, a, b, hab, rfl, rfl⟩ hX
  simp only [List.getD_cons_succ, List.getD_cons_zero, intA_lss, optA_some, ifA_ite]
  cases b with
  | cons x b =>
    have hl : (fl rows).length = (fl a).length + (x.2.length + (fl b).length) := by rw [hab, fl_app]; simp [fl]
    have hl2 : rows.length = a.length + (b.length + 1) := by rw [hab]; simp
    rw [if_pos (by omega)]
    simp only [hix a x b hab, bs_length, go_sem]
    rw [wrap_i64 (n := ((fl a).length : Int) + (x.2.length : Int)) (by omega) (by omega), if_neg (by omega), wrap_i64 (by omega) (by omega)]
    refine hX b.length _ _ (by simp) ⟨rfl, a ++ [x], b, by simp [hab], rfl, ?_⟩
    rw [fl_app]; simp [fl]
  | nil =>
    rw [List.append_nil] at hab
    subst hab
    rw [if_neg (by omega)]
    simp only [frzLK_d, frzLK_nil]
    refine grow_c (by omega) (by omega) fun v H1 hv => ?_
    rw [show lenSl (.d (.sl nl (rows.map rowD))) = some (.d (.int .i64 rows.length)) by simp [lenSl_d], optA_some]
    refine loop_ind (fun r vs G' => ∃ (a b : List (Bool × By)) (v x7 x8 x9 x10 x11 : AV), rows = a ++ b ∧ r = b.length ∧ Go.AM.Own G 1 G' v (bs (fl a)) ∧ vs = [x7, x8, v, x9, x10, x11, .d (.sl nl (rows.map rowD)), .d (.int .i64 rows.length), .d (.int .i64 a.length)]) (n := rows.length)
      ⟨[], rows, v, _, _, _, _, _, rfl, rfl, hv, rfl⟩ ?_
    rintro X2 r2 vs2 G2 ⟨a, b, v, x7, x8, x9, x10, x11, hab, rfl, hv, rfl⟩ hX2
    simp only [List.getD_cons_succ, List.getD_cons_zero, intA_lss, optA_some, ifA_ite]
    cases b with
    | cons x b =>
      have hl : (fl rows).length = (fl a).length + (x.2.length + (fl b).length) := by rw [hab, fl_app]; simp [fl]
      have hl2 : rows.length = a.length + (b.length + 1) := by rw [hab]; simp
      rw [if_pos (by omega)]
      simp only [hix a x b hab, go_sem]
      refine hv.app (ys := bs x.2) rfl (by decide) (by decide) bs_sz (by rw [bs_length, bs_length]; simp only [mostBytes]; omega) fun v' H3 hv' _ _ _ => ?_
      rw [wrap_i64 (by omega) (by omega)]
      refine hX2 b.length _ _ (by simp) ⟨a ++ [x], b, v', _, _, _, _, _, by simp [hab], rfl, ?_, by rw [List.length_append]; rfl⟩
      rw [fl_app]
      have : bs (fl a ++ fl [x]) = bs (fl a) ++ bs x.2 := by simp [bs, fl]
      rw [this]; exact hv'
    | nil =>
      rw [List.append_nil] at hab
      subst hab
      rw [if_neg (by omega)]
      exact ⟨_, le_refl', hk _ _ hv⟩
end
end Go.Proofs.Ytmciomkibklokaa
/- The program's Bytes. -/
set_option autoImplicit false
set_option maxRecDepth 100000
set_option linter.unusedVariables false
set_option linter.unusedSimpArgs false
set_option linter.unnecessarySimpa false
namespace Go.Proofs.Ytmciomkibklokaa
open Go Go.AM Go.Proofs Go.RowKit
section
variable {H H0 G G' : AHeap} {v : AV} {l : List (List Dat)} {K : AV → AHeap → Prop}
theorem own_later (hO : Go.AM.Own H0 1 G v l) (hle : AHeap.le G G') : Go.AM.Own H0 1 G' v l := hO.other (le_trans' hO.le hle) fun i hi => by
  rcases hO.2.2 with ⟨rfl, _⟩ | rfl | ⟨i', ver, L, rfl, h1, _⟩
  · cases hi
  · cases hi
  · cases hi; rw [h1]; exact hle _ _ h1
theorem own_base (hle : AHeap.le H H0) (hO : Go.AM.Own H0 1 G v l) : Go.AM.Own H 1 G v l := ⟨le_trans' hle hO.1, hO.2.1, by
  rcases hO.2.2 with h | h | ⟨i, ver, L, h, h1, h2, h3, h4⟩
  · exact .inl h
  · exact .inr (.inl h)
  · exact .inr (.inr ⟨i, ver, L, h, h1, h2, h3, le_none hle h4⟩)⟩
theorem own_agg (hO : Go.AM.Own H0 1 G v l) : aggL v = [] := by
  rcases hO.2.2 with ⟨rfl, _⟩ | rfl | ⟨i', ver, L, rfl, h1, _⟩ <;> rfl
theorem own_bs6 (hO : Go.AM.Own H0 1 G v l) : ∃ us, AHeap.le H0 (G.sets us) ∧ ∀ (a b c d e : Dat) (n : Nat), bsA ti22 6 [0, 1, 2, 3, 4, 5] [v, .d a, .d b, .d c, .d d, .d e] G n = some (.lit [[.sl (AM.nilS v) l], [a], [b], [c], [d], [e]], us) := by
  obtain ⟨us, f1, f2, f3, f4⟩ := hO.frz
  refine ⟨us, f3, fun a b c d e n => ?_⟩
  simp only [bsA, frzAL, frzA_d, AHeap.sets, f2, List.append_nil]
  rfl
theorem own_bs4 (hO : Go.AM.Own H0 1 G v l) : ∃ us, AHeap.le H0 (G.sets us) ∧ ∀ (a b c : Dat) (n : Nat), bsA ti22 4 [0, 1, 2, 3] [v, .d a, .d b, .d c] G n = some (.lit [[.sl (AM.nilS v) l], [a], [b], [c]], us) := by
  obtain ⟨us, f1, f2, f3, f4⟩ := hO.frz
  refine ⟨us, f3, fun a b c n => ?_⟩
  simp only [bsA, frzAL, frzA_d, AHeap.sets, f2, List.append_nil]
  rfl
end
theorem flat_le {α : Type} {f : α → By} {m : Nat} : ∀ {l : List α}, (∀ x ∈ l, (f x).length ≤ m) → (l.map f).flatten.length ≤ m * l.length
  | [], _ => by simp
  | x :: l, h => by
    have h1 := flat_le (l := l) fun y hy => h y (List.mem_cons_of_mem _ hy)
    have h2 := h x (List.mem_cons_self ..)
    simp only [List.map_cons, List.flatten_cons, List.length_append, List.length_cons, Nat.mul_succ]
    omega
theorem flat_take {α : Type} {f : α → By} {m j : Nat} {l : List α} (h : ∀ x ∈ l, (f x).length ≤ m) (hl : l.length ≤ 200) : ((l.take j).map f).flatten.length ≤ m * 200 :=
  Nat.le_trans (flat_le fun x hx => h x (List.mem_of_mem_take hx)) (Nat.mul_le_mul_left m (Nat.le_trans (List.length_take_le' ..) hl))
theorem encIc_le {x : Ic} (h : x.Ok) : (encIc x).length ≤ 519 := by
  simp only [encIc, List.length_append, encZ_length, h.c, h.k]; have := h.b; omega
theorem encPg_le {x : Pg} (h : x.Ok) : (encPg x).length ≤ 16 := by
  simp only [encPg, List.length_append, encZ_length, h.c]; omega
theorem encCm_le {x : Cm} (h : x.Ok) : (encCm x).length ≤ 204 := by
  simp only [encCm, List.length_append, encZ_length]; have := h.s; omega
theorem dstr1 {a : By} : datsOfStr (bytes a) = bs a := rfl
theorem dstr2 {a b : By} : datsOfStr (bytes a ++ bytes b) = bs (a ++ b) := by simp [datsOfStr, bs]
theorem strAdd {a b : By} (ha : a.length = 4) (hb : b.length = 4) : strA .add (.d (.str (bytes a))) (.d (.str (bytes b))) = some (.d (.str (bytes a ++ bytes b))) := by
  simp only [strA, strBin, ByteArray.size, List.size_toArray, ha, hb]
  rfl
theorem take_next {α : Type} {f : α → By} {l : List α} {j : Nat} (hj : j < l.length) : ((l.take (j + 1)).map f).flatten = ((l.take j).map f).flatten ++ f l[j] := by
  rw [List.take_add_one, List.getElem?_eq_getElem hj, Option.toList_some, List.map_append, List.flatten_append]
  simp only [List.map_cons, List.map_nil, List.flatten_cons, List.flatten_nil, List.append_nil]
section
variable {H : AHeap} {k m q : Nat} {iv pv : AV} {il : List (Ic × Bool)} {pl : List Pg} {cs : List Cm} {K : AV → AHeap → Prop}
theorem LB.le {H' : AHeap} {cl : List (Int × AV)} (h : LB H k m q iv pv il pl cl) (hle : AHeap.le H H') : LB H' k m q iv pv il pl cl := h.fq (Fq.of hle)
theorem none2_c {cl : List (Int × AV)} (hB : LB H k m q iv pv il pl cl) (hk : K (.d (.bool false)) H) : CallsA Try.prog 25 [.ptr k 0 0 0] H K := by
  apply C25
  unfold S25
  have l2 : ldV false 1 (.ptr k 0 0 2) H = some (.map m) := ldV_at hB.base rfl rfl
  simp only [nilA, isNil, nilCkA, ti55_f2, go_sem, l2]
  exact ⟨_, le_refl', hk⟩
theorem LB.keysOk (hB : LB H k m q iv pv il pl (cs.map comAV)) (hc : cs.length ≤ 200) (hok : ∀ x ∈ cs, x.Ok) : ∃ es cl, H m = some (.map es cl) ∧ KeysOk es cl (cs.map (·.i)) := by
  obtain ⟨es, c, h1, h2, h3, h4, h5⟩ := hB.map
  refine ⟨es, c, h1, ?_, ?_, ⟨h4, h5⟩, by simp only [List.length_map]; omega, fun x hx => ?_⟩
  · have := congrArg (List.map (·.1)) h2
    simpa [comAV, List.map_map, Function.comp_def] using this
  · simpa [comAV, List.map_map, Function.comp_def] using h3
  · obtain ⟨y, hy, rfl⟩ := List.mem_map.1 hx
    have := (hok y hy).i
    simp only [Lit.wf, Bool.and_eq_true, decide_eq_true_eq]
    exact ⟨Int.le_trans (by decide) this.1, Int.le_trans this.2 (by decide)⟩
theorem com_look (hB : LB H k m q iv pv il pl (cs.map comAV)) {j : Nat} (hj : j < cs.length) : lookKA Try.prog 3 (.d (.int .i64 cs[j].i)) (fun kk => lookA (.d (.str ⟨#[]⟩)) (.map m) kk false H) = some (.d (.str (bytes cs[j].s))) := by
  obtain ⟨es, c, h1, h2, h3, h4, h5⟩ := hB.map
  have hf := findE_kv 0 j h2 h3 (k := cs[j].i) (v := .d (.str (bytes cs[j].s))) (by rw [List.getElem?_map, List.getElem?_eq_getElem hj]; rfl)
  simp only [lookKA, Try.underlying3, keyOk, decide_true, if_true, lookA, h1, hf, Bool.false_eq_true, if_false]
theorem Bytes_c (hB : LB H k m q iv pv il pl (cs.map comAV)) (h1 : il.length ≤ 200) (h2 : pl.length ≤ 200) (h3 : cs.length ≤ 200) (k1 : ∀ x ∈ il, x.1.Ok) (k2 : ∀ x ∈ pl, x.Ok) (k3 : ∀ x ∈ cs, x.Ok) (hr : Rising cs)
    (hk : K (.d (.sl false (bs (encAll (il.map (·.1)) pl cs)))) H) : CallsA Try.prog 12 [.ptr k 0 0 0] H K := by
  apply C12e
  unfold S12e
  have b1 : ∀ j, ((il.take j).map fun x => encIc x.1).flatten.length ≤ 519 * 200 := fun j => flat_take (f := fun x : Ic × Bool => encIc x.1) (fun x hx => encIc_le (k1 x hx)) h1
  have b2 : ∀ j, ((pl.take j).map encPg).flatten.length ≤ 16 * 200 := fun j => flat_take (fun x hx => encPg_le (k2 x hx)) h2
  have b3 : ∀ j, ((cs.take j).map encCm).flatten.length ≤ 204 * 200 := fun j => flat_take (fun x hx => encCm_le (k3 x hx)) h3
  have l0 : ldV false 1 (.ptr k 0 0 0) H = some iv := ldV_at hB.base rfl rfl
  simp only [frzLK_ptr, frzLK_nil]
  refine none2_c hB ?_
  simp only [ifA_f, nilCkA, ti55_f0, Nat.zero_add, l0, hB.ics.len, List.length_map, optA_some, frzLK_d, frzLK_nil]
  refine nput_m (n := 2) (by omega) fun w G1 hO1 => ?_
  have l0' : ldV false 1 (.ptr k 0 0 0) G1 = some iv := ldV_at (hO1.le _ _ hB.base) rfl rfl
  simp only [l0', hB.ics.len, List.length_map, optA_some]
  refine loop_ind (fun r vs G => ∃ (j : Nat) (w x5 x6 x7 x8 x9 x10 : AV), r = il.length - j ∧ j ≤ il.length ∧ Go.AM.Own H 1 G w (bs (encZ 2 il.length ++ ((il.take j).map fun x => encIc x.1).flatten)) ∧ vs = [.ptr k 0 0 0, w, iv, .d (.int .i64 il.length), .d (.int .i64 j), x5, x6, x7, x8, x9, x10]) (n := il.length)
    ⟨0, w, _, _, _, _, _, _, rfl, Nat.zero_le _, by simpa using hO1, rfl⟩ ?_
  clear hO1 l0'
  rintro X r vs G ⟨j, w, x5, x6, x7, x8, x9, x10, rfl, hj, hO, rfl⟩ hX
  have hB' := hB.le hO.le
  simp only [List.getD_cons_succ, List.getD_cons_zero, intA_lss, optA_some, ifA_ite]
  refine ite_of' (fun hlt => ?_) fun hlt => ?_
  · have hlt' : j < il.length := by omega
    have hx : il[j]? = some il[j] := List.getElem?_eq_getElem hlt'
    obtain ⟨i, ver, L, e1, e2, e3, e4⟩ := hB'.ics.at (ti := ti51) (et := 72) rfl (j := j) (c := idat il[j]) (by rw [List.getElem?_map, hx]; rfl)
    simp only [e1, optA_some, ldM5 e3 e4 rfl]
    refine alloc_open fun u G1 U1 le1 hu => ?_
    rw [stoAgg (vs := (idat il[j]).map AV.d) U1 rfl rfl rfl]
    simp only [stepK_some, AHeap.sets]
    have U2 : (G1.set u (.mem 0 0 5 [(idat il[j]).map AV.d])) u = some (.mem 0 0 5 [(idat il[j]).map AV.d]) := set_self
    have le2 : AHeap.le G (G1.set u (.mem 0 0 5 [(idat il[j]).map AV.d])) := set_le le1 hu
    generalize G1.set u (.mem 0 0 5 [(idat il[j]).map AV.d]) = G2 at U2 le2 ⊢
    have g0 : ldV false 1 (.ptr u 0 0 0) G2 = some (.d (.str (bytes il[j].1.c))) := ldV_at U2 rfl rfl
    have g1 : ldV false 1 (.ptr u 0 0 1) G2 = some (.d (.str (bytes il[j].1.k))) := ldV_at U2 rfl rfl
    have g2 : ldV false 1 (.ptr u 0 0 2) G2 = some (.d (.int .i64 il[j].1.s)) := ldV_at U2 rfl rfl
    have g3 : ldV false 1 (.ptr u 0 0 3) G2 = some (.d (.int .i64 il[j].1.t)) := ldV_at U2 rfl rfl
    have g4 : ldV false 1 (.ptr u 0 0 4) G2 = some (.d (.sl il[j].2 (bs il[j].1.b))) := ldV_at U2 rfl rfl
    have hkp : ∀ {A A' : AHeap} (o : Nat), AHeap.le G2 A → AHeap.le A A' → kp (.ptr u 0 0 o) A A' := fun o ha hb => by
      show _ = _
      rw [hb _ _ (ha _ _ U2), ha _ _ U2]
    refine ⟨rfl, ?_⟩
    simp only [ti72_f0, ti72_f1, ti72_f2, ti72_f3, ti72_f4, Nat.zero_add, g0, g1, g2, g3, g4, optA_some, lenSl_d, bs_length]
    rw [strAdd (k1 il[j] (List.getElem_mem hlt')).c (k1 il[j] (List.getElem_mem hlt')).k, optA_some]
    rw [show sbA (.d (.str (bytes il[j].1.c ++ bytes il[j].1.k))) = some (.d (.sl false (datsOfStr (bytes il[j].1.c ++ bytes il[j].1.k))), []) from rfl, dstr2]
    simp only [stepK_some, AHeap.sets, g2, g3, g4, optA_some, lenSl_d, bs_length, frzLK_d, frzLK_nil]
    refine nput_c (n := 1) (by omega) fun n1 A1 q1 => ⟨hkp _ le_refl' q1, trivial, hkp _ le_refl' q1, hkp _ le_refl' q1, trivial, hkp _ le_refl' q1, hkp _ le_refl' q1, ?_⟩
    try simp only [frzLK_d, frzLK_nil]
    refine nput_c (n := 8) (by omega) fun n2 A2 q2 => ⟨hkp _ q1 q2, trivial, hkp _ q1 q2, trivial, hkp _ q1 q2, hkp _ q1 q2, ?_⟩
    try simp only [frzLK_d, frzLK_nil]
    refine nput_c (n := 2) (by omega) fun n3 A3 q3 => ⟨hkp _ (le_trans' q1 q2) q3, trivial, hkp _ (le_trans' q1 q2) q3, hkp _ (le_trans' q1 q2) q3, ?_⟩
    have hO3 := own_later hO (le_trans' (le_trans' (le_trans' le2 q1) q2) q3)
    obtain ⟨us, f3, fb⟩ := own_bs6 hO3
    simp only [own_agg hO3, aggL_d, noRsA_nil]
    intro n hn
    show stepK (bsA ti22 6 [0, 1, 2, 3, 4, 5] _ A3 n) A3 _
    rw [fb]
    simp only [stepK_some, frzLK_lit, frzLK_nil]
    have he := take_next (f := fun x : Ic × Bool => encIc x.1) hlt'
    have hw := b1 j
    have hi := encIc_le (k1 il[j] (List.getElem_mem hlt'))
    have hfl : fl [(AM.nilS w, encZ 2 il.length ++ ((il.take j).map fun x => encIc x.1).flatten), (false, il[j].1.c ++ il[j].1.k), (n1, encZ 1 il[j].1.s), (n2, encZ 8 il[j].1.t), (n3, encZ 2 il[j].1.b.length), (il[j].2, il[j].1.b)] = encZ 2 il.length ++ ((il.take (j + 1)).map fun x => encIc x.1).flatten := by
      rw [he]; simp [fl, encIc]
    refine concat_m (nl := false) (rows := [(AM.nilS w, encZ 2 il.length ++ ((il.take j).map fun x => encIc x.1).flatten), (false, il[j].1.c ++ il[j].1.k), (n1, encZ 1 il[j].1.s), (n2, encZ 8 il[j].1.t), (n3, encZ 2 il[j].1.b.length), (il[j].2, il[j].1.b)]) ?_ (by simp) fun w' G' hO' => ?_
    · rw [hfl, he, List.length_append, List.length_append, encZ_length]; omega
    rw [hfl] at hO'
    simp only [intA_add, optA_some]
    rw [wrap_i64 (by omega) (by omega)]
    exact hX (il.length - (j + 1)) _ _ (by omega) ⟨j + 1, w', _, _, _, _, _, _, rfl, hlt', own_base f3 hO', rfl⟩
  have hjl : j = il.length := by omega
  subst hjl
  rw [List.take_length] at hO
  clear hX
  have l1 : ldV false 1 (.ptr k 0 0 1) G = some pv := ldV_at hB'.base rfl rfl
  simp only [nilCkA, ti55_f1, Nat.zero_add, l1, hB.pgs.len, List.length_map, optA_some, frzLK_d, frzLK_nil]
  refine nput_c (n := 2) (by omega) fun n1 A1 q1 => ?_
  have d1 := flat_le (f := fun x : Ic × Bool => encIc x.1) (m := 519) fun x hx => encIc_le (k1 x hx)
  have d1' : ((il.map fun x => encIc x.1).flatten).length ≤ 519 * 200 := Nat.le_trans d1 (Nat.mul_le_mul_left _ h1)
  refine (own_later hO q1).app (ys := bs (encZ 2 pl.length)) rfl (by decide) (by decide) bs_sz (by rw [bs_length, bs_length, List.length_append, encZ_length, encZ_length]; simp only [mostBytes]; omega) fun w2 G2 hO2 _ _ _ => ?_
  have hB2 := hB.le hO2.le
  have l1' : ldV false 1 (.ptr k 0 0 1) G2 = some pv := ldV_at hB2.base rfl rfl
  simp only [l1', hB.pgs.len, List.length_map, optA_some]
  have eb : ∀ a b : By, bs a ++ bs b = bs (a ++ b) := fun a b => by simp [bs]
  rw [eb] at hO2
  obtain ⟨p1, hp1⟩ : ∃ p1, encZ 2 il.length ++ ((il.map fun x => encIc x.1).flatten) ++ encZ 2 pl.length = p1 := ⟨_, rfl⟩
  have lp1 : p1.length ≤ 103804 := by rw [← hp1]; simp only [List.length_append, encZ_length]; omega
  rw [hp1] at hO2
  refine loop_ind (fun r vs G => ∃ (j : Nat) (w x2 x3 x4 x8 x9 x10 : AV), r = pl.length - j ∧ j ≤ pl.length ∧ Go.AM.Own H 1 G w (bs (p1 ++ ((pl.take j).map encPg).flatten)) ∧ vs = [.ptr k 0 0 0, w, x2, x3, x4, pv, .d (.int .i64 pl.length), .d (.int .i64 j), x8, x9, x10]) (n := pl.length)
    ⟨0, w2, _, _, _, _, _, _, rfl, Nat.zero_le _, by simpa using hO2, rfl⟩ ?_
  clear hO2 l1' l1 hO hB' hlt q1 hB2
  rintro X r vs G ⟨j, w, x2, x3, x4, x8, x9, x10, rfl, hj, hO, rfl⟩ hX
  have hB' := hB.le hO.le
  simp only [List.getD_cons_succ, List.getD_cons_zero, intA_lss, optA_some, ifA_ite]
  refine ite_of' (fun hlt => ?_) fun hlt => ?_
  · have hlt' : j < pl.length := by omega
    have hx : pl[j]? = some pl[j] := List.getElem?_eq_getElem hlt'
    obtain ⟨i, ver, L, e1, e2, e3, e4⟩ := hB'.pgs.at (ti := ti52) (et := 62) rfl (j := j) (c := gdat pl[j]) (by rw [List.getElem?_map, hx]; rfl)
    simp only [e1, optA_some, ldM3 e3 e4 rfl]
    refine alloc_open fun u G1 U1 le1 hu => ?_
    rw [stoAgg (vs := (gdat pl[j]).map AV.d) U1 rfl rfl rfl]
    simp only [stepK_some, AHeap.sets]
    have U2 : (G1.set u (.mem 0 0 3 [(gdat pl[j]).map AV.d])) u = some (.mem 0 0 3 [(gdat pl[j]).map AV.d]) := set_self
    have le2 : AHeap.le G (G1.set u (.mem 0 0 3 [(gdat pl[j]).map AV.d])) := set_le le1 hu
    generalize G1.set u (.mem 0 0 3 [(gdat pl[j]).map AV.d]) = G2 at U2 le2 ⊢
    have g0 : ldV false 1 (.ptr u 0 0 0) G2 = some (.d (.str (bytes pl[j].c))) := ldV_at U2 rfl rfl
    have g1 : ldV false 1 (.ptr u 0 0 1) G2 = some (.d (.int .i64 pl[j].n)) := ldV_at U2 rfl rfl
    have g2 : ldV false 1 (.ptr u 0 0 2) G2 = some (.d (.int .i64 pl[j].f)) := ldV_at U2 rfl rfl
    have hkp : ∀ {A A' : AHeap} (o : Nat), AHeap.le G2 A → AHeap.le A A' → kp (.ptr u 0 0 o) A A' := fun o ha hb => by
      show _ = _
      rw [hb _ _ (ha _ _ U2), ha _ _ U2]
    refine ⟨rfl, ?_⟩
    simp only [ti62_f0, ti62_f1, ti62_f2, Nat.zero_add, g0, g1, g2, optA_some]
    rw [show sbA (.d (.str (bytes pl[j].c))) = some (.d (.sl false (datsOfStr (bytes pl[j].c))), []) from rfl, dstr1]
    simp only [stepK_some, AHeap.sets, frzLK_d, frzLK_nil, g1, g2, optA_some]
    refine nput_c (n := 8) (by omega) fun n1 A1 q1 => ⟨hkp _ le_refl' q1, trivial, hkp _ le_refl' q1, ?_⟩
    try simp only [frzLK_d, frzLK_nil]
    refine nput_c (n := 4) (by omega) fun n2 A2 q2 => ⟨trivial, hkp _ q1 q2, ?_⟩
    have hO3 := own_later hO (le_trans' (le_trans' le2 q1) q2)
    obtain ⟨us, f3, fb⟩ := own_bs4 hO3
    simp only [own_agg hO3, aggL_d, noRsA_nil]
    intro n hn
    show stepK (bsA ti22 4 [0, 1, 2, 3] _ A2 n) A2 _
    rw [fb]
    simp only [stepK_some, frzLK_lit, frzLK_nil]
    have he := take_next (f := encPg) hlt'
    have hw := b2 j
    have hi := encPg_le (k2 pl[j] (List.getElem_mem hlt'))
    have hfl : fl [(AM.nilS w, p1 ++ ((pl.take j).map encPg).flatten), (false, pl[j].c), (n1, encZ 8 pl[j].n), (n2, encZ 4 pl[j].f)] = p1 ++ ((pl.take (j + 1)).map encPg).flatten := by
      rw [he]; simp [fl, encPg]
    refine concat_m (nl := false) (rows := [(AM.nilS w, p1 ++ ((pl.take j).map encPg).flatten), (false, pl[j].c), (n1, encZ 8 pl[j].n), (n2, encZ 4 pl[j].f)]) ?_ (by simp) fun w' G' hO' => ?_
    · rw [hfl, he, List.length_append, List.length_append]; omega
    rw [hfl] at hO'
    simp only [intA_add, optA_some]
    rw [wrap_i64 (by omega) (by omega)]
    exact hX (pl.length - (j + 1)) _ _ (by omega) ⟨j + 1, w', _, _, _, _, _, _, rfl, hlt', own_base f3 hO', rfl⟩
  have hjl : j = pl.length := by omega
  subst hjl
  rw [List.take_length] at hO
  clear hX
  obtain ⟨es, c, m1, m2⟩ := hB.keysOk h3 k3
  have l2 : ∀ {A : AHeap}, AHeap.le H A → ldV false 1 (.ptr k 0 0 2) A = some (.map m) := fun ha => ldV_at (ha _ _ hB.base) rfl rfl
  have hml : lenMp (.map m) G = some (.d (.int .i64 cs.length)) := by
    have h4 := congrArg List.length m2.keys
    simp only [List.length_map] at h4
    simp only [lenMp, hO.le _ _ m1, h4]
  simp only [nilCkA, ti55_f2, Nat.zero_add, l2 hO.le, hml, optA_some, frzLK_d, frzLK_nil]
  refine nput_c (n := 2) (by omega) fun n1 A1 q1 => ?_
  have d2 := flat_le (f := encPg) (m := 16) fun x hx => encPg_le (k2 x hx)
  have d2' : ((pl.map encPg).flatten).length ≤ 16 * 200 := Nat.le_trans d2 (Nat.mul_le_mul_left _ h2)
  refine (own_later hO q1).app (ys := bs (encZ 2 cs.length)) rfl (by decide) (by decide) bs_sz (by rw [bs_length, bs_length, List.length_append, encZ_length]; simp only [mostBytes]; omega) fun w2 G2 hO2 _ _ _ => ?_
  rw [eb] at hO2
  obtain ⟨p2, hp2⟩ : ∃ p2, p1 ++ ((pl.map encPg).flatten) ++ encZ 2 cs.length = p2 := ⟨_, rfl⟩
  have lp2 : p2.length ≤ 107006 := by rw [← hp2]; simp only [List.length_append, encZ_length]; omega
  rw [hp2] at hO2
  simp only [l2 hO2.le, optA_some, frzLK_map, frzLK_nil]
  apply C48
  unfold S48
  refine box_open rfl fun u G3 hG3 hle3 hu => ?_
  rw [ret1_func]
  refine ⟨G3, le_refl', ?_⟩
  simp only [frzLK_func, frzLK_nil]
  refine sorted_keys ⟨_, Try.func47, ne_of_beq_false (by kernel_rfl), rfl⟩ Try.underlying3 keysS66 hG3 (hle3 _ _ (hO2.le _ _ m1)) m2 ?_
  have hsort : (cs.map (·.i)).mergeSort (fun x y => decide (x ≤ y)) = cs.map (·.i) := List.mergeSort_of_pairwise (by
    have : (cs.map (·.i)).Pairwise (· ≤ ·) := hr.imp fun h => by omega
    simpa using this)
  rw [hsort]
  have hO3 := own_later hO2 hle3
  generalize (cs.map (·.i)).isEmpty = nk
  simp only [lenSl_d, optA_some, intsD, List.length_map]
  refine loop_ind (fun r vs G => ∃ (j : Nat) (w x2 x3 x4 x5 x6 x7 : AV), r = cs.length - j ∧ j ≤ cs.length ∧ Go.AM.Own H 1 G w (bs (p2 ++ ((cs.take j).map encCm).flatten)) ∧ vs = [.ptr k 0 0 0, w, x2, x3, x4, x5, x6, x7, .d (.sl nk ((cs.map (·.i)).map fun n => [.int .i64 n])), .d (.int .i64 cs.length), .d (.int .i64 j)]) (n := cs.length)
    ⟨0, w2, _, _, _, _, _, _, rfl, Nat.zero_le _, by simpa using hO3, rfl⟩ ?_
  clear hO3 hO2 hO hB' hlt q1 hml hG3 hle3 hu
  rintro X r vs G ⟨j, w, x2, x3, x4, x5, x6, x7, rfl, hj, hO, rfl⟩ hX
  have hB' := hB.le hO.le
  simp only [List.getD_cons_succ, List.getD_cons_zero, intA_lss, optA_some, ifA_ite]
  refine ite_of' (fun hlt => ?_) fun hlt => ?_
  · have hlt' : j < cs.length := by omega
    have hix : indexAddrA ti26 1 (.d (.sl nk ((cs.map (·.i)).map fun n => [.int .i64 n]))) (.d (.int .i64 (j : Int))) = some (.vptr [.int .i64 cs[j].i] 0) := by
      refine sl_get (e := 3) rfl (by omega) ?_ rfl
      simp [List.getElem?_eq_getElem hlt']
    have hgo : ∀ A : AHeap, ldV false 1 (.vptr [.int .i64 cs[j].i] 0) A = some (.d (.int .i64 cs[j].i)) := fun A => by simp only [go_sem]
    simp only [hix, hgo, optA_some, nilCkA, ti55_f2, Nat.zero_add, l2 hO.le, com_look hB' hlt', frzLK_d, frzLK_nil]
    refine nput_c (n := 4) (by omega) fun n1 A1 q1 => ?_
    have hsz : lenStr (.d (.str (bytes cs[j].s))) = some (.d (.int .i64 cs[j].s.length)) := by simp [lenStr, ByteArray.size]
    simp only [hsz, optA_some, frzLK_d, frzLK_nil]
    refine nput_c (n := 1) (by omega) fun n2 A2 q2 => ?_
    rw [show sbA (.d (.str (bytes cs[j].s))) = some (.d (.sl false (datsOfStr (bytes cs[j].s))), []) from rfl, dstr1]
    simp only [stepK_some, AHeap.sets]
    have hO3 := own_later hO (le_trans' q1 q2)
    obtain ⟨us, f3, fb⟩ := own_bs4 hO3
    intro n hn
    show stepK (bsA ti22 4 [0, 1, 2, 3] _ A2 n) A2 _
    rw [fb]
    simp only [stepK_some, frzLK_lit, frzLK_nil]
    have he := take_next (f := encCm) hlt'
    have hw := b3 j
    have hi := encCm_le (k3 cs[j] (List.getElem_mem hlt'))
    have hfl : fl [(AM.nilS w, p2 ++ ((cs.take j).map encCm).flatten), (n1, encZ 4 cs[j].i), (n2, encZ 1 cs[j].s.length), (false, cs[j].s)] = p2 ++ ((cs.take (j + 1)).map encCm).flatten := by
      rw [he]; simp [fl, encCm]
    refine concat_m (nl := false) (rows := [(AM.nilS w, p2 ++ ((cs.take j).map encCm).flatten), (n1, encZ 4 cs[j].i), (n2, encZ 1 cs[j].s.length), (false, cs[j].s)]) ?_ (by simp) fun w' G' hO' => ?_
    · rw [hfl, he, List.length_append, List.length_append]; omega
    rw [hfl] at hO'
    simp only [intA_add, optA_some]
    rw [wrap_i64 (by omega) (by omega)]
    exact hX (cs.length - (j + 1)) _ _ (by omega) ⟨j + 1, w', _, _, _, _, _, _, rfl, hlt', own_base f3 hO', rfl⟩
  have hjl : j = cs.length := by omega
  subst hjl
  rw [List.take_length] at hO
  have hfin : p2 ++ (cs.map encCm).flatten = encAll (il.map (·.1)) pl cs := by
    rw [← hp2, ← hp1, encAll, List.map_map, List.length_map]; rfl
  rw [hfin] at hO
  have hne : AM.nilS w = false := by
    cases hn : AM.nilS w with
    | false => rfl
    | true =>
      have h9 := congrArg List.length (hO.nilS hn)
      simp only [bs_length, encAll, List.length_append, encZ_length, List.length_nil] at h9
      omega
  exact hO.ret le_refl' (by rw [hne]; exact hk)
end
end Go.Proofs.Ytmciomkibklokaa
/- The document's Bytes. -/
set_option autoImplicit false
set_option maxRecDepth 100000
set_option linter.unusedVariables false
set_option linter.unusedSimpArgs false
set_option linter.unnecessarySimpa false
namespace Go.Proofs.Ytmciomkibklokaa
open Go Go.AM Go.Proofs Go.RowKit
section
variable {H H0 G G' : AHeap} {u : Nat} {o : AObj} {v : AV} {l : List (List Dat)}
theorem own_with (hO : Go.AM.Own H 1 G v l) (hle : AHeap.le G G') (hu : G u = none) (hG : G' u = some o) : Go.AM.Own (H.set u o) 1 G' v l := by
  refine ⟨fun i x hi => ?_, hO.2.1, ?_⟩
  · by_cases hiu : i = u
    · subst hiu; rw [set_self] at hi; cases hi; exact hG
    · rw [set_ne hiu] at hi; exact hle _ _ (hO.1 _ _ hi)
  · rcases hO.2.2 with h | h | ⟨i, ver, L, h, h1, h2, h3, h4⟩
    · exact .inl h
    · exact .inr (.inl h)
    · refine .inr (.inr ⟨i, ver, L, h, hle _ _ h1, h2, h3, ?_⟩)
      rw [set_ne (show i ≠ u from fun he => by rw [he, hu] at h1; cases h1)]
      exact h4
theorem own_back (hu : H u = none) (hO : Go.AM.Own (H.set u o) 1 G v l) : Go.AM.Own H 1 G v l := own_base (le_set_own le_refl' hu) hO
theorem own_ap_d {x : Dat} (hO : Go.AM.Own H 1 G v l) : apart v (.d x) := by
  rcases hO.2.2 with ⟨rfl, _⟩ | rfl | ⟨i', ver, L, rfl, h1, _⟩ <;> trivial
end
theorem ldM2 {H : AHeap} {i ver j : Nat} {L : List (List AV)} {cs : List AV} (h : H i = some (.mem ver 0 2 L)) (hc : L[j]? = some cs) (h3 : cs.length = 2) : ldV true 2 (.ptr i ver j 0) H = some (.agg cs) := by
  simp only [ldV, h, if_true, hc, partV, List.drop_zero]
  rw [List.take_of_length_le (by omega), h3]
  simp
theorem bs_bs (a b : By) : bs a ++ bs b = bs (a ++ b) := by simp [bs]
theorem byte1 {x : Int} {A : AHeap} {n : Nat} : bsA ti5 1 [0] [.d (.int .u8 (x % 256))] A n = some (.lit (bs (encZ 1 x)), []) := by
  have : bs (encZ 1 x) = [[.int .u8 (x % 256)]] := by simp only [encZ, List.nil_append, bs, List.map_cons, List.map_nil, u8of]
  rw [this]; rfl
section
variable {H0 H : AHeap} {k q : Nat} {iv pv cv : AV} {il : List Ic} {pl : List Pg} {cl : List Cm} {K : AV → AHeap → Prop}
theorem RBytes_c (hB : RB H0 H k q iv pv cv il pl cl) (h1 : il.length ≤ 200) (h2 : pl.length ≤ 200) (h3 : cl.length ≤ 200) (k1 : ∀ x ∈ il, x.Ok) (k2 : ∀ x ∈ pl, x.Ok) (k3 : ∀ x ∈ cl, x.Ok)
    (hk : K (.d (.sl false (bs (encAll il pl cl)))) H) : CallsA Try.prog 13 [.ptr k 0 0 0] H K := by
  apply C13
  unfold S13
  have b1 : ∀ j, ((il.take j).map encIc).flatten.length ≤ 519 * 200 := fun j => flat_take (fun x hx => encIc_le (k1 x hx)) h1
  have b2 : ∀ j, ((pl.take j).map encPg).flatten.length ≤ 16 * 200 := fun j => flat_take (fun x hx => encPg_le (k2 x hx)) h2
  have b3 : ∀ j, ((cl.take j).map encCm).flatten.length ≤ 204 * 200 := fun j => flat_take (fun x hx => encCm_le (k3 x hx)) h3
  have l0 : ∀ {A : AHeap}, AHeap.le H A → ldV false 1 (.ptr k 0 0 0) A = some iv := fun ha => ldV_at (ha _ _ hB.base) rfl rfl
  have l1 : ∀ {A : AHeap}, AHeap.le H A → ldV false 1 (.ptr k 0 0 1) A = some pv := fun ha => ldV_at (ha _ _ hB.base) rfl rfl
  have l2 : ∀ {A : AHeap}, AHeap.le H A → ldV false 1 (.ptr k 0 0 2) A = some cv := fun ha => ldV_at (ha _ _ hB.base) rfl rfl
  simp only [nilCkA, ti86_f0, Nat.zero_add, l0 le_refl', hB.ics.len, List.length_map, optA_some, frzLK_d, frzLK_nil]
  refine rput_m (n := 2) (by omega) fun w G1 hO1 => ?_
  refine loop_ind (fun r vs G => ∃ (j : Nat) (w x3 x4 : AV), r = il.length - j ∧ j ≤ il.length ∧ Go.AM.Own H 1 G w (bs (encZ 2 il.length ++ ((il.take j).map encIc).flatten)) ∧ vs = [.ptr k 0 0 0, w, .d (.int .i64 j), x3, x4]) (n := il.length)
    ⟨0, w, _, _, rfl, Nat.zero_le _, by simpa using hO1, rfl⟩ ?_
  clear hO1
  rintro X r vs G ⟨j, w, x3, x4, rfl, hj, hO, rfl⟩ hX
  simp only [List.getD_cons_succ, List.getD_cons_zero, nilCkA, ti86_f0, Nat.zero_add, l0 hO.le, hB.ics.len, List.length_map, optA_some, intA_lss, ifA_ite]
  refine ite_of' (fun hlt => ?_) fun hlt => ?_
  · have hlt' : j < il.length := by omega
    have hx : il[j]? = some il[j] := List.getElem?_eq_getElem hlt'
    obtain ⟨i, ver, L, e1, e2, e3, e4⟩ := (hB.ics.le hO.le).at (ti := ti82) (et := 88) rfl (j := j) (c := idat (il[j], false)) (by rw [List.getElem?_map, hx]; rfl)
    simp only [e1, optA_some, ldM5 e3 e4 rfl]
    refine alloc_open fun u G1 U1 le1 hu => ?_
    rw [stoAgg (vs := (idat (il[j], false)).map AV.d) U1 rfl rfl rfl]
    simp only [stepK_some, AHeap.sets]
    have U2 : (G1.set u (.mem 0 0 5 [(idat (il[j], false)).map AV.d])) u = some (.mem 0 0 5 [(idat (il[j], false)).map AV.d]) := set_self
    have le2 : AHeap.le G (G1.set u (.mem 0 0 5 [(idat (il[j], false)).map AV.d])) := set_le le1 hu
    generalize G1.set u (.mem 0 0 5 [(idat (il[j], false)).map AV.d]) = G2 at U2 le2 ⊢
    have hHu : H u = none := le_none hO.le hu
    have hO2 := own_with hO le2 hu U2
    have hU : (H.set u (.mem 0 0 5 [(idat (il[j], false)).map AV.d])) u = some (.mem 0 0 5 [(idat (il[j], false)).map AV.d]) := set_self
    have hHle : AHeap.le H (H.set u (.mem 0 0 5 [(idat (il[j], false)).map AV.d])) := le_set_own le_refl' hHu
    generalize H.set u (.mem 0 0 5 [(idat (il[j], false)).map AV.d]) = Hu at hO2 hU hHle
    have g0 : ∀ {A : AHeap}, AHeap.le Hu A → ldV false 1 (.ptr u 0 0 0) A = some (.d (.str (bytes il[j].c))) := fun ha => ldV_at (ha _ _ hU) rfl rfl
    have g1 : ∀ {A : AHeap}, AHeap.le Hu A → ldV false 1 (.ptr u 0 0 1) A = some (.d (.str (bytes il[j].k))) := fun ha => ldV_at (ha _ _ hU) rfl rfl
    have g2 : ∀ {A : AHeap}, AHeap.le Hu A → ldV false 1 (.ptr u 0 0 2) A = some (.d (.int .i64 il[j].s)) := fun ha => ldV_at (ha _ _ hU) rfl rfl
    have g3 : ∀ {A : AHeap}, AHeap.le Hu A → ldV false 1 (.ptr u 0 0 3) A = some (.d (.int .i64 il[j].t)) := fun ha => ldV_at (ha _ _ hU) rfl rfl
    have g4 : ∀ {A : AHeap}, AHeap.le Hu A → ldV false 1 (.ptr u 0 0 4) A = some (.d (.sl false (bs il[j].b))) := fun ha => ldV_at (ha _ _ hU) rfl rfl
    have hw := b1 j
    have hok := k1 il[j] (List.getElem_mem hlt')
    have hi := encIc_le hok
    have hb := hok.b
    have hc4 := hok.c
    have hk4 := hok.k
    simp only [ti88_f0, ti88_f1, Nat.zero_add, g0 hO2.le, g1 hO2.le, optA_some]
    rw [strAdd hok.c hok.k, optA_some, show sbA (.d (.str (bytes il[j].c ++ bytes il[j].k))) = some (.d (.sl false (datsOfStr (bytes il[j].c ++ bytes il[j].k))), []) from rfl, dstr2]
    simp only [stepK_some, AHeap.sets]
    refine hO2.app (ys := bs (il[j].c ++ il[j].k)) rfl (by decide) (by decide) bs_sz (by rw [bs_length, bs_length]; simp only [List.length_append, encZ_length, mostBytes]; omega) fun w1 A1 hO3 _ _ _ => ?_
    rw [bs_bs] at hO3
    refine ⟨rfl, ?_⟩
    simp only [ti88_f2, Nat.zero_add, g2 hO3.le, optA_some, cvI_int, u8w, aggL_d, noRsA_nil]
    intro n hn
    show stepK (bsA ti5 1 [0] [.d (.int .u8 (il[j].s % 256))] A1 n) A1 _
    rw [byte1]
    simp only [stepK_some, AHeap.sets]
    refine hO3.app (ys := bs (encZ 1 il[j].s)) rfl (by decide) (by decide) bs_sz (by rw [bs_length, bs_length]; simp only [List.length_append, encZ_length, mostBytes]; omega) fun w2 A2 hO4 _ _ _ => ?_
    rw [bs_bs] at hO4
    simp only [ti88_f3, Nat.zero_add, optA_some]
    refine ⟨hO3.apart hU, hO4.apart hU, trivial, trivial, ?_⟩
    simp only [g3 hO4.le, optA_some, aggL_d, noRsA_nil, frzLK_d, frzLK_nil]
    refine ⟨_, rput_c (n := 8) (by omega) fun H' hle => ⟨rfl, hle⟩, ?_⟩
    refine hO4.app (ys := bs (encZ 8 il[j].t)) rfl (by decide) (by decide) bs_sz (by rw [bs_length, bs_length]; simp only [List.length_append, encZ_length, mostBytes]; omega) fun w3 A3 hO5 _ _ _ => ?_
    rw [bs_bs] at hO5
    refine ⟨rfl, ?_⟩
    simp only [ti88_f4, Nat.zero_add, g4 hO5.le, optA_some, lenSl_d, bs_length, aggL_d, noRsA_nil, frzLK_d, frzLK_nil]
    refine ⟨_, rput_c (n := 2) (by omega) fun H' hle => ⟨rfl, hle⟩, ?_⟩
    refine hO5.app (ys := bs (encZ 2 il[j].b.length)) rfl (by decide) (by decide) bs_sz (by rw [bs_length, bs_length]; simp only [List.length_append, encZ_length, mostBytes]; omega) fun w4 A4 hO6 _ _ _ => ?_
    rw [bs_bs] at hO6
    try simp only [ti88_f4, Nat.zero_add, optA_some]
    refine ⟨hO5.apart hU, hO6.apart hU, trivial, trivial, ?_⟩
    simp only [g4 hO6.le, optA_some]
    refine hO6.app (ys := bs il[j].b) rfl (by decide) (by decide) bs_sz (by rw [bs_length, bs_length]; simp only [List.length_append, encZ_length, mostBytes]; omega) fun w5 A5 hO7 _ _ _ => ?_
    rw [bs_bs] at hO7
    try simp only [intA_add, optA_some]
    rw [wrap_i64 (by omega) (by omega)]
    refine hX (il.length - (j + 1)) _ _ (by omega) ⟨j + 1, w5, _, _, rfl, hlt', ?_, rfl⟩
    have he := take_next (f := encIc) hlt'
    have hfin : encZ 2 il.length ++ ((il.take j).map encIc).flatten ++ (il[j].c ++ il[j].k) ++ encZ 1 il[j].s ++ encZ 8 il[j].t ++ encZ 2 il[j].b.length ++ il[j].b = encZ 2 il.length ++ ((il.take (j + 1)).map encIc).flatten := by
      rw [he]; simp only [encIc, List.append_assoc]
    rw [hfin] at hO7
    exact own_base hHle hO7
  have hjl : j = il.length := by omega
  subst hjl
  rw [List.take_length] at hO
  clear hX
  have d1 : ((il.map encIc).flatten).length ≤ 519 * 200 := Nat.le_trans (flat_le fun x hx => encIc_le (k1 x hx)) (Nat.mul_le_mul_left _ h1)
  simp only [nilCkA, ti86_f1, Nat.zero_add, l1 hO.le, hB.pgs.len, List.length_map, optA_some, frzLK_d, frzLK_nil]
  refine rput_c (n := 2) (by omega) fun A1 q1 => ?_
  refine (own_later hO q1).app (ys := bs (encZ 2 pl.length)) rfl (by decide) (by decide) bs_sz (by rw [bs_length, bs_length]; simp only [List.length_append, encZ_length, mostBytes]; omega) fun w2 G2 hO2 _ _ _ => ?_
  rw [bs_bs] at hO2
  obtain ⟨p1, hp1⟩ : ∃ p1, encZ 2 il.length ++ ((il.map encIc).flatten) ++ encZ 2 pl.length = p1 := ⟨_, rfl⟩
  have lp1 : p1.length ≤ 103804 := by rw [← hp1]; simp only [List.length_append, encZ_length]; omega
  rw [hp1] at hO2
  refine loop_ind (fun r vs G => ∃ (j : Nat) (w x2 x4 : AV), r = pl.length - j ∧ j ≤ pl.length ∧ Go.AM.Own H 1 G w (bs (p1 ++ ((pl.take j).map encPg).flatten)) ∧ vs = [.ptr k 0 0 0, w, x2, .d (.int .i64 j), x4]) (n := pl.length)
    ⟨0, w2, _, _, rfl, Nat.zero_le _, by simpa using hO2, rfl⟩ ?_
  clear hO2 hO hlt q1
  rintro X r vs G ⟨j, w, x2, x4, rfl, hj, hO, rfl⟩ hX
  simp only [List.getD_cons_succ, List.getD_cons_zero, nilCkA, ti86_f1, Nat.zero_add, l1 hO.le, hB.pgs.len, List.length_map, optA_some, intA_lss, ifA_ite]
  refine ite_of' (fun hlt => ?_) fun hlt => ?_
  · have hlt' : j < pl.length := by omega
    have hx : pl[j]? = some pl[j] := List.getElem?_eq_getElem hlt'
    obtain ⟨i, ver, L, e1, e2, e3, e4⟩ := (hB.pgs.le hO.le).at (ti := ti83) (et := 91) rfl (j := j) (c := gdat pl[j]) (by rw [List.getElem?_map, hx]; rfl)
    simp only [e1, optA_some, ldM3 e3 e4 rfl]
    refine alloc_open fun u G1 U1 le1 hu => ?_
    rw [stoAgg (vs := (gdat pl[j]).map AV.d) U1 rfl rfl rfl]
    simp only [stepK_some, AHeap.sets]
    have U2 : (G1.set u (.mem 0 0 3 [(gdat pl[j]).map AV.d])) u = some (.mem 0 0 3 [(gdat pl[j]).map AV.d]) := set_self
    have le2 : AHeap.le G (G1.set u (.mem 0 0 3 [(gdat pl[j]).map AV.d])) := set_le le1 hu
    generalize G1.set u (.mem 0 0 3 [(gdat pl[j]).map AV.d]) = G2 at U2 le2 ⊢
    have hHu : H u = none := le_none hO.le hu
    have hO2 := own_with hO le2 hu U2
    have hU : (H.set u (.mem 0 0 3 [(gdat pl[j]).map AV.d])) u = some (.mem 0 0 3 [(gdat pl[j]).map AV.d]) := set_self
    have hHle : AHeap.le H (H.set u (.mem 0 0 3 [(gdat pl[j]).map AV.d])) := le_set_own le_refl' hHu
    generalize H.set u (.mem 0 0 3 [(gdat pl[j]).map AV.d]) = Hu at hO2 hU hHle
    have g0 : ∀ {A : AHeap}, AHeap.le Hu A → ldV false 1 (.ptr u 0 0 0) A = some (.d (.str (bytes pl[j].c))) := fun ha => ldV_at (ha _ _ hU) rfl rfl
    have g1 : ∀ {A : AHeap}, AHeap.le Hu A → ldV false 1 (.ptr u 0 0 1) A = some (.d (.int .i64 pl[j].n)) := fun ha => ldV_at (ha _ _ hU) rfl rfl
    have g2 : ∀ {A : AHeap}, AHeap.le Hu A → ldV false 1 (.ptr u 0 0 2) A = some (.d (.int .i64 pl[j].f)) := fun ha => ldV_at (ha _ _ hU) rfl rfl
    have hw := b2 j
    have hok := k2 pl[j] (List.getElem_mem hlt')
    have hc4 := hok.c
    simp only [ti91_f0, Nat.zero_add, g0 hO2.le, optA_some]
    rw [show sbA (.d (.str (bytes pl[j].c))) = some (.d (.sl false (datsOfStr (bytes pl[j].c))), []) from rfl, dstr1]
    simp only [stepK_some, AHeap.sets]
    refine hO2.app (ys := bs pl[j].c) rfl (by decide) (by decide) bs_sz (by rw [bs_length, bs_length]; simp only [List.length_append, encZ_length, mostBytes]; omega) fun w1 A1 hO3 _ _ _ => ?_
    rw [bs_bs] at hO3
    refine ⟨rfl, ?_⟩
    simp only [ti91_f1, Nat.zero_add, g1 hO3.le, optA_some, aggL_d, noRsA_nil, frzLK_d, frzLK_nil]
    refine ⟨_, rput_c (n := 8) (by omega) fun H' hle => ⟨rfl, hle⟩, ?_⟩
    refine hO3.app (ys := bs (encZ 8 pl[j].n)) rfl (by decide) (by decide) bs_sz (by rw [bs_length, bs_length]; simp only [List.length_append, encZ_length, mostBytes]; omega) fun w2 A2 hO4 _ _ _ => ?_
    rw [bs_bs] at hO4
    simp only [ti91_f2, Nat.zero_add, optA_some]
    refine ⟨hO3.apart hU, hO4.apart hU, trivial, trivial, ?_⟩
    simp only [g2 hO4.le, optA_some, aggL_d, noRsA_nil, frzLK_d, frzLK_nil]
    refine ⟨_, rput_c (n := 4) (by omega) fun H' hle => ⟨rfl, hle⟩, ?_⟩
    refine hO4.app (ys := bs (encZ 4 pl[j].f)) rfl (by decide) (by decide) bs_sz (by rw [bs_length, bs_length]; simp only [List.length_append, encZ_length, mostBytes]; omega) fun w3 A3 hO5 _ _ _ => ?_
    rw [bs_bs] at hO5
    try simp only [intA_add, optA_some]
    rw [wrap_i64 (by omega) (by omega)]
    refine hX (pl.length - (j + 1)) _ _ (by omega) ⟨j + 1, w3, _, _, rfl, hlt', ?_, rfl⟩
    have he := take_next (f := encPg) hlt'
    have hfin : p1 ++ ((pl.take j).map encPg).flatten ++ pl[j].c ++ encZ 8 pl[j].n ++ encZ 4 pl[j].f = p1 ++ ((pl.take (j + 1)).map encPg).flatten := by
      rw [he]; simp only [encPg, List.append_assoc]
    rw [hfin] at hO5
    exact own_base hHle hO5
  have hjl : j = pl.length := by omega
  subst hjl
  rw [List.take_length] at hO
  clear hX
  have d2 : ((pl.map encPg).flatten).length ≤ 16 * 200 := Nat.le_trans (flat_le fun x hx => encPg_le (k2 x hx)) (Nat.mul_le_mul_left _ h2)
  simp only [nilCkA, ti86_f2, Nat.zero_add, l2 hO.le, hB.cms.len, List.length_map, optA_some, frzLK_d, frzLK_nil]
  refine rput_c (n := 2) (by omega) fun A1 q1 => ?_
  refine (own_later hO q1).app (ys := bs (encZ 2 cl.length)) rfl (by decide) (by decide) bs_sz (by rw [bs_length, bs_length]; simp only [List.length_append, encZ_length, mostBytes]; omega) fun w2 G2 hO2 _ _ _ => ?_
  rw [bs_bs] at hO2
  obtain ⟨p2, hp2⟩ : ∃ p2, p1 ++ ((pl.map encPg).flatten) ++ encZ 2 cl.length = p2 := ⟨_, rfl⟩
  have lp2 : p2.length ≤ 107006 := by rw [← hp2]; simp only [List.length_append, encZ_length]; omega
  rw [hp2] at hO2
  refine loop_ind (fun r vs G => ∃ (j : Nat) (w x2 x3 : AV), r = cl.length - j ∧ j ≤ cl.length ∧ Go.AM.Own H 1 G w (bs (p2 ++ ((cl.take j).map encCm).flatten)) ∧ vs = [.ptr k 0 0 0, w, x2, x3, .d (.int .i64 j)]) (n := cl.length)
    ⟨0, w2, _, _, rfl, Nat.zero_le _, by simpa using hO2, rfl⟩ ?_
  clear hO2 hO hlt q1
  rintro X r vs G ⟨j, w, x2, x3, rfl, hj, hO, rfl⟩ hX
  simp only [List.getD_cons_succ, List.getD_cons_zero, nilCkA, ti86_f2, Nat.zero_add, l2 hO.le, hB.cms.len, List.length_map, optA_some, intA_lss, ifA_ite]
  refine ite_of' (fun hlt => ?_) fun hlt => ?_
  · have hlt' : j < cl.length := by omega
    have hx : cl[j]? = some cl[j] := List.getElem?_eq_getElem hlt'
    obtain ⟨i, ver, L, e1, e2, e3, e4⟩ := (hB.cms.le hO.le).at (ti := ti84) (et := 93) rfl (j := j) (c := cdat cl[j]) (by rw [List.getElem?_map, hx]; rfl)
    simp only [e1, optA_some, ldM2 e3 e4 rfl]
    refine alloc_open fun u G1 U1 le1 hu => ?_
    rw [stoAgg (vs := (cdat cl[j]).map AV.d) U1 rfl rfl rfl]
    simp only [stepK_some, AHeap.sets]
    have U2 : (G1.set u (.mem 0 0 2 [(cdat cl[j]).map AV.d])) u = some (.mem 0 0 2 [(cdat cl[j]).map AV.d]) := set_self
    have le2 : AHeap.le G (G1.set u (.mem 0 0 2 [(cdat cl[j]).map AV.d])) := set_le le1 hu
    generalize G1.set u (.mem 0 0 2 [(cdat cl[j]).map AV.d]) = G2 at U2 le2 ⊢
    have hHu : H u = none := le_none hO.le hu
    have hO2 := own_with hO le2 hu U2
    have hU : (H.set u (.mem 0 0 2 [(cdat cl[j]).map AV.d])) u = some (.mem 0 0 2 [(cdat cl[j]).map AV.d]) := set_self
    have hHle : AHeap.le H (H.set u (.mem 0 0 2 [(cdat cl[j]).map AV.d])) := le_set_own le_refl' hHu
    generalize H.set u (.mem 0 0 2 [(cdat cl[j]).map AV.d]) = Hu at hO2 hU hHle
    have g0 : ∀ {A : AHeap}, AHeap.le Hu A → ldV false 1 (.ptr u 0 0 0) A = some (.d (.int .i64 cl[j].i)) := fun ha => ldV_at (ha _ _ hU) rfl rfl
    have g1 : ∀ {A : AHeap}, AHeap.le Hu A → ldV false 1 (.ptr u 0 0 1) A = some (.d (.str (bytes cl[j].s))) := fun ha => ldV_at (ha _ _ hU) rfl rfl
    have hw := b3 j
    have hok := k3 cl[j] (List.getElem_mem hlt')
    have hs := hok.s
    refine ⟨rfl, ?_⟩
    simp only [ti93_f0, Nat.zero_add, g0 hO2.le, optA_some, aggL_d, noRsA_nil, frzLK_d, frzLK_nil]
    refine ⟨_, rput_c (n := 4) (by omega) fun H' hle => ⟨rfl, hle⟩, ?_⟩
    refine hO2.app (ys := bs (encZ 4 cl[j].i)) rfl (by decide) (by decide) bs_sz (by rw [bs_length, bs_length]; simp only [List.length_append, encZ_length, mostBytes]; omega) fun w1 A1 hO3 _ _ _ => ?_
    rw [bs_bs] at hO3
    have hsz : lenStr (.d (.str (bytes cl[j].s))) = some (.d (.int .i64 cl[j].s.length)) := by simp [lenStr, ByteArray.size]
    simp only [ti93_f1, Nat.zero_add, optA_some]
    refine ⟨hO2.apart hU, hO3.apart hU, trivial, trivial, ?_⟩
    simp only [g1 hO3.le, optA_some]
    refine ⟨own_ap_d hO2, own_ap_d hO3, trivial, trivial, ?_⟩
    simp only [hsz, optA_some]
    refine ⟨own_ap_d hO2, own_ap_d hO3, trivial, trivial, ?_⟩
    simp only [cvI_int, optA_some, u8w]
    refine ⟨(by rw [rsOf_d, ap_nil]; trivial), (by rw [rsOf_d, ap_nil]; trivial), (by rw [rsOf_d, ap_nil]; trivial), (by rw [rsOf_d, ap_nil]; trivial), trivial, trivial, trivial, trivial, ?_⟩
    simp only [aggL_d, noRsA_nil]
    intro n hn
    show stepK (bsA ti5 1 [0] [.d (.int .u8 ((cl[j].s.length : Int) % 256))] A1 n) A1 _
    rw [byte1]
    simp only [stepK_some, AHeap.sets]
    refine hO3.app (ys := bs (encZ 1 cl[j].s.length)) rfl (by decide) (by decide) bs_sz (by rw [bs_length, bs_length]; simp only [List.length_append, encZ_length, mostBytes]; omega) fun w2 A2 hO4 _ _ _ => ?_
    rw [bs_bs] at hO4
    simp only [g1 hO4.le, optA_some]
    rw [show sbA (.d (.str (bytes cl[j].s))) = some (.d (.sl false (datsOfStr (bytes cl[j].s))), []) from rfl, dstr1]
    simp only [stepK_some, AHeap.sets]
    refine hO4.app (ys := bs cl[j].s) rfl (by decide) (by decide) bs_sz (by rw [bs_length, bs_length]; simp only [List.length_append, encZ_length, mostBytes]; omega) fun w3 A3 hO5 _ _ _ => ?_
    rw [bs_bs] at hO5
    try simp only [intA_add, optA_some]
    rw [wrap_i64 (by omega) (by omega)]
    refine hX (cl.length - (j + 1)) _ _ (by omega) ⟨j + 1, w3, _, _, rfl, hlt', ?_, rfl⟩
    have he := take_next (f := encCm) hlt'
    have hfin : p2 ++ ((cl.take j).map encCm).flatten ++ encZ 4 cl[j].i ++ encZ 1 cl[j].s.length ++ cl[j].s = p2 ++ ((cl.take (j + 1)).map encCm).flatten := by
      rw [he]; simp only [encCm, List.append_assoc]
    rw [hfin] at hO5
    exact own_base hHle hO5
  have hjl : j = cl.length := by omega
  subst hjl
  rw [List.take_length] at hO
  have hfin : p2 ++ (cl.map encCm).flatten = encAll il pl cl := by
    rw [← hp2, ← hp1, encAll]
  rw [hfin] at hO
  have hne : AM.nilS w = false := by
    cases hn : AM.nilS w with
    | false => rfl
    | true =>
      have h9 := congrArg List.length (hO.nilS hn)
      simp only [bs_length, encAll, List.length_append, encZ_length, List.length_nil] at h9
      omega
  exact hO.ret le_refl' (by rw [hne]; exact hk)
end
end Go.Proofs.Ytmciomkibklokaa
/- DesktopLoads: the walk. -/
set_option autoImplicit false
set_option maxRecDepth 100000
set_option linter.unusedVariables false
set_option linter.unusedSimpArgs false
set_option linter.unnecessarySimpa false
namespace Go.Proofs.Ytmciomkibklokaa
open Go Go.AM Go.Proofs Go.RowKit
theorem first_le {H : AHeap} : CallsA Try.prog 6 [] H fun v H' => v = .d (.bool true) ∧ AHeap.le H H' :=
  frame_c (D := fun _ => False) (K' := fun v _ => v = .d (.bool true)) (First_c fun H' => rfl) fun v H1 H' h1 hle hf hn => ⟨h1, fun i o hi => (hf i (by rw [hi]; rfl) id).trans hi⟩
theorem loads_law {nl : Bool} {b : By} (hnl : nl = true → b = []) (hl : b.length ≤ 2 ^ 47) : CallsA Try.prog 4 [.d (.sl nl (bs b))] noHeap fun v _ => v = .d (.bool true) := by
  apply C4
  unfold S4
  simp only [frzLK_d, frzLK_nil]
  refine Load_c hnl (by omega) (fun e H1 hp he => ?_) (fun k m q iv pv il pl cs H1 hp hB => ?_)
  · simp only [extractA_0, extractA_1, optA_some, frzLK_d, frzLK_nil]
    refine RLoad_c (by omega) (fun e' H2 hle hp' => ?_) fun k q iv pv cv il pl cs H2 hp' hB => ?_
    · rw [hp] at hp'
      cases hp'
      simp only [extractA_0, extractA_1, optA_some, intA_neq, intA_eql, ne_eq, not_true_eq_false, decide_false, ifA_f, he, nilA, isNil, boolA_neq, not_false_eq_true, decide_true, go_sem]
      refine ⟨_, first_le, ?_⟩
      simp only [ret1_d]
      exact ⟨_, le_refl', rfl⟩
    · rw [hp] at hp'
      cases hp'
  · obtain ⟨a1, a2, a3, a4, a5, a6, a7, a8⟩ := parse_enc hp
    simp only [extractA_0, extractA_1, optA_some, frzLK_d, frzLK_nil]
    refine RLoad_c (by omega) (fun e' H2 hle hp' => ?_) fun k2 q2 iv2 pv2 cv2 il2 pl2 cs2 H2 hp' hB2 => ?_
    · rw [hp] at hp'
      cases hp'
    rw [hp] at hp'
    cases hp'
    simp only [extractA_0, extractA_1, optA_some, intA_neq, intA_eql, ne_eq, not_true_eq_false, decide_false, ifA_f, nilA, isNil, boolA_neq, not_false_eq_true, decide_true, go_sem]
    have hb1 := Bytes_c (hB.le hB2.le0) (by rw [← List.length_map (f := fun x : Ic × Bool => x.1)]; exact a2) a3 a4 (fun x hx => a5 x.1 (List.mem_map.2 ⟨x, hx, rfl⟩)) a6 a7 a8 (K := fun v H' => v = .d (.sl false (bs b)) ∧ AHeap.le H2 H') (by rw [a1]; exact ⟨rfl, le_refl'⟩)
    have hb2 := RBytes_c hB2 a2 a3 a4 a5 a6 a7 (K := fun v H' => v = .d (.sl false (bs b)) ∧ AHeap.le H2 H') (by rw [a1]; exact ⟨rfl, le_refl'⟩)
    refine ⟨_, hb1, ?_⟩
    simp only [cvBS_bs, optA_some, go_sem]
    refine ⟨_, hb2, ?_⟩
    simp only [cvBS_bs, optA_some, strA_eql, strEq, decide_true, ifA_t, go_sem]
    refine ⟨_, hb1, ?_⟩
    simp only [cvBS_bs, optA_some, strA_eql, strEq, decide_true, ifA_t, go_sem]
    refine ⟨_, first_le, ?_⟩
    simp only [ret1_d]
    exact ⟨_, le_refl', rfl⟩
theorem loads_row (xs : List Dat) (h : DatOk Try.prog 9 22 xs) : CallsA Try.prog 4 [argAV (aggT Try.prog 22) xs] noHeap fun v _ => v = .d (.bool true) := by
  obtain ⟨nl, bl, hb, hnl, hl⟩ := bytes_open h
  rw [hb]
  exact loads_law hnl hl
end Go.Proofs.Ytmciomkibklokaa

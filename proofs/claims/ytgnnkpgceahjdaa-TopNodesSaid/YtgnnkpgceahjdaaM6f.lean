/- A fast link: the probes of a step. -/
import Derived.Test.YtgnnkpgceahjdaaM6e
set_option autoImplicit false
set_option maxRecDepth 100000
set_option linter.unusedVariables false
set_option linter.unusedSimpArgs false
set_option linter.unnecessarySimpa false
namespace Go.Proofs.Ytgnnkpgceahjdaa
open Go Go.AM Go.Proofs
abbrev lObj (sv : AV) (f : Int) : AObj := .mem 0 0 5 [[.d (.int .i64 3), .d (.int .i64 4), .d (.sl true []), sv, .d (.int .i64 f)]]
theorem LinkAt.now {H G : AHeap} {k : Nat} {sv : AV} {ids : List Nat} {sts : List Pt} {f f' : Int} (h : LinkAt H k sv ids sts f) (hn : G k = some (lObj sv f')) (hf : ∀ i, (H i).isSome → i ≠ k → G i = H i) : LinkAt G k sv ids sts f' :=
  ⟨hn, h.sts.keep (fun i hi => hf i (h.sts.isS (.inl hi)) (h.kne.1 i hi)) fun i hi => hf i (h.sts.isS (.inr hi)) fun he => h.kne.2 (he ▸ hi)⟩
def askP (sts : List Pt) (n : Nat) : List Nat := (List.range n).filter fun i => decide ((sts.getD i default).state = 1)
theorem askP_s {sts : List Pt} {n : Nat} : askP sts (n + 1) = askP sts n ++ if (sts.getD n default).state = 1 then [n] else [] := by
  simp only [askP, List.range_succ, List.filter_append, List.filter_cons, List.filter_nil, decide_eq_true_eq]
theorem askP_len {sts : List Pt} {n : Nat} : (askP sts n).length ≤ n := by
  unfold askP
  exact Nat.le_trans (List.length_filter_le _ _) (by simp)
theorem askP_mem {sts : List Pt} {i : Nat} : i ∈ askP sts sts.length ↔ i < sts.length ∧ (sts.getD i default).state = 1 := by
  simp only [askP, List.mem_filter, List.mem_range, decide_eq_true_eq]
theorem askP_nodup {sts : List Pt} {n : Nat} : (askP sts n).Nodup := List.filter_sublist.nodup List.nodup_range
/-- Two lists of one's own that grow. -/
structure P2 (H G : AHeap) (k : Nat) (a w : AV) (la lw : List Nat) : Prop where
  fr : ∀ i, (H i).isSome → i ≠ k → G i = H i
  ma : Mine G a (ints (nats la))
  mw : Mine G w (ints (nats lw))
  aN : ∀ i, idOf a = some i → H i = none
  wN : ∀ i, idOf w = some i → H i = none
  aw : ∀ i, idOf a = some i → idOf w ≠ some i
section
variable {H G : AHeap} {k : Nat} {sv : AV} {ids : List Nat} {sts : List Pt} {f : Int} {K : AV → AHeap → Prop} {a w va : AV} {la lw ask : List Nat} {A : List Bool}
theorem P2.swap (h : P2 H G k a w la lw) : P2 H G k w a lw la := ⟨h.fr, h.mw, h.ma, h.wN, h.aN, fun i hi ha => h.aw i ha hi⟩
theorem P2.app (h : P2 H G k a w la lw) (hk : (H k).isSome) (hGk : (G k).isSome) (hl : la.length < 2 ^ 40) {n : Nat} (hK : ∀ v1 G1, P2 H G1 k v1 w (la ++ [n]) lw → G1 k = G k → K v1 G1) : newK G (fun m => apA 1 8 a (.lit [[.int .i64 (n : Int)]]) G m) K := by
  refine one_more h.ma (by rw [nats_len]; exact hl) fun v1 G1 hv1 hf1 hi1 => ?_
  have nk : ∀ i, H i = none → i ≠ k := fun i hi he => by rw [he] at hi; rw [hi] at hk; cases hk
  refine hK v1 G1 ⟨fun i hi hik => ?_, ?_, h.mw.keep fun i hi => hf1 i (h.mw.obj hi) fun he => h.aw i he hi, fun i hi => ?_, h.wN, fun i hi hwi => ?_⟩ ?_
  · rw [hf1 i (by rw [h.fr i hi hik]; exact hi) (fun he => by rw [h.aN i he] at hi; cases hi)]
    exact h.fr i hi hik
  · have : nats (la ++ [n]) = nats la ++ [(n : Int)] := by simp [nats]
    rw [this]; exact hv1
  · rcases hi1 i hi with h2 | h2
    · exact h.aN i h2
    · cases hh : H i with
      | none => rfl
      | some o =>
        by_cases hik : i = k
        · subst hik; rw [h2] at hGk; cases hGk
        · have := h.fr i (by rw [hh]; rfl) hik
          rw [h2, hh] at this; cases this
  · rcases hi1 i hi with h2 | h2
    · exact h.aw i h2 hwi
    · have := h.mw.obj hwi; rw [h2] at this; cases this
  · exact hf1 k hGk fun he => nk k (h.aN k he) rfl
theorem P2.only (h : P2 H G k a w la lw) (hk : (H k).isSome) {G' : AHeap} (hf : ∀ i, i ≠ k → G' i = G i) : P2 H G' k a w la lw := by
  have nk : ∀ i, H i = none → i ≠ k := fun i hi he => by rw [he] at hi; rw [hi] at hk; cases hk
  exact ⟨fun i hi hik => (hf i hik).trans (h.fr i hi hik), h.ma.keep fun i hi => hf i (nk i (h.aN i hi)), h.mw.keep fun i hi => hf i (nk i (h.wN i hi)), h.aN, h.wN, h.aw⟩
/-- In the midst of a step. -/
structure P3 (H G : AHeap) (k : Nat) (a w va : AV) (ask : List Nat) (A : List Bool) : Prop where
  two : P2 H G k a w ask ask
  mv : Mine G va (bls A)
  vN : ∀ i, idOf va = some i → H i = none
  av : ∀ i, idOf va = some i → idOf a ≠ some i ∧ idOf w ≠ some i
theorem P3.only (h : P3 H G k a w va ask A) (hk : (H k).isSome) {G' : AHeap} (hf : ∀ i, i ≠ k → G' i = G i) : P3 H G' k a w va ask A := by
  have nk : ∀ i, H i = none → i ≠ k := fun i hi he => by rw [he] at hi; rw [hi] at hk; cases hk
  exact ⟨h.two.only hk hf, h.mv.keep fun i hi => hf i (nk i (h.vN i hi)), h.vN, h.av⟩
theorem P3.mark (h : P3 H G k a w va ask A) {b : Nat} (hb : b < A.length) : ∃ i ver o, indexAddrA ti53 1 va (.d (.int .i64 (b : Int))) = some (.ptr i ver b 0) ∧ stoA false 1 (.ptr i ver b 0) (.d (.bool true)) G = some (.junk, [(i, o)]) ∧ P3 H (G.set i o) k a w va ask (A.set b true) ∧ H i = none := by
  obtain ⟨i, ver, o, h1, h2, h3, h4⟩ := bls_put (u := true) h.mv hb (ti := ti53) (e := 4) rfl
  have hn := h.vN i h1
  refine ⟨i, ver, o, h2, h3, ⟨⟨fun x hx hne => ?_, h.two.ma.keep fun x hx => set_ne fun he => ?_, h.two.mw.keep fun x hx => set_ne fun he => ?_, h.two.aN, h.two.wN, h.two.aw⟩, h4, h.vN, h.av⟩, hn⟩
  · rw [set_ne (fun he => by rw [he, hn] at hx; cases hx)]; exact h.two.fr x hx hne
  · subst he; exact (h.av x h1).1 hx
  · subst he; exact (h.av x h1).2 hx
def exP (sts : List Pt) (m x : Nat) : Bool := decide (∃ k, k < m ∧ pans sts k x = true)
theorem exP_s {m x : Nat} : exP sts (m + 1) x = (exP sts m x || pans sts m x) := by
  unfold exP
  cases hp : pans sts m x with
  | true =>
    rw [Bool.or_true, decide_eq_true_eq]
    exact ⟨m, by omega, hp⟩
  | false =>
    rw [Bool.or_false, decide_eq_decide]
    constructor
    · rintro ⟨k, h1, h2⟩
      by_cases hkm : k = m
      · subst hkm; rw [hp] at h2; cases h2
      · exact ⟨k, by omega, h2⟩
    · rintro ⟨k, h1, h2⟩
      exact ⟨k, by omega, h2⟩
theorem ask_ix {a : AV} {x : Nat} {j : Nat} (h : Mine G a (ints (nats ask))) (hj : ask[j]? = some x) : ∃ p, indexAddrA ti55 1 a (.d (.int .i64 (j : Int))) = some p ∧ ldV false 1 p G = some (.d (.int .i64 (x : Int))) :=
  gr_get h (ti := ti55) (e := 3) rfl (by simp [ints, nats, hj])
theorem bls_ix {x : Nat} (h : Mine G va (bls A)) (hx : x < A.length) : ∃ p, indexAddrA ti53 1 va (.d (.int .i64 (x : Int))) = some p ∧ ldV false 1 p G = some (.d (.bool (A.getD x false))) :=
  gr_get h (ti := ti53) (e := 4) rfl (by simp [bls, List.getD_eq_getElem?_getD, hx])
end
end Go.Proofs.Ytgnnkpgceahjdaa

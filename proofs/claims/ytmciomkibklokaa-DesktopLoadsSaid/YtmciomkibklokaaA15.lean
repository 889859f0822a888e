/- Calls, and whole regions that keep their order. -/
import Derived.Test.YtmciomkibklokaaA14
set_option autoImplicit false
set_option linter.unusedVariables false
set_option linter.unusedSimpArgs false
namespace Go.AM
open Go.RowKit Go.MapKept

variable {P : Program} {L L' : Lo} {w w' : World} {base : Nat} {H H' : AHeap}

theorem run_call {ρ : Operand → Value} {dst : Option Tmp} {f : Operand} {as : Array Operand} {ats : Array TypeId} {type : TypeId} {pos : String} {af : Array Edge} {gd : Option (Nat × Bool)} {g : FuncId} {a c : Array Value} (hf : ρ f = .func (.func g) a c)
    {fn : Func} (h1 : P.funcs[g]? = some fn) (h2 : fn.name ≠ "runtime.NumGoroutine") (h3 : fn.body.isSome = true) :
    (execOp ρ ⟨dst, .call ⟨.value f, as, ats⟩, type, pos, af, gd⟩).run P w = .ok (.enter g (a ++ as.map ρ ++ c)) w := by
  have hb : ¬ fn.body = none := by intro h; rw [h] at h3; cases h3
  simp [execOp, resolve, hf, Deferred.ofValue, invoke, callFunc, h1, h2, hb]
theorem callA_wp {γ : Calld} (hγ : SoundG P γ) {pol : Pol} (R : Rel base L H w) {N : Nat} {e : Env} {a : Act} (hv : VE N L e a) {o : Oper} {f : Operand} {as : Array Operand} (ho : isCall o.op = some (f, as)) {K : AV → AHeap → Prop} {Q : Exit → Act → World → Prop}
    (h : callA γ pol (ev e f) (as.toList.map (ev e)) H K) : o.wp P a w (OpPost base N o e L H w K a) Q := by
  have hρ : ∀ x, VR L (ev e x) (a.eval x) := hv.ev
  obtain ⟨dst, op, type, pos, after', guard⟩ := o
  cases op <;> simp only [isCall, reduceCtorEq] at ho
  rename_i c
  obtain ⟨callee, as', ats⟩ := c
  cases callee <;> simp only [reduceCtorEq, Option.some.injEq, Prod.mk.injEq] at ho
  have h1' := ho.1.symm
  have h2' := ho.2.symm
  subst h1' h2'
  have hf := hρ f
  unfold callA at h
  split at h
  · rename_i g first caps hfe
    rw [hfe] at hf
    simp only [VR] at hf
    obtain ⟨fa, fc, hfv, h1, h2⟩ := hf
    have hargs : VRL L (first ++ as.toList.map (ev e) ++ caps) (fa ++ as.map a.eval ++ fc).toList := by
      rw [Array.toList_append, Array.toList_append, Array.toList_map]
      exact (h1.app (VRL.map _ fun x _ => hρ x)).app h2
    have go : ∀ (L1 : Lo) (H1 : AHeap) (l : List AV), Nx base (fun _ => False) L H w L1 H1 w → VRL L1 l (fa ++ as.map a.eval ++ fc).toList → γ g l H1 K →
        (⟨dst, .call ⟨.value f, as, ats⟩, type, pos, after', guard⟩ : Oper).wp P a w (OpPost base N ⟨dst, .call ⟨.value f, as, ats⟩, type, pos, after', guard⟩ e L H w K a) Q := by
      intro L1 H1 l hn hl hg
      obtain ⟨⟨fn, k1, k2, k3⟩, k4⟩ := hγ _ _ _ _ hg
      unfold Oper.wp
      rw [run_call hfv k1 k2 k3]
      refine (k4 base L1 w _ hn.rel hl).mono fun x w' hx => ?_
      cases x with
      | returned v =>
        obtain ⟨av, L', H', g1, g2, g3⟩ := hx
        exact ⟨L', H', av, v, rfl, g1, (hn.imp (fr' := fun i => L.cnt ≤ i) fun i hi => hi.elim).trans g2 (fun i hi => Nat.le_trans hn.le.cnt hi), g3⟩
      | panicked c => exact hx.elim
      | outgrown => exact hx.elim
    unfold argsA at h
    split at h
    · obtain ⟨r, h3, h4⟩ := opt_some h
      obtain ⟨l', us⟩ := r
      obtain ⟨L1, g1, g2⟩ := frzAL_sound R hargs h3
      exact go L1 _ l' g2 g1 h4
    · exact go L H _ (Nx.refl R) hargs h
  · exact h.elim
theorem opX_wp {γ : Calld} (hγ : SoundG P γ) {pol : Pol} (R : Rel base L H w) {N : Nat} {e : Env} {a : Act} (hv : VE N L e a) {o : Oper} {K : AV → AHeap → Prop} {Q : Exit → Act → World → Prop} (h : opX P γ pol (ev e) o.op H K) :
    o.wp P a w (OpPost base N o e L H w K a) Q := by
  unfold opX at h
  split at h
  · rename_i f as hc
    exact callA_wp hγ R hv hc h
  · split at h
    · rename_i x isStr hop
      split at h
      · exact h.elim
      · rename_i hs
        have hs' : isStr = false := by simpa using hs
        subst hs'
        obtain ⟨r, w', av, H', h1, h2, h3, h4⟩ := nx_sound (P := P) (ty := o.type) R (hv.ev x) h
        unfold Oper.wp
        have : (execOp a.eval o).run P w = .ok (.value r) w' := by
          unfold execOp
          simp only [hop, Sem.run_bind, h1, Result.andThen_ok]
          rfl
        rw [this]
        exact ⟨L, H', av, r, rfl, h2, h3.imp fun i hi => hi.elim, h4⟩
    · exact genX_wp R hv h
theorem splitK_true {b : Bool} {v : AV} {K : AV → Prop} {L : Lo} {u : Value} (hv : VR L v u) (h : splitK b v K) : ∃ v', VR L v' u ∧ K v' := by
  unfold splitK at h
  split at h
  · unfold ifA at h
    split at h
    · exact ⟨_, hv, h⟩
    · exact ⟨_, hv, h⟩
    · exact h.elim
  · exact ⟨v, hv, h⟩
theorem guard_yields {N : Nat} {e : Env} {a : Act} (hv : VE N L e a) {ops : Array Oper} {j s : Nat} {b : Bool} (hs : guardSlot ops.toList j = some s) (he : e s = .d (.bool b)) (hN : ∀ o ∈ ops.toList, dstOk N o.dst = true) : yielded ops a.tmps j = some b := by
  unfold guardSlot at hs
  rw [Array.getElem?_toList] at hs
  unfold yielded
  rw [hs]
  have h0 := hv.val s
  rw [he] at h0
  simp only [VR, DR] at h0
  have hlt : s < a.tmps.size := by
    cases ho : ops[j]? with
    | none => simp [ho] at hs
    | some o =>
      rw [ho] at hs
      simp only [Option.bind_some] at hs
      have := hN o (by rw [← Array.getElem?_toList] at ho; exact List.mem_of_getElem? ho)
      rw [hs] at this
      exact Nat.lt_of_lt_of_le (by simpa [dstOk] using this) hv.size
  have h1 : a.tmps[s]? = some (.bool b) := by
    rw [Array.getElem?_eq_getElem hlt]
    rw [Array.getD_eq_getD_getElem?, Array.getElem?_eq_getElem hlt] at h0
    simpa using h0
  simp [h1]
theorem VR_undef : VR L (.tup []) undef := by simp only [VR]; exact ⟨#[], rfl, by simp [VRL]⟩
theorem guard_none {N : Nat} {e : Env} {a : Act} (hv : VE N L e a) {ops : Array Oper} {j s : Nat} (hs : guardSlot ops.toList j = some s) (he : e s = .tup []) : yielded ops a.tmps j = none := by
  unfold guardSlot at hs
  rw [Array.getElem?_toList] at hs
  unfold yielded
  rw [hs]
  have h0 := hv.val s
  rw [he] at h0
  simp only [VR] at h0
  obtain ⟨vs, h1, _⟩ := h0
  rw [Array.getD_eq_getD_getElem?] at h1
  simp only [Option.bind_some]
  cases ht : a.tmps[s]? with
  | none => rfl
  | some x =>
    rw [ht] at h1
    simp only [Option.getD_some] at h1
    rw [h1]
/-- The post-condition of code. -/
def Post (base N : Nat) (L : Lo) (H : AHeap) (w : World) (Q : Exit → Env → AHeap → Prop) : Exit → Act → World → Prop := fun x a' w' =>
  ∃ L' e' H', VE N L' e' a' ∧ Nx base (fun i => L.cnt ≤ i) L H w L' H' w' ∧ Q x e' H'
theorem Post.from {N : Nat} {Q : Exit → Env → AHeap → Prop} (h : Nx base (fun i => L.cnt ≤ i) L H w L' H' w') {x : Exit} {a : Act} {w2 : World} (k : Post base N L' H' w' Q x a w2) : Post base N L H w Q x a w2 := by
  obtain ⟨L2, e2, H2, h1, h2, h3⟩ := k
  exact ⟨L2, e2, H2, h1, h.trans h2 (fun i hi => Nat.le_trans h.le.cnt hi), h3⟩
theorem wpOps_mono' {ops : Array Oper} {Q Q' : Exit → Act → World → Prop} (hq : ∀ x a w, Q x a w → Q' x a w) : ∀ (l : List Nat) (a : Act) (w : World), wpOps P ops Q l a w → wpOps P ops Q' l a w := by
  intro l
  induction l with
  | nil => intro a w h; exact hq _ _ _ h
  | cons i l ih =>
    intro a w h
    simp only [wpOps] at h ⊢
    split
    · rename_i ho; rw [ho] at h; exact ih _ _ h
    · rename_i o ho
      rw [ho] at h
      simp only at h ⊢
      split
      · rename_i hw
        rw [if_pos hw] at h
        rcases h with h | ⟨h1, a0, w0, h2⟩
        · left
          unfold Oper.wp at *
          generalize (execOp a.eval o).run P w = r at *
          cases r with
          | ok n w' =>
            cases n <;> simp only [Oper.upon] at h ⊢ <;>
              first
                | exact ih _ _ h
                | exact Calls.mono h (fun e w'' he => by cases e <;> first | exact ih _ _ he | exact hq _ _ _ he | (obtain ⟨a1, w1, h1⟩ := he; exact ⟨a1, w1, hq _ _ _ h1⟩))
                | exact Rows.mono h (fun _ _ he => ih _ _ he)
          | halt x w' => cases x <;> simp only [Oper.upon] at h ⊢ <;> first | exact hq _ _ _ h | exact h
        · right; exact ⟨h1, a0, w0, hq _ _ _ h2⟩
      · rename_i hw
        rw [if_neg hw] at h
        exact ih _ _ h
theorem litPair_eq {all : List Oper} {i : Nat} {q : LitPair} (h : litPair all i = some q) : ∃ o o', all[i]? = some o ∧ all[i + 1]? = some o' ∧ o.op = .buildSlice q.t q.len q.parts ∧ o.dst = some q.d ∧ o.guard = none ∧ o'.op = .convert q.t q.t (.tmp q.d) ∧ o'.dst = some q.d2 ∧ o'.guard = none := by
  unfold litPair at h
  split at h
  · rename_i o o' e1 e2
    split at h
    · rename_i t len parts d t1 t2 d' d2 f1 f2 f3 f4 f5 f6
      split at h
      · rename_i hc
        obtain ⟨rfl, rfl, rfl, _, _⟩ := hc
        simp only [Option.some.injEq] at h
        subst h
        exact ⟨o, o', e1, e2, f1, f2, f3, f4, f5, f6⟩
      · cases h
    · cases h
  · cases h
theorem litA_sound (R : Rel base L H w) {N : Nat} {e : Env} {a : Act} (hv : VE N L e a) {q : LitPair} {ds : List (List Dat)} (h : litA P (ev e) q H = some ds) :
    ∃ r W1 W2 L', (Instr.buildSlice q.t q.len (q.parts.map fun (i, x) => (i, a.eval x))).run P w = .ok r W1 ∧ (convert q.t q.t r).run P W1 = .ok r W2 ∧ VR L' (.d (.sl false ds)) r ∧ Nx base (fun _ => False) L H w L' H W2 := by
  unfold litA at h
  split at h
  · rename_i e' ht
    split at h
    · rename_i hu
      split at h
      · rename_i ei he
        split at h
        · rename_i ds' hb
          simp only [Option.some.injEq] at h
          subst h
          exact bsc_sound ht hu he R (VRL.map (f := fun p => ev e p.2) (g := fun p => a.eval p.2) q.parts.toList fun p _ => hv.ev p.2) (parts_eq a.eval q.parts) hb
        · cases h
      · cases h
    · cases h
  · cases h
theorem opsX_wp {γ : Calld} (hγ : SoundG P γ) {pol : Pol} {ops : Array Oper} {N : Nat} (hN : ∀ o ∈ ops.toList, dstOk N o.dst = true) {Q : Exit → Env → AHeap → Prop} : ∀ (fuel i : Nat) (L : Lo) (H : AHeap) (w : World) (e : Env) (a : Act), i + fuel = ops.size → Rel base L H w → VE N L e a →
    opsX P γ pol ops.toList fuel i e H (Q .normal) → wpOps P ops (Post base N L H w Q) (List.range' i fuel) a w := by
  intro fuel
  induction fuel using Nat.strongRecOn with
  | _ fuel ih0 =>
  cases fuel with
  | zero => intro i L H w e a _ R hv h; exact ⟨L, e, H, hv, Nx.refl R, h⟩
  | succ fuel =>
    have ih := ih0 fuel (Nat.lt_succ_self _)
    intro i L H w e a hi R hv h
    have hlt : i < ops.size := by omega
    have ho : ops[i]? = some ops[i] := by simp [hlt]
    have hoN : dstOk N (ops[i]).dst = true := hN _ (by simp)
    rw [List.range'_succ]
    simp only [wpOps, ho]
    simp only [opsX, Array.getElem?_toList, ho] at h
    split at h
    · rename_i q hq
      cases fuel with
      | zero => exact h.elim
      | succ fuel' =>
        simp only at h
        have ih2 := ih0 fuel' (by omega)
        obtain ⟨ds, hds, h⟩ := opt_some h
        obtain ⟨o, o2, e1, e2, e3, e4, e5, e6, e7, e8⟩ := litPair_eq hq
        rw [Array.getElem?_toList, ho] at e1
        cases e1
        rw [Array.getElem?_toList] at e2
        have hoN2 : dstOk N o2.dst = true := hN _ (by rw [← Array.getElem?_toList] at e2; exact List.mem_of_getElem? e2)
        rw [e4] at hoN
        rw [e7] at hoN2
        have hdlt : q.d < a.tmps.size := Nat.lt_of_lt_of_le (by simpa [dstOk] using hoN) hv.size
        obtain ⟨r, W1, W2, L', k1, k2, k3, k4⟩ := litA_sound R hv hds
        rw [if_pos (by simp [Region.wanted, e5])]
        refine .inl ?_
        unfold Oper.wp
        have run1 : (execOp a.eval ops[i]).run P w = .ok (.value r) W1 := by
          unfold execOp
          simp only [e3, Sem.run_bind, k1, Result.andThen_ok]
          rfl
        rw [run1]
        rw [Oper.upon_value, List.range'_succ]
        simp only [wpOps, e2]
        rw [if_pos (by simp [Region.wanted, e8])]
        refine .inl ?_
        unfold Oper.wp
        have hev : (a.put (ops[i]).dst r).eval (.tmp q.d) = r := by
          rw [e4]
          simp [Act.put, Act.eval, hdlt]
        have run2 : (execOp (a.put (ops[i]).dst r).eval o2).run P W1 = .ok (.value r) W2 := by
          unfold execOp
          simp only [e6, hev, Sem.run_bind, k2, Result.andThen_ok]
          rfl
        rw [run2, Oper.upon_value, e4, e7]
        exact wpOps_mono' (fun x a2 w2 hp => Post.from (k4.imp fun i hi => hi.elim) hp) _ _ _ (ih2 (i + 2) L' H W2 _ _ (by omega) k4.rel (((hv.mono k4.le).put hoN (v := .junk) (by simp only [VR])).put hoN2 k3) h)
    -- an operation that is run
    have act : opX P γ pol (ev e) (ops[i]).op H (fun v H' => splitK (isG ops.toList i) v fun v => opsX P γ pol ops.toList fuel (i + 1) (upd e (ops[i]).dst v) H' (Q .normal)) →
        (ops[i]).wp P a w (wpOps P ops (Post base N L H w Q) (List.range' (i + 1) fuel)) (Post base N L H w Q) := by
      intro hx
      refine Oper.wp_mono (fun a' w' hp => ?_) (opX_wp hγ R hv hx)
      obtain ⟨L', H', av, u, rfl, h1, h2, h3⟩ := hp
      obtain ⟨v', h4, h5⟩ := splitK_true h1 h3
      exact wpOps_mono' (fun x a2 w2 hp => Post.from h2 hp) _ _ _ (ih (i + 1) L' H' w' _ _ (by omega) h2.rel ((hv.mono h2.le).put hoN h4) h5)
    split at h
    · rename_i hg
      rw [if_pos (by simp [Region.wanted, hg])]
      exact .inl (act h)
    · rename_i j want hg
      split at h
      · exact h.elim
      · rename_i s hs
        split at h
        · rename_i b hb
          have hy := guard_yields hv hs hb hN
          split at h
          · rename_i hbw
            rw [if_pos (by simp [Region.wanted, hg, hy, hbw])]
            exact .inl (act h)
          · rename_i hbw
            rw [if_neg (by simp [Region.wanted, hg, hy, hbw])]
            exact ih (i + 1) L H w _ _ (by omega) R (hv.put hoN VR_undef) h
        · rename_i hb
          have hy := guard_none hv hs hb
          rw [if_neg (by simp [Region.wanted, hg, hy])]
          exact ih (i + 1) L H w _ _ (by omega) R (hv.put hoN VR_undef) h
        · exact h.elim
end Go.AM

/- Code: what 'exec' tells, the machine does. (The regions that draw: a hypothesis here, 'DrawS'.) -/
import Derived.Test.YtmciomkibklokaaA15
import Derived.Scope
set_option autoImplicit false
set_option linter.unusedVariables false
set_option linter.unusedSimpArgs false
namespace Go.AM
open Go.RowKit Go.MapKept

variable {P : Program} {L L' : Lo} {w w' : World} {base : Nat} {H H' : AHeap}

def okCode (N : Nat) : Code → Bool
  | .region _ ops _ => ops.toList.all fun o => dstOk N o.dst
  | .seq a b => okCode N a && okCode N b
  | .cond _ a b => okCode N a && okCode N b
  | .block _ a => okCode N a
  | .loop a => okCode N a
  | .scope a => okCode N a
  | _ => true
def DrawS (P : Program) (γ : Calld) (pol : Pol) : Prop := ∀ (N id : Nat) (ops : Array Oper) (base : Nat) (Q : Exit → Env → AHeap → Prop) (L : Lo) (H : AHeap) (w : World) (e : Env) (a : Act), (∀ o ∈ ops.toList, dstOk N o.dst = true) → Rel base L H w → VE N L e a →
  regX P γ pol id ops true (Q .normal) e H → (Code.region id ops true).wp P (Post base N L H w Q) a w
theorem ofL_keep (keep : List Nat) (e : Env) (t : Nat) : ofL keep (keep.map e) t = e t ∨ ofL keep (keep.map e) t = .junk := by
  unfold ofL
  cases h : keep.idxOf? t with
  | none => exact .inr rfl
  | some n =>
    left
    have h1 : keep[n]? = some t := by
      unfold List.idxOf? at h
      rw [List.findIdx?_eq_some_iff_getElem] at h
      obtain ⟨hl, hb, _⟩ := h
      simp only [beq_iff_eq] at hb
      rw [List.getElem?_eq_getElem hl, hb]
    simp [List.getD_eq_getElem?_getD, h1]
theorem VE.ofL {N : Nat} {e : Env} {a : Act} (h : VE N L e a) (keep : List Nat) : VE N L (ofL keep (keep.map e)) a := by
  refine ⟨h.size, h.defers, fun t => ?_⟩
  rcases ofL_keep keep e t with h1 | h1
  · rw [h1]; exact h.val t
  · rw [h1]; simp [VR]
theorem ifA_bool {v : AV} {X Y : Prop} {u : Value} (hv : VR L v u) (h : ifA v X Y) : ∃ b, u = .bool b ∧ (if b then X else Y) := by
  unfold ifA at h
  split at h
  · simp only [VR, DR] at hv; exact ⟨true, hv, h⟩
  · simp only [VR, DR] at hv; exact ⟨false, hv, h⟩
  · exact h.elim
theorem fzC_sound {H1 : AHeap} (R : Rel base L H w) (h : FzC H H1) : ∃ L', Nx base (fun _ => False) L H w L' H1 w := by
  obtain ⟨k, e, off, v, v', us, ver, fro0, fro, esz, l, cs, h1, h2, h3, h4, h5, rfl⟩ := h
  obtain ⟨b, c, m⟩ := R.mem _ _ _ _ _ h2
  obtain ⟨cells, t, c1, c2, c3⟩ := m.cells
  obtain ⟨d1, d2⟩ := c3 e cs h4
  obtain ⟨u, u1, u2, u3, u4⟩ := d2 off v h5
  obtain ⟨L', g1, g2⟩ := frz_sound R u2 h1
  refine ⟨L', g2.trans (fr' := fun _ => False) ?_ (fun _ h => h)⟩
  have R' := g2.rel
  have back : ∀ i o b, ((H.sets us).set k (.mem ver fro esz (l.set e (cs.set off v')))) i = some o → blk L' i o = some b → ∃ o', H.sets us i = some o' ∧ blk L' i o' = some b := by
    intro i o b hi hb
    by_cases hk : i = k
    · subst hk
      simp only [AHeap.set, if_true, Option.some.injEq] at hi
      subst hi
      exact ⟨_, h3, hb⟩
    · simp only [AHeap.set, if_neg hk] at hi
      exact ⟨o, hi, hb⟩
  have nk : ∀ i o, (∀ ver fro sz l, o ≠ .mem ver fro sz l) → ((H.sets us).set k (.mem ver fro esz (l.set e (cs.set off v')))) i = some o → H.sets us i = some o := by
    intro i o hm hi
    by_cases hk : i = k
    · subst hk
      simp only [AHeap.set, if_true, Option.some.injEq] at hi
      exact absurd hi.symm (hm _ _ _ _)
    · simpa only [AHeap.set, if_neg hk] using hi
  refine ⟨.refl _, ⟨R'.imm, fun i ver2 fro2 sz2 l2 hi => ?_, fun i es cl hi => R'.map i es cl (nk _ _ (fun _ _ _ _ h => by cases h) hi), fun i m s se st hi => ?_, fun i hi => R'.iter0 i (nk _ _ (fun _ _ _ _ h => by cases h) hi), fun i j o o' b hi hj hbi hbj => ?_, R'.fm, R'.fo, R'.base⟩, .refl _ _, fun b hb => .inl ?_, fun i hi => .inl ?_, fun _ _ _ h => .inl h, fun _ _ h => .inl h, fun _ _ _ h => .inl h⟩
  · by_cases hk : i = k
    · subst hk
      simp only [AHeap.set, if_true, Option.some.injEq, AObj.mem.injEq] at hi
      obtain ⟨rfl, rfl, rfl, rfl⟩ := hi
      obtain ⟨b', c', m'⟩ := R'.mem _ _ _ _ _ h3
      have hl := m'.loc
      rw [g2.le.mem _ _ _ m.loc] at hl
      simp only [Option.some.injEq, Prod.mk.injEq, true_and] at hl
      obtain ⟨rfl, rfl⟩ := hl
      refine ⟨b, c, m'.loc.trans (by rw [List.length_set]), by rw [List.length_set]; exact m'.cap, m'.spot, m'.base, ?_, m'.free, m'.last, m'.orig⟩
      obtain ⟨cells', t', e1, e2, e3⟩ := m'.cells
      have hcc : cells' = cells := by rw [c1] at e1; simp at e1; exact e1.1.symm
      subst hcc
      refine ⟨cells', t', e1, e2, fun e2' es he => ?_⟩
      by_cases hee : e = e2'
      · subst hee
        rw [List.getElem?_set_self (List.getElem?_eq_some_iff.1 h4).1] at he
        cases he
        obtain ⟨f1, f2⟩ := e3 e cs h4
        refine ⟨by rw [List.length_set]; exact f1, fun j x hx => ?_⟩
        by_cases hj : off = j
        · subst hj
          rw [List.getElem?_set_self (List.getElem?_eq_some_iff.1 h5).1] at hx
          cases hx
          obtain ⟨u', p1, p2, p3, p4⟩ := f2 off v h5
          rw [u1] at p1
          cases p1
          exact ⟨u, u1, g1, p3, p4⟩
        · rw [List.getElem?_set_ne hj] at hx
          exact f2 j x hx
      · rw [List.getElem?_set_ne hee] at he
        exact e3 e2' es he
    · simp only [AHeap.set, if_neg hk] at hi
      exact R'.mem i _ _ _ _ hi
  · exact R'.iter i m s se st (nk _ _ (fun _ _ _ _ h => by cases h) hi)
  · obtain ⟨o1, a1, a2⟩ := back i o b hi hbi
    obtain ⟨o2, b1, b2⟩ := back j o' b hj hbj
    exact R'.dist i j o1 o2 b a1 b1 a2 b2
  · obtain ⟨i, o, a1, a2⟩ := hb
    obtain ⟨o', b1, b2⟩ := back i o b a1 a2
    exact ⟨i, o', b1, b2⟩
  · by_cases hk : i = k
    · subst hk; rw [h3]; rfl
    · simpa only [AHeap.set, if_neg hk] using hi
theorem fz_sound {H1 : AHeap} (h : Fz H H1) : ∀ {L : Lo}, Rel base L H w → ∃ L', Nx base (fun _ => False) L H w L' H1 w := by
  induction h with
  | refl H => intro L R; exact ⟨L, Nx.refl R⟩
  | step h1 _ ih =>
    intro L R
    obtain ⟨L1, g1⟩ := fzC_sound R h1
    obtain ⟨L2, g2⟩ := ih g1.rel
    exact ⟨L2, g1.trans g2 (fun _ h => h)⟩
theorem exec_sound {γ : Calld} (hγ : SoundG P γ) {pol : Pol} (hD : DrawS P γ pol) {N : Nat} : ∀ (c : Code) (Q : Exit → Env → AHeap → Prop) (L : Lo) (H : AHeap) (w : World) (e : Env) (a : Act), okCode N c = true → Rel base L H w → VE N L e a →
    exec P γ pol c Q e H → c.wp P (Post base N L H w Q) a w := by
  intro c
  induction c with
  | skip => intro Q L H w e a _ R hv h; exact wp_skip ⟨L, e, H, hv, Nx.refl R, h⟩
  | label l => intro Q L H w e a _ R hv h; exact wp_label ⟨L, e, H, hv, Nx.refl R, h⟩
  | exit id => intro Q L H w e a _ R hv h; exact wp_exit ⟨L, e, H, hv, Nx.refl R, h⟩
  | ret => intro Q L H w e a _ R hv h; exact wp_ret ⟨L, e, H, hv, Nx.refl R, h⟩
  | region id ops draw =>
    intro Q L H w e a hok R hv h
    have hN : ∀ o ∈ ops.toList, dstOk N o.dst = true := List.all_eq_true.1 hok
    simp only [exec] at h
    have main : ∀ (L : Lo) (H : AHeap), Rel base L H w → VE N L e a → regX P γ pol id ops draw (Q .normal) e H → (Code.region id ops draw).wp P (Post base N L H w Q) a w := by
      intro L H R hv h
      cases draw with
      | true => exact hD N id ops base Q L H w e a hN R hv h
      | false =>
        simp only [regX, Bool.false_eq_true, if_false] at h
        have := opsX_wp hγ hN ops.size 0 L H w e a (by omega) R hv h
        rw [← List.range_eq_range'] at this
        exact wp_region this
    unfold fzX at h
    split at h
    · obtain ⟨H1, h1, h2⟩ := h
      obtain ⟨L1, g1⟩ := fz_sound h1 R
      exact wp_mono (main L1 H1 g1.rel (hv.mono g1.le) h2) fun x a1 w1 hp => Post.from (g1.imp fun i hi => hi.elim) hp
    · exact main L H R hv h
  | seq c1 c2 ih1 ih2 =>
    intro Q L H w e a hok R hv h
    simp only [okCode, Bool.and_eq_true] at hok
    simp only [exec] at h
    split at h
    · rename_i live hlive
      have h := h _ fun vs H hx => hx
      refine wp_seq (wp_mono (ih1 _ L H w e a hok.1 R hv h) fun x a1 w1 hp => ?_)
      obtain ⟨L1, e1, H1, h1, h2, h3⟩ := hp
      cases x with
      | normal => exact wp_mono (ih2 Q L1 H1 w1 _ a1 hok.2 h2.rel (h1.ofL live) h3) fun x a2 w2 hp => Post.from h2 hp
      | exit id => exact ⟨L1, e1, H1, h1, h2, h3⟩
      | goto l => exact ⟨L1, e1, H1, h1, h2, h3⟩
      | ret => exact ⟨L1, e1, H1, h1, h2, h3⟩
      | panic ch => exact ⟨L1, e1, H1, h1, h2, h3⟩
      | outgrown => exact ⟨L1, e1, H1, h1, h2, h3⟩
    · refine wp_seq (wp_mono (ih1 _ L H w e a hok.1 R hv h) fun x a1 w1 hp => ?_)
      obtain ⟨L1, e1, H1, h1, h2, h3⟩ := hp
      cases x with
      | normal => exact wp_mono (ih2 Q L1 H1 w1 e1 a1 hok.2 h2.rel h1 h3) fun x a2 w2 hp => Post.from h2 hp
      | exit id => exact ⟨L1, e1, H1, h1, h2, h3⟩
      | goto l => exact ⟨L1, e1, H1, h1, h2, h3⟩
      | ret => exact ⟨L1, e1, H1, h1, h2, h3⟩
      | panic ch => exact ⟨L1, e1, H1, h1, h2, h3⟩
      | outgrown => exact ⟨L1, e1, H1, h1, h2, h3⟩
  | cond cnd c1 c2 ih1 ih2 =>
    intro Q L H w e a hok R hv h
    simp only [okCode, Bool.and_eq_true] at hok
    simp only [exec] at h
    obtain ⟨b, h1, h2⟩ := ifA_bool (hv.ev cnd) h
    cases b with
    | true => exact wp_cond_true h1 (ih1 Q L H w e a hok.1 R hv h2)
    | false => exact wp_cond_false h1 (ih2 Q L H w e a hok.2 R hv h2)
  | block id c ih =>
    intro Q L H w e a hok R hv h
    simp only [exec] at h
    refine wp_block (wp_mono (ih _ L H w e a hok R hv h) fun x a1 w1 hp => ?_)
    obtain ⟨L1, e1, H1, h1, h2, h3⟩ := hp
    cases x with
    | exit id' =>
      simp only [inBlk] at h3
      simp only [Exit.inBlock]
      split at h3
      · rename_i hid; rw [if_pos hid]; exact ⟨L1, e1, H1, h1, h2, h3⟩
      · rename_i hid; rw [if_neg hid]; exact ⟨L1, e1, H1, h1, h2, h3⟩
    | normal => exact ⟨L1, e1, H1, h1, h2, h3⟩
    | goto l => exact ⟨L1, e1, H1, h1, h2, h3⟩
    | ret => exact ⟨L1, e1, H1, h1, h2, h3⟩
    | panic ch => exact ⟨L1, e1, H1, h1, h2, h3⟩
    | outgrown => exact ⟨L1, e1, H1, h1, h2, h3⟩
  | scope c ih =>
    intro Q L H w e a hok R hv h
    simp only [exec] at h
    refine wp_scope_straight (wp_mono (ih _ L H w e a hok R hv h) fun x a1 w1 hp => ?_)
    obtain ⟨L1, e1, H1, h1, h2, h3⟩ := hp
    cases x with
    | goto l => exact h3.elim
    | exit id' => exact ⟨L1, e1, H1, h1, h2, h3⟩
    | normal => exact ⟨L1, e1, H1, h1, h2, h3⟩
    | ret => exact ⟨L1, e1, H1, h1, h2, h3⟩
    | panic ch => exact ⟨L1, e1, H1, h1, h2, h3⟩
    | outgrown => exact ⟨L1, e1, H1, h1, h2, h3⟩
  | loop c ih =>
    intro Q L H w e a hok R hv h
    simp only [exec, loopA] at h
    have key := h (fun vs H => ∀ (L : Lo) (a : Act) (w : World) (b : Frame) (k : List Item) (cs : List Frame), Rel base L H w → VE N L (AM.ofL pol.keep vs) a →
      ∃ x a' w', Post base N L H w Q x a' w' ∧ Arrives P (lone (b.at a (.code c :: .inLoop c :: k)) cs w) b k cs x a' w') ?_
    · intro b k cs
      obtain ⟨x, a', w', hq, harr⟩ := key L a w b k cs R (hv.ofL pol.keep)
      exact ⟨x, a', w', hq, .of_steps (.one step_loop) harr⟩
    · intro vs H hB L a w b k cs R hv
      obtain ⟨x, a1, w1, hq, harr⟩ := ih _ L H w _ a hok R hv hB b (.inLoop c :: k) cs
      obtain ⟨L1, e1, H1, h1, h2, h3⟩ := hq
      cases x with
      | normal =>
        obtain ⟨x2, a2, w2, hq2, harr2⟩ := h3 L1 a1 w1 b k cs h2.rel (h1.ofL pol.keep)
        exact ⟨x2, a2, w2, Post.from h2 hq2, .of_steps (Steps.trans harr (.one step_inLoop)) harr2⟩
      | exit id => exact ⟨_, a1, w1, ⟨L1, e1, H1, h1, h2, h3⟩, .pass (x := .inLoop c) rfl (fun _ _ => .inl (by simp)) harr⟩
      | goto l => exact ⟨_, a1, w1, ⟨L1, e1, H1, h1, h2, h3⟩, .pass (x := .inLoop c) rfl (fun _ _ => .inl (by simp)) harr⟩
      | ret => exact ⟨_, a1, w1, ⟨L1, e1, H1, h1, h2, h3⟩, .pass (x := .inLoop c) rfl (fun _ _ => .inl (by simp)) harr⟩
      | panic ch => exact ⟨_, a1, w1, ⟨L1, e1, H1, h1, h2, h3⟩, .pass (x := .inLoop c) rfl (fun _ _ => .inl (by simp)) harr⟩
      | outgrown => exact ⟨_, a1, w1, ⟨L1, e1, H1, h1, h2, h3⟩, .pass (x := .inLoop c) rfl (fun _ _ => .inl (by simp)) harr⟩
  | _ => intro Q L H w e a _ R hv h; simp only [exec] at h
/-! ### a function's results, and its calls -/
theorem resK_sound (R : Rel base L H w) {N : Nat} {e : Env} {a : Act} (hv : VE N L e a) : ∀ (rs : List ResultVar) {K : List AV → Prop}, resK P e H rs K →
    ∃ vs us, K vs ∧ VRL L vs us ∧ (rs.mapM fun (r : ResultVar) => match r with | .tmp t => (pure (a.tmps.getD t undef) : Sem Value) | .cell q t => do loadVar t (← asAddr (a.tmps.getD q undef))).run P w = .ok us w
  | [], K, h => ⟨[], [], h, by simp [VRL], by simp⟩
  | .tmp t :: rs, K, h => by
    simp only [resK] at h
    obtain ⟨vs, us, h1, h2, h3⟩ := resK_sound R hv rs h
    refine ⟨_, a.tmps.getD t undef :: us, h1, ?_, ?_⟩
    · simp only [VRL]; exact ⟨hv.val t, h2⟩
    · simp only [List.mapM_cons, Sem.run_bind, Sem.run_pure, Result.andThen_ok, h3]
  | .cell q t :: rs, K, h => by
    simp only [resK] at h
    split at h
    · rename_i i hi
      obtain ⟨v, h1, h2⟩ := opt_some h
      obtain ⟨vs, us, h3, h4, h5⟩ := resK_sound R hv rs h2
      obtain ⟨u, h6, h7⟩ := ldV_sound (P := P) R hi (hv.val q) h1
      refine ⟨_, u :: us, h3, by simp only [VRL]; exact ⟨h7, h4⟩, ?_⟩
      have hq : (do loadVar t (← asAddr (a.tmps.getD q undef)) : Sem Value).run P w = .ok u w := by
        generalize a.tmps.getD q undef = x at h6
        unfold Instr.loadAt Instr.sureAddr at h6
        cases x <;> simp at h6
        rename_i A
        cases A with
        | none => simp at h6
        | some A => simpa [asAddr] using h6
      simp only [List.mapM_cons, Sem.run_bind, Sem.run_pure, Result.andThen_ok] at hq ⊢
      rw [hq]
      simp only [Result.andThen_ok, h5]
    · exact h.elim
theorem one1_VR : ∀ {vs : List AV} {us : List Value}, VRL L vs us → VR L (one1 vs) (if h : us.toArray.size = 1 then us.toArray[0] else .tuple us.toArray)
  | [], [], hk => by simp [one1, VR, VRL]
  | [v], [u], hk => by simp only [VRL] at hk; simpa [one1] using hk.1
  | v :: v2 :: vs, u :: u2 :: us, hk => by
    simp only [one1, VR]
    exact ⟨(u :: u2 :: us).toArray, by simp, by simpa using hk⟩
  | [v], _ :: _ :: _, hk => by simp [VRL] at hk
  | _ :: _ :: _, [u], hk => by simp [VRL] at hk
  | [], _ :: _, hk => by simp [VRL] at hk
  | _ :: _, [], hk => by simp [VRL] at hk
theorem callsA_of {γ : Calld} (hγ : SoundG P γ) {pol : Pol} (hD : DrawS P γ pol) {f : FuncId} {fn : Func} {c : Code} (hf : P.funcs[f]? = some fn) (hn : fn.name ≠ "runtime.NumGoroutine") (hb : fn.body = some c) (hok : okCode fn.ntmps c = true)
    {as : List AV} {K : AV → AHeap → Prop} (h : execC P γ pol fn c as H K) : CallsA P f as H K := by
  refine ⟨⟨fn, hf, hn, by rw [hb]; rfl⟩, fun base L w args R hargs => calls_of_wp hf hb ?_⟩
  have hv : VE fn.ntmps L (argE as) { tmps := args ++ Array.replicate (fn.ntmps - args.size) undef, defers := [] } := by
    refine ⟨by simp; omega, rfl, fun t => ?_⟩
    unfold argE
    rw [List.getD_eq_getElem?_getD]
    cases ht : as[t]? with
    | none => simp [VR]
    | some x =>
      obtain ⟨v, h1, h2⟩ := hargs.get ht
      have hlt : t < args.size := by have := (List.getElem?_eq_some_iff.1 h1).1; simpa using this
      rw [Array.getElem?_toList] at h1
      simp only [Option.getD_some, Array.getD_eq_getD_getElem?]
      rw [Array.getElem?_append_left hlt, h1]
      exact h2
  refine wp_mono (exec_sound hγ hD c _ L H w _ _ hok R hv h) fun x a w1 hp => ?_
  obtain ⟨L1, e1, H1, h1, h2, h3⟩ := hp
  have fin : (resK P e1 H1 fn.results.toList fun vs => retK pol vs H1 K) → a.defers = [] ∧ ∃ v, (results fn a.tmps).run P w1 = .ok v w1 ∧ ∃ av L' H', VR L' av v ∧ Nx base (fun i => L.cnt ≤ i) L H w L' H' w1 ∧ K av H' := by
    intro hr
    obtain ⟨vs, us, k1, k2, k3⟩ := resK_sound h2.rel h1 _ hr
    refine ⟨h1.defers, (if h : us.toArray.size = 1 then us.toArray[0] else .tuple us.toArray), ?_, ?_⟩
    · unfold results
      rw [Array.mapM_eq_mapM_toList]
      simp only [Sem.run_bind, Sem.run_map]
      have k3' := k3
      revert k3'
      generalize hF : (fun (r : ResultVar) => match r with | .tmp t => (pure (a.tmps.getD t undef) : Sem Value) | .cell q t => do loadVar t (← asAddr (a.tmps.getD q undef))) = F
      intro k3'
      rw [k3']
      rfl
    · unfold retK at k1
      split at k1
      · unfold retZ frzLK at k1
        obtain ⟨r, g1, g2⟩ := opt_some k1
        obtain ⟨vs', us'⟩ := r
        obtain ⟨L2, g3, g4⟩ := frzAL_sound h2.rel k2 g1
        obtain ⟨H4, z1, H3, g5, g6⟩ := g2
        obtain ⟨L3, z2⟩ := fz_sound z1 g4.rel
        exact ⟨_, L3, H3, VR.mono z2.le _ _ (one1_VR g3), ((h2.trans g4 (fun i hi => hi.elim)).trans z2 (fun i hi => hi.elim)).weaken g5, g6⟩
      split at k1
      · unfold retF frzLK at k1
        obtain ⟨r, g1, g2⟩ := opt_some k1
        obtain ⟨vs', us'⟩ := r
        obtain ⟨L2, g3, g4⟩ := frzAL_sound h2.rel k2 g1
        obtain ⟨H3, g5, g6⟩ := g2
        exact ⟨_, L2, H3, one1_VR g3, (h2.trans g4 (fun i hi => hi.elim)).weaken g5, g6⟩
      · obtain ⟨H3, g5, g6⟩ := k1
        exact ⟨_, L1, H3, one1_VR k2, h2.weaken g5, g6⟩
  cases x with
  | normal => exact fin h3
  | ret => exact fin h3
  | exit id => exact h3.elim
  | goto l => exact h3.elim
  | panic ch => exact h3.elim
  | outgrown => exact h3.elim
end Go.AM

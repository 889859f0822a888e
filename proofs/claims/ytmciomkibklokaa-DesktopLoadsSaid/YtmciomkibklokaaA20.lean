/- Regions that draw their order: sound. -/
import Derived.Test.YtmciomkibklokaaA19
set_option autoImplicit false
set_option linter.unusedVariables false
set_option linter.unusedSimpArgs false
namespace Go.AM
open Go.RowKit Go.MapKept

variable {P : Program} {L L' : Lo} {w w' : World} {base : Nat} {H H' : AHeap} {γ : Calld} {e : Env}

theorem obA_iff : ∀ {ps : List (AV × AV)} {X : Prop}, obA ps X ↔ (∀ p ∈ ps, apart p.1 p.2) ∧ X
  | [], X => by simp [obA]
  | (a, b) :: ps, X => by simp [obA, obA_iff (ps := ps), and_assoc]
theorem splitK_self {b : Bool} {v : AV} {K : AV → Prop} (h : splitK b v K) : K v := by
  unfold splitK at h
  split at h
  · unfold ifA at h
    split at h
    · exact h
    · exact h
    · exact h.elim
  · exact h
theorem clash_mem {bf : List Nat} {j : Nat} {rd wr : List AV} : ∀ {log : List LogE} {l : LogE}, l ∈ log → waitsT bf j l.ix = false → (∀ p ∈ clash bf j rd wr log, apart p.1 p.2) → sepL wr (l.rd ++ l.wr) ∧ sepL l.wr rd
  | x :: log, l, hl, hw, h => by
    simp only [clash, List.mem_append] at h
    rcases List.mem_cons.1 hl with rfl | hl
    · rw [hw] at h
      simp only [Bool.false_eq_true, if_false, List.mem_append] at h
      have pr : ∀ {as bs : List AV} {a b : AV}, a ∈ as → b ∈ bs → (a, b) ∈ pairsA as bs := fun ha hb => List.mem_flatMap.2 ⟨_, ha, List.mem_map.2 ⟨_, hb, rfl⟩⟩
      exact ⟨fun a ha b hb => h (a, b) (.inl (.inl (pr ha hb))), fun a ha b hb => h (a, b) (.inl (.inr (pr ha hb)))⟩
    · exact clash_mem hl hw fun p hp => h p (.inr hp)
/-- What is told in one order, as a list of events. -/
theorem opsD_tr {all : List Oper} {bf : List Nat} (c : Nat) {K : Env → AHeap → Prop} : ∀ (perm : List Nat) (log : List LogE) (e : Env) (H : AHeap), perm.Nodup → (∀ j ∈ perm, H (c + j) = none) → opsD P γ all bf perm log e H K →
    ∃ tr : List Ev, tr.map Ev.ix = perm ∧ (∀ x ∈ tr, x.n = c + x.ix ∧ all[x.ix]? = some x.o) ∧ Tr P γ all tr e H K ∧
      (tr.Pairwise fun x y => waitsT bf y.ix x.ix = false → IndH x y) ∧ (∀ y ∈ tr, ∀ l ∈ log, waitsT bf y.ix l.ix = false → sepL y.wr (l.rd ++ l.wr) ∧ sepL l.wr y.rd)
  | [], log, e, H, _, _, h => ⟨[], rfl, by simp, h, by simp, by simp⟩
  | j :: js, log, e, H, hnd, hn, h => by
    have hnd' := List.nodup_cons.1 hnd
    simp only [opsD] at h
    split at h
    · exact h.elim
    · rename_i o ho
      -- an event that is done
      have act : guardIs all o e true → obA (clash bf j (readsA (ev e) o.op) (writesA (ev e) o.op) log) (opD P γ (ev e) o.op H fun v H' => splitK (isG all j) v fun v =>
          opsD P γ all bf js (⟨j, readsA (ev e) o.op, writesA (ev e) o.op ++ newOf o.op v⟩ :: log) (upd e o.dst v) H' K) →
          ∃ tr : List Ev, tr.map Ev.ix = j :: js ∧ (∀ x ∈ tr, x.n = c + x.ix ∧ all[x.ix]? = some x.o) ∧ Tr P γ all tr e H K ∧
            (tr.Pairwise fun x y => waitsT bf y.ix x.ix = false → IndH x y) ∧ (∀ y ∈ tr, ∀ l ∈ log, waitsT bf y.ix l.ix = false → sepL y.wr (l.rd ++ l.wr) ∧ sepL l.wr y.rd) := by
        intro hg hx
        obtain ⟨hcl, hx⟩ := obA_iff.1 hx
        have hop : ∃ v us, opC P γ (ev e) o.op H (c + j) v us ∧ splitK (isG all j) v (fun v => opsD P γ all bf js (⟨j, readsA (ev e) o.op, writesA (ev e) o.op ++ newOf o.op v⟩ :: log) (upd e o.dst v) (H.sets us) K) := by
          unfold opD at hx
          split at hx
          · rename_i f as hc
            unfold clN at hx
            split at hx
            · rename_i g first caps hf
              obtain ⟨h1, hx⟩ := noRsA_iff.1 hx
              obtain ⟨h1', h2⟩ := noRsAA_iff.1 hx
              obtain ⟨r, h3, v, h4, h5⟩ := opt_some h2
              obtain ⟨l, us⟩ := r
              refine ⟨v, us, ?_, h5⟩
              unfold opC
              rw [hc]
              exact ⟨g, first, caps, l, hf, h1, fun x hx => h1' _ (List.mem_map.2 ⟨x, hx, rfl⟩), h3, _, fun _ _ h => h, h4⟩
            · exact hx.elim
          · rename_i hc
            obtain ⟨h1, h2⟩ := noRsAA_iff.1 hx
            obtain ⟨v, us, h3, h4⟩ := genX_gen1 (hn j (by simp)) h2
            refine ⟨v, us, ?_, h4⟩
            unfold opC
            rw [hc]
            exact ⟨h1, fun _ => hn j (by simp), h3⟩
        obtain ⟨v, us, h1, h2⟩ := hop
        have h2 := splitK_self h2
        let x : Ev := ⟨j, o, false, c + j, v, us, readsA (ev e) o.op, writesA (ev e) o.op⟩
        have hcan : x.can P γ all e H := ⟨hg, by rw [if_neg (by simp [x])]; exact ⟨rfl, rfl, h1⟩⟩
        have hups := can_ups hcan
        obtain ⟨tr, k1, k2, k3, k4, k5⟩ := opsD_tr c js _ _ _ hnd'.2 (fun j' hj' => by
          have hne : j' ≠ j := fun he => hnd'.1 (he ▸ hj')
          rw [sets_out (us := us)]
          · exact hn j' (by simp [hj'])
          · intro o' ho'
            rcases hups _ _ ho' with ⟨_, h3⟩ | ⟨h3, _⟩
            · rw [hn j' (by simp [hj'])] at h3; cases h3
            · simp only [x] at h3; omega) h2
        refine ⟨x :: tr, by simp [x, k1], ?_, ⟨hcan, k3⟩, ?_, ?_⟩
        · intro y hy
          rcases List.mem_cons.1 hy with rfl | hy
          · exact ⟨rfl, ho⟩
          · exact k2 y hy
        · refine List.pairwise_cons.2 ⟨fun y hy hw => ?_, k4⟩
          have := k5 y hy _ (List.mem_cons_self ..) hw
          exact this
        · intro y hy l hl hw
          rcases List.mem_cons.1 hy with rfl | hy
          · exact clash_mem hl hw hcl
          · exact k5 y hy l (List.mem_cons_of_mem _ hl) hw
      split at h
      · rename_i hg
        exact act (by unfold guardIs; rw [hg]) h
      · rename_i g want hg
        split at h
        · exact h.elim
        · rename_i s hs
          split at h
          · rename_i b hb
            split at h
            · rename_i hbw
              exact act (by unfold guardIs; rw [hg]; exact ⟨s, hs, .inl ⟨b, hb, by simp [hbw]⟩⟩) h
            · rename_i hbw
              let x : Ev := ⟨j, o, true, c + j, .tup [], [], [], []⟩
              have hcan : x.can P γ all e H := ⟨by unfold guardIs; simp only [x, hg]; exact ⟨s, hs, .inl ⟨b, hb, by simp [hbw]⟩⟩, by rw [if_pos rfl]; exact ⟨rfl, rfl, rfl, rfl⟩⟩
              obtain ⟨tr, k1, k2, k3, k4, k5⟩ := opsD_tr c js _ _ _ hnd'.2 (fun j' hj' => hn j' (by simp [hj'])) h
              refine ⟨x :: tr, by simp [x, k1], ?_, ⟨hcan, k3⟩, ?_, ?_⟩
              · intro y hy
                rcases List.mem_cons.1 hy with rfl | hy
                · exact ⟨rfl, ho⟩
                · exact k2 y hy
              · refine List.pairwise_cons.2 ⟨fun y hy hw => ?_, k4⟩
                exact ⟨fun a _ b hb => by simp [x, Ev.wr'] at hb, fun a ha => by simp [x, Ev.wr'] at ha⟩
              · intro y hy l hl hw
                rcases List.mem_cons.1 hy with rfl | hy
                · exact ⟨fun a ha => by simp [x] at ha, fun a _ b hb => by simp [x] at hb⟩
                · exact k5 y hy l hl hw
          · rename_i hb
            let x : Ev := ⟨j, o, true, c + j, .tup [], [], [], []⟩
            have hcan : x.can P γ all e H := ⟨by unfold guardIs; simp only [x, hg]; exact ⟨s, hs, .inr ⟨hb, rfl⟩⟩, by rw [if_pos rfl]; exact ⟨rfl, rfl, rfl, rfl⟩⟩
            obtain ⟨tr, k1, k2, k3, k4, k5⟩ := opsD_tr c js _ _ _ hnd'.2 (fun j' hj' => hn j' (by simp [hj'])) h
            refine ⟨x :: tr, by simp [x, k1], ?_, ⟨hcan, k3⟩, ?_, ?_⟩
            · intro y hy
              rcases List.mem_cons.1 hy with rfl | hy
              · exact ⟨rfl, ho⟩
              · exact k2 y hy
            · refine List.pairwise_cons.2 ⟨fun y hy hw => ?_, k4⟩
              exact ⟨fun a _ b hb => by simp [x, Ev.wr'] at hb, fun a ha => by simp [x, Ev.wr'] at ha⟩
            · intro y hy l hl hw
              rcases List.mem_cons.1 hy with rfl | hy
              · exact ⟨fun a ha => by simp [x] at ha, fun a _ b hb => by simp [x] at hb⟩
              · exact k5 y hy l hl hw
          · exact h.elim

/-! ### the machine -/
theorem Fresh.dom {n : Nat} (R : Rel base L H w) (h : Fresh L n) : H n = none := by
  cases hn : H n with
  | none => rfl
  | some o =>
    obtain ⟨b, h1, _⟩ := (R.ok hn).blk
    cases o <;> simp only [blk, h.mem, h.obj, Option.map_none, reduceCtorEq] at h1
theorem Nx.frame {fr : Nat → Prop} {G : AHeap} (R : Rel base L G w) (hle : AHeap.le H G) (h : Nx base fr L H w L' H w') (hfr : ∀ i, fr i → L.cnt ≤ i) : Nx base fr L G w L' G w' := by
  have key : ∀ i o, G i = some o → H i = none → ObjOk base L' w' i o := by
    intro i o hi hn
    obtain ⟨b, h1, h2, h3⟩ := (R.ok hi).blk
    have hno : ¬ own L H b := by
      rintro ⟨j, o', hj, hb⟩
      have := R.dist _ _ _ _ _ hi (hle _ _ hj) h1 hb
      subst this
      rw [hn] at hj; cases hj
    refine (R.ok hi).keep h.le (fun b' hb' => ?_) fun v hv => ?_
    · rw [h1] at hb'
      cases hb'
      refine ⟨h.step.keep b h3 hno, fun k hk => ?_⟩
      cases hk' : L'.imm b k with
      | none => rfl
      | some u =>
        rcases h.im b k u hk' with h4 | h4 | h4
        · rw [hk] at h4; cases h4
        · exact absurd h4 hno
        · omega
    · cases hk : L'.mem i v with
      | none => rfl
      | some x =>
        rcases h.nm i v x hk with h4 | h4 | h4
        · rw [hv] at h4; cases h4
        · rw [hn] at h4; cases h4
        · have := hfr i h4; have := dom_lt R hi; omega
  have back : ∀ i o b, G i = some o → blk L' i o = some b → blk L i o = some b := by
    intro i o b hi hb
    obtain ⟨b1, h1, _⟩ := (R.ok hi).blk
    have := blk_mono h.le h1
    rw [hb] at this
    rw [h1, this]
  refine ⟨h.le, ?_, ?_, ?_, fun i hi => .inl hi, ?_, h.no, ?_⟩
  · refine .of_ok h.rel.imm (fun i o hi => ?_) (fun i j o o' b hi hj hbi hbj => R.dist _ _ _ _ _ hi hj (back _ _ _ hi hbi) (back _ _ _ hj hbj)) h.rel.fm h.rel.fo h.rel.base
    cases hn : H i with
    | none => exact key i o hi hn
    | some o' =>
      have := hle _ _ hn
      rw [hi] at this
      cases this
      exact h.rel.ok hn
  · exact ⟨h.step.size, h.step.os, h.step.tape, h.step.output, fun b hb ho => h.step.keep b hb fun h' => ho (h'.weaken hle)⟩
  · rintro b ⟨i, o, hi, hb⟩
    exact .inl ⟨i, o, hi, back _ _ _ hi hb⟩
  · intro i v x hx
    rcases h.nm i v x hx with h4 | h4 | h4
    · exact .inl h4
    · refine .inr (.inl ?_)
      cases hn : H i with
      | none => rw [hn] at h4; cases h4
      | some o => rw [hle _ _ hn]; rfl
    · exact .inr (.inr h4)
  · intro b o v hv
    rcases h.im b o v hv with h4 | h4 | h4
    · exact .inl h4
    · exact .inr (.inl (h4.weaken hle))
    · exact .inr (.inr h4)
/-- One operation of a region that draws. -/
theorem opC_wp (hγ : SoundG P γ) (R : Rel base L H w) {N : Nat} {a : Act} (hv : VE N L e a) {o : Oper} {n : Nat} {v : AV} {us : Ups} (hfr : Fresh L n) {Q : Exit → Act → World → Prop} {K : Act → World → Prop} (h : opC P γ (ev e) o.op H n v us)
    (hk : ∀ u w' L', VR L' v u → Nx base (fun i => i = n ∨ L.cnt ≤ i) L H w L' (H.sets us) w' → K (a.put o.dst u) w') : o.wp P a w K Q := by
  unfold opC at h
  split at h
  · rename_i f as hc
    obtain ⟨g, first, caps, l, hf, h1, h1', h2, H0, h4, h5⟩ := h
    have hρ : ∀ x, VR L (ev e x) (a.eval x) := hv.ev
    obtain ⟨dst, op, type, pos, after', guard⟩ := o
    cases op <;> simp only [isCall, reduceCtorEq] at hc
    rename_i c
    obtain ⟨callee, as', ats⟩ := c
    cases callee <;> simp only [reduceCtorEq, Option.some.injEq, Prod.mk.injEq] at hc
    have h1' := hc.1.symm
    have h2' := hc.2.symm
    subst h1' h2'
    have hfv := hρ f
    rw [hf] at hfv
    simp only [VR] at hfv
    obtain ⟨fa, fc, hfe, k1, k2⟩ := hfv
    have hargs : VRL L (first ++ as.toList.map (ev e) ++ caps) (fa ++ as.map a.eval ++ fc).toList := by
      rw [Array.toList_append, Array.toList_append, Array.toList_map]
      exact (k1.app (VRL.map _ fun x _ => hρ x)).app k2
    obtain ⟨L1, g1, g2⟩ := frzAL_sound R hargs h2
    obtain ⟨⟨fn, m1, m2, m3⟩, m4⟩ := hγ _ _ _ _ h5
    unfold Oper.wp
    rw [run_call hfe m1 m2 m3]
    refine (m4 base L1 w _ (g2.rel.weaken h4) g1).mono fun x w' hx => ?_
    cases x with
    | returned u =>
      obtain ⟨av, L', H', q1, q2, q3, q4⟩ := hx
      subst q3
      have q5 := (q2.weaken q4).frame g2.rel h4 (fun i hi => hi)
      exact hk u w' L' q1 ((g2.imp (fr' := fun i => i = n ∨ L.cnt ≤ i) fun i hi => hi.elim).trans q5 (fun i hi => .inr (Nat.le_trans g2.le.cnt hi)))
    | panicked c => exact hx.elim
    | outgrown => exact hx.elim
  · obtain ⟨h1, h2, h3⟩ := h
    exact gen1_wp R hv.ev (fun hm => ⟨hfr, h2 hm⟩) h3 fun u w' L' k1 k2 => hk u w' L' k1 (k2.imp fun i hi => .inl hi)
theorem guard_wanted {N : Nat} {a : Act} {ops : Array Oper} (hv : VE N L e a) (hN : ∀ o ∈ ops.toList, dstOk N o.dst = true) {o : Oper} {b : Bool} (h : guardIs ops.toList o e b) : Region.wanted o (yielded ops a.tmps) = b := by
  unfold guardIs at h
  unfold Region.wanted
  split at h
  · rename_i hg; rw [hg]; exact h.symm
  · rename_i g want hg
    obtain ⟨s, h1, h2⟩ := h
    rw [hg]
    rcases h2 with ⟨c, h2, h3⟩ | ⟨h2, rfl⟩
    · simp only [guard_yields hv h1 h2 hN, ← h3]
      cases c <;> cases want <;> rfl
    · simp only [guard_none hv h1 h2]
      rfl
theorem pairB_pairwise {f : Nat → Nat → Bool} : ∀ {l : List Nat}, pairB f l = true → l.Pairwise fun x y => f x y = true
  | [], _ => .nil
  | x :: l, h => by
    simp only [pairB, Bool.and_eq_true, List.all_eq_true] at h
    exact .cons h.1 (pairB_pairwise h.2)
structure DrawOk (all : List Oper) (bf perm : List Nat) : Prop where
  len : perm.length = all.length
  lt : ∀ j ∈ perm, j < all.length
  nodup : perm.Nodup
  edges : ∀ (j : Nat) (o : Oper), all[j]? = some o → ∀ x ∈ o.after.toList, Region.binds .any x = true → x.on < all.length
  waits : ∀ i x, i < all.length → x < all.length → waitsOk all bf i x = true
  pairs : perm.Pairwise fun j j' => waitsT bf j j' = false ∧ hasEdge all j j' = false
  self : ∀ i, i < all.length → hasEdge all i i = false
  slots : ∀ i j, i < all.length → j < all.length → i ≠ j → slotsOk all bf j i = true
theorem drawOk_spec {all : List Oper} {bf perm : List Nat} (h : drawOk all bf perm = true) : DrawOk all bf perm := by
  simp only [drawOk, Bool.and_eq_true, beq_iff_eq, decide_eq_true_eq, List.all_eq_true, List.mem_range] at h
  obtain ⟨⟨⟨⟨⟨⟨⟨⟨h1, h2⟩, h3⟩, h4⟩, h5⟩, h6⟩, h7⟩, h9⟩, h8⟩ := h
  refine ⟨h1, h2, h3, fun j o ho x hx hb => ?_, fun i x hi hx => h6 i hi x hx, ?_, fun i hi => by simpa using h9 i hi, fun i j hi hj hne => ?_⟩
  · have := h5 o (List.mem_of_getElem? ho) x hx
    simpa [hb] using this
  · refine (pairB_pairwise h7).imp fun hh => ?_
    simpa using hh
  · have := h8 i hi j hj
    simpa [hne] using this
theorem tr_wp (hγ : SoundG P γ) {ops : Array Oper} {N c : Nat} {bf perm : List Nat} (hd : DrawOk ops.toList bf perm) (hN : ∀ o ∈ ops.toList, dstOk N o.dst = true) {K : Env → AHeap → Prop} {Q : Exit → Act → World → Prop} (jl : Option Nat) :
    ∀ (fuel : Nat) (listed : Array Bool) (tr : List Ev) (L : Lo) (H : AHeap) (w : World) (e : Env) (a : Act),
      listed.size = ops.size → (∀ j, j < ops.size → (listed.getD j true = false ↔ j ∈ tr.map Ev.ix ∨ jl = some j)) → (∀ i x, i < ops.size → x < ops.size → jl ≠ some i → i ∉ tr.map Ev.ix → waitsT bf i x = true → x ∉ tr.map Ev.ix) →
      (∀ j, jl = some j → j < ops.size ∧ ∀ x ∈ tr, x.ix ≠ j ∧ waitsT bf j x.ix = true ∧ hasEdge ops.toList x.ix j = false) →
      (tr.map Ev.ix).Nodup → (∀ x ∈ tr, x.n = c + x.ix ∧ ops.toList[x.ix]? = some x.o) → (tr.Pairwise fun x y => waitsT bf y.ix x.ix = false → IndH x y) → (tr.Pairwise fun x y => waitsT bf x.ix y.ix = false ∧ hasEdge ops.toList x.ix y.ix = false) →
      tr.length + (if jl = none then 0 else 1) ≤ fuel → Rel base L H w → VE N L e a → (∀ x ∈ tr, Fresh L x.n) → Tr P γ ops.toList tr e H K →
      (∀ L' e' H' a' w', VE N L' e' a' → Nx base (fun i => (∃ x ∈ tr, i = x.n) ∨ L.cnt ≤ i) L H w L' H' w' → K e' H' → ∀ (fuel' : Nat) (listed' : Array Bool), listed'.size = ops.size → (∀ j, j < ops.size → (listed'.getD j true = false ↔ jl = some j)) → (if jl = none then 0 else 1) ≤ fuel' → wpAny P .any ops Q fuel' listed' a' w') →
      wpAny P .any ops Q fuel listed a w := by
  intro fuel
  induction fuel with
  | zero =>
    intro listed tr L H w e a hsz hl hcl hjl hnd hn hpw hpw2 hlen R hv hfr htr hQ
    have htr0 : tr = [] := by cases tr with | nil => rfl | cons x tr => simp at hlen
    subst htr0
    exact hQ L e H a w hv (Nx.refl R) htr 0 listed hsz (fun j hj => by simpa using hl j hj) (by simpa using hlen)
  | succ fuel ih =>
    intro listed tr L H w e a hsz hl hcl hjl hnd hn hpw hpw2 hlen R hv hfr htr hQ
    by_cases htr0 : tr = []
    · subst htr0
      exact hQ L e H a w hv (Nx.refl R) htr _ listed hsz (fun j hj => by simpa using hl j hj) (by simpa using hlen)
    refine ⟨fun hnil => ?_, fun i hi => ?_⟩
    · cases tr with
      | nil => exact absurd rfl htr0
      | cons x tr =>
        exfalso
        have hx := hn x (by simp)
        have hlt : x.ix < ops.size := by
          have := (List.getElem?_eq_some_iff.1 hx.2).1; simpa using this
        have : x.ix ∈ Region.ready .any ops listed := by
          refine mem_ready.2 ⟨(hl _ hlt).2 (.inl (by simp)), x.o, by rw [← Array.getElem?_toList]; exact hx.2, fun ed hed hb => ?_⟩
          have hon : ed.on < ops.size := by
            have := hd.edges _ _ hx.2 ed (by simpa using hed) hb; simpa using this
          cases hl' : listed.getD ed.on false with
          | true => rfl
          | false =>
            exfalso
            have hlf : listed.getD ed.on true = false := by
              rw [Array.getD_eq_getD_getElem?] at hl' ⊢
              rw [Array.getElem?_eq_getElem (by omega)] at hl' ⊢
              simpa using hl'
            have hm := (hl _ hon).1 hlf
            have hedge : hasEdge ops.toList x.ix ed.on = true := by
              unfold hasEdge
              rw [hx.2]
              simp only [List.any_eq_true, Bool.and_eq_true, beq_iff_eq]
              exact ⟨ed, by simpa using hed, hb, rfl⟩
            simp only [List.map_cons, List.mem_cons] at hm
            rcases hm with (hm | hm) | hm
            · rw [hm, hd.self x.ix (by simpa using hlt)] at hedge
              cases hedge
            · obtain ⟨y, hy, hy2⟩ := List.mem_map.1 hm
              have := (List.pairwise_cons.1 hpw2).1 y hy
              rw [hy2, hedge] at this
              exact absurd this.2 (by simp)
            · have := ((hjl _ hm).2 x (by simp)).2.2
              rw [hedge] at this
              cases this
        rw [hnil] at this
        cases this
    · obtain ⟨h0, o, ho, hall⟩ := mem_ready.1 hi
      have hlt : i < ops.size := (Array.getElem?_eq_some_iff.1 ho).1
      have lis : ∀ ed ∈ o.after.toList, Region.binds .any ed = true → ed.on < ops.size ∧ ed.on ∉ tr.map Ev.ix ∧ jl ≠ some ed.on := by
        intro ed hed hb
        have hli := hall ed (by simpa using hed) hb
        have hon : ed.on < ops.size := by have := hd.edges i _ (by rw [Array.getElem?_toList]; exact ho) ed hed hb; simpa using this
        have hnf : ¬ (ed.on ∈ tr.map Ev.ix ∨ jl = some ed.on) := by
          intro hm
          have := (hl _ hon).2 hm
          rw [Array.getD_eq_getD_getElem?, Array.getElem?_eq_getElem (by omega)] at this hli
          simp at this hli
          rw [this] at hli; cases hli
        exact ⟨hon, fun h => hnf (.inl h), fun h => hnf (.inr h)⟩
      have him : i ∈ tr.map Ev.ix := by
        rcases (hl i hlt).1 h0 with h | h
        · exact h
        · exfalso
          cases htr' : tr with
          | nil => exact htr0 htr'
          | cons x r =>
            have hxm : x ∈ tr := by rw [htr']; simp
            obtain ⟨q1, q2, _⟩ := (hjl _ h).2 x hxm
            have hxlt : x.ix < ops.size := by have := (List.getElem?_eq_some_iff.1 (hn x hxm).2).1; simpa using this
            have h1 := hd.waits i x.ix (by simpa using hlt) (by simpa using hxlt)
            unfold waitsOk at h1
            rw [q2, Array.getElem?_toList, ho] at h1
            simp only [Bool.not_true, Bool.false_or, List.any_eq_true, Bool.and_eq_true, Bool.or_eq_true, beq_iff_eq] at h1
            obtain ⟨ed, hed, hb, h1⟩ := h1
            obtain ⟨l1, l2, l3⟩ := lis ed hed hb
            rcases h1 with h1 | h1
            · exact l2 (h1 ▸ List.mem_map.2 ⟨x, hxm, rfl⟩)
            · exact hcl _ _ l1 hxlt l3 l2 h1 (List.mem_map.2 ⟨x, hxm, rfl⟩)
      obtain ⟨y, hy, hyi⟩ := List.mem_map.1 him
      obtain ⟨t1, t2, rfl⟩ := List.append_of_mem hy
      have hyo := (hn y hy).2
      rw [hyi, Array.getElem?_toList, ho] at hyo
      have hoy : o = y.o := by simpa using hyo
      subst hoy
      have hnd1 : ∀ x ∈ t1 ++ t2, x.ix ≠ y.ix := by
        intro x hx he
        rw [List.map_append, List.map_cons] at hnd
        rw [List.nodup_append] at hnd
        obtain ⟨q1, q2, q3⟩ := hnd
        rcases List.mem_append.1 hx with hx | hx
        · exact q3 x.ix (List.mem_map.2 ⟨x, hx, rfl⟩) y.ix (by simp) he
        · exact (List.nodup_cons.1 q2).1 (List.mem_map.2 ⟨x, hx, he⟩)
      have hind : ∀ x ∈ t1, IndS ops.toList x y ∧ IndH x y ∧ x.n ≠ y.n := by
        intro x hx
        have hxm : x ∈ t1 ++ y :: t2 := List.mem_append_left _ hx
        have hxn := hn x hxm
        have hyn := hn y hy
        have hne : x.ix ≠ y.ix := hnd1 x (List.mem_append_left _ hx)
        have hxlt : x.ix < ops.size := by have := (List.getElem?_eq_some_iff.1 hxn.2).1; simpa using this
        have hwyx : waitsT bf y.ix x.ix = false := by
          cases hw : waitsT bf y.ix x.ix with
          | false => rfl
          | true =>
            exfalso
            have h1 := hd.waits y.ix x.ix (by rw [hyi]; simpa using hlt) (by simpa using hxlt)
            unfold waitsOk at h1
            rw [hw, hyn.2] at h1
            simp only [Bool.not_true, Bool.false_or, List.any_eq_true, Bool.and_eq_true, Bool.or_eq_true, beq_iff_eq] at h1
            obtain ⟨ed, hed, hb, h1⟩ := h1
            obtain ⟨hon, hnot, hnj⟩ := lis ed hed hb
            rcases h1 with h1 | h1
            · exact hnot (h1 ▸ List.mem_map.2 ⟨x, hxm, rfl⟩)
            · exact hcl _ _ hon hxlt hnj hnot h1 (List.mem_map.2 ⟨x, hxm, rfl⟩)
        have pw1 := (List.pairwise_append.1 hpw).2.2 x hx y (by simp)
        have pw2 := (List.pairwise_append.1 hpw2).2.2 x hx y (by simp)
        refine ⟨?_, pw1 hwyx, by omega⟩
        have s1 := hd.slots y.ix x.ix (by rw [hyi]; simpa using hlt) (by simpa using hxlt) (Ne.symm hne)
        have s2 := hd.slots x.ix y.ix (by simpa using hxlt) (by rw [hyi]; simpa using hlt) hne
        unfold slotsOk at s1 s2
        rw [hxn.2, hyn.2] at s1 s2
        refine ⟨fun d hdst => ?_, fun d hdst => ?_⟩
        · dsimp only at s1
          rw [hdst] at s1
          simp only [hwyx, pw2.1, Bool.or_false, Bool.and_eq_true, decide_eq_true_eq, Bool.not_eq_true', List.contains_eq_mem, decide_eq_false_iff_not] at s1
          exact ⟨s1.2, s1.1⟩
        · dsimp only at s2
          rw [hdst] at s2
          simp only [hwyx, pw2.1, Bool.or_false, Bool.and_eq_true, decide_eq_true_eq, Bool.not_eq_true', List.contains_eq_mem, decide_eq_false_iff_not] at s2
          exact s2.2
      obtain ⟨hcan, hrest⟩ := Tr.front t1 htr hind
      have hyN : dstOk N y.o.dst = true := hN _ (List.mem_of_getElem? (hn y hy).2)
      have hyfr := hfr y hy
      -- what is left, behind it
      have next : ∀ L' u w', VR L' y.v u → Nx base (fun i => i = y.n ∨ L.cnt ≤ i) L H w L' (H.sets y.us) w' → wpAny P .any ops Q fuel (listed.setIfInBounds i true) (a.put y.o.dst u) w' := by
        intro L' u w' hu hx
        have hmem : ∀ x ∈ t1 ++ t2, x ∈ t1 ++ y :: t2 := fun x hx => by
          rcases List.mem_append.1 hx with h | h
          · exact List.mem_append_left _ h
          · exact List.mem_append_right _ (List.mem_cons_of_mem _ h)
        have hsub : (t1 ++ t2).Sublist (t1 ++ y :: t2) := List.Sublist.append (List.Sublist.refl _) (List.sublist_cons_self _ _)
        have hin : ∀ j, j ∈ (t1 ++ t2).map Ev.ix ↔ j ∈ (t1 ++ y :: t2).map Ev.ix ∧ j ≠ i := by
          intro j
          constructor
          · intro hj
            obtain ⟨x, hx, rfl⟩ := List.mem_map.1 hj
            exact ⟨List.mem_map.2 ⟨x, hmem x hx, rfl⟩, by rw [← hyi]; exact hnd1 x hx⟩
          · rintro ⟨hj, hne⟩
            obtain ⟨x, hx, rfl⟩ := List.mem_map.1 hj
            refine List.mem_map.2 ⟨x, ?_, rfl⟩
            rcases List.mem_append.1 hx with h | h
            · exact List.mem_append_left _ h
            · rcases List.mem_cons.1 h with rfl | h
              · exact absurd hyi hne
              · exact List.mem_append_right _ h
        refine ih _ (t1 ++ t2) L' _ w' (upd e y.o.dst y.v) _ (by simpa using hsz) ?_ ?_ (fun j hj => ⟨(hjl j hj).1, fun x hx => (hjl j hj).2 x (hmem x hx)⟩) ((hsub.map _).nodup hnd) (fun x hx => hn x (hmem x hx)) (hpw.sublist hsub) (hpw2.sublist hsub) ?_ hx.rel ((hv.mono hx.le).put hyN hu) ?_ hrest ?_
        · intro j hj
          have hl' := hl j hj
          rw [hin]
          by_cases hji : i = j
          · subst hji
            have hjn : jl ≠ some i := fun h => ((hjl _ h).2 y hy).1 hyi
            simp only [ne_eq, not_true_eq_false, and_false, false_or, hjn, iff_false, Bool.not_eq_false]
            rw [Array.getD_eq_getD_getElem?, Array.getElem?_setIfInBounds_self_of_lt (by omega)]
            rfl
          · rw [getD_set_ne true hji, hl']
            exact ⟨fun h => h.imp (fun h => ⟨h, Ne.symm hji⟩) id, fun h => h.imp (fun h => h.1) id⟩
        · intro i' x hi' hx' hnj hni hw
          rw [hin] at hni ⊢
          rintro ⟨h1, h2⟩
          by_cases hii : i' = i
          · subst hii
            -- the operation just done waits for nothing undone
            have h3 := hd.waits i' x (by simpa using hi') (by simpa using hx')
            unfold waitsOk at h3
            rw [hw, Array.getElem?_toList, ho] at h3
            simp only [Bool.not_true, Bool.false_or, List.any_eq_true, Bool.and_eq_true, Bool.or_eq_true, beq_iff_eq] at h3
            obtain ⟨ed, hed, hb, h3⟩ := h3
            obtain ⟨hon, hnot, hnj'⟩ := lis ed hed hb
            rcases h3 with h3 | h3
            · exact hnot (h3 ▸ h1)
            · exact hcl _ _ hon hx' hnj' hnot h3 h1
          · exact hcl i' x hi' hx' hnj (fun hm => hni ⟨hm, hii⟩) hw h1
        · simp only [List.length_append, List.length_cons] at hlen ⊢; omega
        · intro x hx'
          have hxf := hfr x (hmem x hx')
          have hne : x.n ≠ y.n := by
            have h1 := (hn x (hmem x hx')).1
            have h2 := (hn y hy).1
            have h3 := hnd1 x hx'
            omega
          refine ⟨fun v => ?_, ?_, Nat.lt_of_lt_of_le hxf.lt hx.le.cnt⟩
          · cases hm : L'.mem x.n v with
            | none => rfl
            | some z =>
              rcases hx.nm _ _ _ hm with h1 | h1 | h1 | h1
              · rw [hxf.mem] at h1; cases h1
              · rw [hxf.dom R] at h1; cases h1
              · exact absurd h1 hne
              · have := hxf.lt; omega
          · cases hm : L'.obj x.n with
            | none => rfl
            | some z =>
              rcases hx.no _ _ hm with h1 | h1 | h1
              · rw [hxf.obj] at h1; cases h1
              · exact absurd h1 hne
              · have := hxf.lt; omega
        · intro L2 e2 H2 a2 w2 q1 q2 q3
          refine hQ L2 e2 H2 a2 w2 q1 ((hx.imp (fr' := fun i => (∃ x ∈ t1 ++ y :: t2, i = x.n) ∨ L.cnt ≤ i) fun i hi => hi.imp (fun h => ⟨y, hy, h⟩) id).trans q2 fun i hi => ?_) q3
          rcases hi with ⟨x, hx', rfl⟩ | hi
          · exact .inl ⟨x, hmem x hx', rfl⟩
          · exact .inr (Nat.le_trans hx.le.cnt hi)
      unfold wpOp
      rw [ho]
      simp only
      have hwant := guard_wanted hv hN hcan.1
      rw [hwant]
      have h2 := hcan.2
      split at h2
      · rename_i hoff
        rw [hoff]
        simp only [Bool.not_true, Bool.false_eq_true, if_false]
        refine next L undef w ?_ ?_
        · rw [h2.1]; exact VR_undef
        · rw [h2.2.1]; exact Nx.refl R
      · rename_i hoff
        simp only [Bool.not_eq_true] at hoff
        rw [hoff]
        simp only [Bool.not_false, if_true]
        exact .inl (opC_wp hγ R hv hyfr h2.2.2 fun u w' L' k1 k2 => next L' u w' k1 k2)

theorem frzSlots_sound {N : Nat} {a : Act} {K : Env → AHeap → Prop} : ∀ (ss : List Nat) {L : Lo} {H : AHeap} {e : Env}, Rel base L H w → VE N L e a → frzSlots ss e H K →
    ∃ L' e' H', VE N L' e' a ∧ Nx base (fun _ => False) L H w L' H' w ∧ K e' H'
  | [], L, H, e, R, hv, h => ⟨L, e, H, hv, Nx.refl R, h⟩
  | s :: ss, L, H, e, R, hv, h => by
    simp only [frzSlots] at h
    obtain ⟨r, h1, h2⟩ := opt_some h
    obtain ⟨v', us⟩ := r
    obtain ⟨L1, g1, g2⟩ := frzA_sound R (hv.val s) h1
    have hv1 : VE N L1 (upd e (some s) v') a := ⟨hv.size, hv.defers, fun t => by
      simp only [upd]
      split
      · rename_i ht; rw [ht]; exact g1
      · exact VR.mono g2.le _ _ (hv.val t)⟩
    obtain ⟨L2, e2, H2, k1, k2, k3⟩ := frzSlots_sound ss g2.rel hv1 h2
    exact ⟨L2, e2, H2, k1, g2.trans k2 (fun _ h => h), k3⟩
theorem nodup_le : ∀ (n : Nat) (l : List Nat), l.Nodup → (∀ x ∈ l, x < n) → l.length ≤ n
  | 0, [], _, _ => Nat.le_refl _
  | 0, x :: l, _, h => absurd (h x (by simp)) (by omega)
  | n + 1, l, hn, h => by
    have h1 := nodup_le n (l.erase n) (hn.erase n) fun x hx => by
      rw [hn.mem_erase_iff] at hx
      have := h x hx.2
      have := hx.1
      omega
    rw [List.length_erase] at h1
    split at h1 <;> omega
theorem nodup_all {n : Nat} {l : List Nat} (hn : l.Nodup) (h : ∀ x ∈ l, x < n) (hl : l.length = n) {j : Nat} (hj : j < n) : j ∈ l := by
  cases Classical.em (j ∈ l) with
  | inl h => exact h
  | inr hni =>
    have := nodup_le n (j :: l) (List.nodup_cons.2 ⟨hni, hn⟩) fun x hx => by
      rcases List.mem_cons.1 hx with rfl | hx
      · exact hj
      · exact h x hx
    simp at this
    omega
end Go.AM

/- Regions that keep their order: what they tell, the machine does. -/
import Derived.Test.YtmciomkibklokaaA13
set_option autoImplicit false
set_option linter.unusedVariables false
set_option linter.unusedSimpArgs false
namespace Go.AM
open Go.RowKit Go.MapKept

variable {P : Program} {L L' : Lo} {w w' : World} {base : Nat} {H H' : AHeap}

/-- The slots. -/
structure VE (N : Nat) (L : Lo) (e : Env) (a : Act) : Prop where
  size : N ≤ a.tmps.size
  defers : a.defers = []
  val : ∀ t, VR L (e t) (a.tmps.getD t undef)
theorem VE.mono {N : Nat} {e : Env} {a : Act} (h : VE N L e a) (hl : L.le L') : VE N L' e a := ⟨h.size, h.defers, fun t => VR.mono hl _ _ (h.val t)⟩
theorem VE.ev {N : Nat} {e : Env} {a : Act} (h : VE N L e a) (x : Operand) : VR L (ev e x) (a.eval x) := by
  cases x with
  | tmp t => exact h.val t
  | const v => exact cvtC_VR L v
  | global g => simp [AM.ev, VR]
  | func f => simp only [AM.ev, VR, Act.eval]; exact ⟨#[], #[], rfl, by simp [VRL], by simp [VRL]⟩
def dstOk (N : Nat) (d : Option Nat) : Bool := match d with | some d => decide (d < N) | none => true
theorem VE.put {N : Nat} {e : Env} {a : Act} (h : VE N L e a) {d : Option Nat} (hd : dstOk N d = true) {v : AV} {u : Value} (hv : VR L v u) : VE N L (upd e d v) (a.put d u) := by
  cases d with
  | none => exact ⟨h.size, h.defers, h.val⟩
  | some d =>
    have hlt : d < a.tmps.size := Nat.lt_of_lt_of_le (by simpa [dstOk] using hd) h.size
    refine ⟨by simp [Act.put]; exact h.size, h.defers, fun t => ?_⟩
    simp only [upd, Act.put]
    by_cases ht : t = d
    · subst ht
      rw [if_pos rfl]
      simpa [hlt] using hv
    · rw [if_neg ht]
      have := h.val t
      simp only [Array.getD_eq_getD_getElem?] at this ⊢
      rw [Array.getElem?_setIfInBounds_ne (Ne.symm ht)]
      exact this
/-- What a call of a function does, told of all worlds. -/
def CallsA (P : Program) : Calld := fun f as H K =>
  (∃ fn, P.funcs[f]? = some fn ∧ fn.name ≠ "runtime.NumGoroutine" ∧ fn.body.isSome = true) ∧
  ∀ (base : Nat) (L : Lo) (w : World) (args : Array Value), Rel base L H w → VRL L as args.toList →
    Calls P f args w fun x w' => match x with
      | .returned v => ∃ av L' H', VR L' av v ∧ Nx base (fun i => L.cnt ≤ i) L H w L' H' w' ∧ K av H'
      | _ => False
theorem CallsA.mono {f : FuncId} {as : List AV} {K K' : AV → AHeap → Prop} (h : CallsA P f as H K) (hk : ∀ v H', K v H' → K' v H') : CallsA P f as H K' :=
  ⟨h.1, fun base L w args R hv => (h.2 base L w args R hv).mono fun x w' hx => by
    cases x with
    | returned v => obtain ⟨av, L', H', h1, h2, h3⟩ := hx; exact ⟨av, L', H', h1, h2, hk _ _ h3⟩
    | panicked c => exact hx
    | outgrown => exact hx⟩
/-- The environment of calls that is told of. -/
def SoundG (P : Program) (γ : Calld) : Prop := ∀ f as H K, γ f as H K → CallsA P f as H K
/-- The post-condition of one operation. -/
def OpPost (base : Nat) (N : Nat) (o : Oper) (e : Env) (L : Lo) (H : AHeap) (w : World) (K : AV → AHeap → Prop) (a : Act) (a' : Act) (w' : World) : Prop :=
  ∃ L' H' av u, a' = a.put o.dst u ∧ VR L' av u ∧ Nx base (fun i => L.cnt ≤ i) L H w L' H' w' ∧ K av H'
def Lo.bump (L : Lo) (k : Nat) : Lo := { L with cnt := L.cnt + k }
theorem Lo.le_bump (L : Lo) (k : Nat) : L.le (L.bump k) := ⟨fun _ _ _ h => h, fun _ _ h => h, fun _ _ _ h => h, by simp [Lo.bump]⟩
theorem dom_lt (R : Rel base L H w) {i : Nat} {o : AObj} (h : H i = some o) : i < L.cnt := by
  obtain ⟨b, h1, _, _⟩ := (R.ok h).blk
  cases o with
  | mem ver fro sz l =>
    simp only [blk, Option.map_eq_some_iff] at h1
    obtain ⟨x, h1, _⟩ := h1
    exact R.fm _ _ _ h1
  | map es cl => exact R.fo _ _ h1
  | iter m s se st => exact R.fo _ _ h1
  | iter0 => exact R.fo _ _ h1
theorem Rel.bump (R : Rel base L H w) (k : Nat) : Rel base (L.bump k) H w := by
  have hl := L.le_bump k
  exact .of_ok R.imm (fun i o h => (R.ok h).keep hl (fun b _ => ⟨rfl, fun q hq => hq⟩) fun v hv => hv) (fun i j o o' b hi hj hbi hbj => by
      obtain ⟨b1, e1, _⟩ := (R.ok hi).blk
      obtain ⟨b2, e2, _⟩ := (R.ok hj).blk
      have f1 := blk_mono hl e1
      have f2 := blk_mono hl e2
      rw [f1] at hbi; rw [f2] at hbj
      cases hbi; cases hbj
      exact R.dist _ _ _ _ _ hi hj e1 e2)
    (fun i v x h => Nat.lt_of_lt_of_le (R.fm i v x h) (by simp [Lo.bump])) (fun i x h => Nat.lt_of_lt_of_le (R.fo i x h) (by simp [Lo.bump])) R.base
theorem blk_bump (k i : Nat) (o : AObj) : blk (L.bump k) i o = blk L i o := by cases o <;> rfl
theorem own_bump (k b : Nat) : own (L.bump k) H b = own L H b := by
  unfold own
  simp only [blk_bump]
theorem Nx.bump {fr : Nat → Prop} (R : Rel base L H w) (k : Nat) : Nx base fr L H w (L.bump k) H w :=
  ⟨L.le_bump k, R.bump k, .refl _ _, fun b h => .inl (by rw [own_bump] at h; exact h), fun _ h => .inl h, fun _ _ _ h => .inl h, fun _ _ h => .inl h, fun _ _ _ h => .inl h⟩
theorem fresh_bump (R : Rel base L H w) : Fresh (L.bump 1) L.cnt := by
  refine ⟨fun v => ?_, ?_, by simp [Lo.bump]⟩
  · cases h : L.mem L.cnt v with
    | none => exact h
    | some x => have := R.fm _ _ _ h; omega
  · cases h : L.obj L.cnt with
    | none => exact h
    | some x => have := R.fo _ _ h; omega
theorem fresh_dom (R : Rel base L H w) : H L.cnt = none := by
  cases h : H L.cnt with
  | none => rfl
  | some o => have := dom_lt R h; omega
theorem gives_wp {o : Oper} {a : Act} {av : AV} {fr : Nat → Prop} {K : Act → World → Prop} {Q : Exit → Act → World → Prop} (h : Gives base P fr (execOp a.eval o) L H w av H')
    (hk : ∀ u w' L', VR L' av u → Nx base fr L H w L' H' w' → K (a.put o.dst u) w') : o.wp P a w K Q := by
  obtain ⟨nx, u, w', L', h1, h2, h3, h4⟩ := h
  unfold Oper.wp
  rw [h1]
  rcases h2 with rfl | ⟨rfl, rfl⟩
  · exact hk u w' L' h3 h4
  · exact hk _ w' L' h3 h4
theorem opt_some {α : Type} {x : Option α} {K : α → Prop} (h : optA x K) : ∃ v, x = some v ∧ K v := by
  cases x with
  | none => exact h.elim
  | some v => exact ⟨v, rfl, h⟩
theorem pure_makes {op : Op} (h : pureOp P op = true) : makes op = false := by
  cases op <;> simp [pureOp, makes] at h ⊢
  rename_i c
  split at h <;> simp_all
theorem genX_wp (R : Rel base L H w) {N : Nat} {e : Env} {a : Act} (hv : VE N L e a) {o : Oper} {K : AV → AHeap → Prop} {Q : Exit → Act → World → Prop} (h : genX P (ev e) o.op H K) : o.wp P a w (OpPost base N o e L H w K a) Q := by
  have hρ : ∀ x, VR L (ev e x) (a.eval x) := hv.ev
  have val : ∀ (x : AV) (u : Value), VR L x u → (execOp a.eval o).run P w = .ok (.value u) w → K x H → o.wp P a w (OpPost base N o e L H w K a) Q := by
    intro x u h1 h2 h3
    unfold Oper.wp
    rw [h2]
    exact ⟨L, H, x, u, rfl, h1, Nx.refl R, h3⟩
  have rest : (if pureOp P o.op then optA (evalN P (ev e) H o.op) fun v => K v H else if makes o.op then newK H (fun n => stepA P (ev e) o.op H n) K else stepK (stepA P (ev e) o.op H 0) H K) → o.wp P a w (OpPost base N o e L H w K a) Q := by
    intro h
    split at h
    · obtain ⟨v, h1, h2⟩ := opt_some h
      obtain ⟨r, h3, h4⟩ := evalN_sound R hρ h1
      exact val v r h4 h3 h2
    · split at h
      · rename_i hm
        have h' := h L.cnt (fresh_dom R)
        obtain ⟨r, h1, h2⟩ := opt_some h'
        obtain ⟨av, us⟩ := r
        have hl := L.le_bump 1
        have g := stepA_new (R.bump 1) (fun x => VR.mono hl _ _ (hρ x)) (fresh_bump R) (fresh_dom R) hm h1
        refine gives_wp g fun u w' L' k1 k2 => ⟨L', _, av, u, rfl, k1, (Nx.bump R 1).trans (k2.imp (fr' := fun i => L.cnt ≤ i) fun i hi => by simp only [hi]; exact Nat.le_refl _) (fun _ h => h), h2⟩
      · rename_i hm
        obtain ⟨r, h1, h2⟩ := opt_some h
        obtain ⟨av, us⟩ := r
        have g := stepA_old R hρ (by simpa using hm) h1
        exact gives_wp g fun u w' L' k1 k2 => ⟨L', _, av, u, rfl, k1, k2.imp fun i hi => hi.elim, h2⟩
  obtain ⟨dst, op, type, pos, after', guard⟩ := o
  cases op <;> simp only [genX] at h
  case move x => exact val _ _ (hρ x) rfl h
  case assign x => exact val _ _ (hρ x) rfl h
  case pick c x y =>
    have hc := hρ c
    unfold ifA at h
    split at h
    · rename_i e1
      rw [e1] at hc
      simp only [VR, DR] at hc
      exact val _ _ (hρ x) (by simp [execOp, hc, asBool]) h
    · rename_i e1
      rw [e1] at hc
      simp only [VR, DR] at hc
      exact val _ _ (hρ y) (by simp [execOp, hc, asBool]) h
    · exact h.elim
  case makeFunc fn first captured =>
    cases fn with
    | func f =>
      simp only at h
      refine val _ _ ?_ rfl h
      simp only [VR]
      exact ⟨first.map a.eval, captured.map a.eval, rfl, by rw [Array.toList_map]; exact VRL.map _ fun x _ => hρ x, by rw [Array.toList_map]; exact VRL.map _ fun x _ => hρ x⟩
    | _ => simp only [pureOp, makes, stepA, evalN, noUps, stepK, optA, Bool.false_eq_true, if_false] at h
  all_goals exact rest (by simpa only [] using h)
end Go.AM

/- The operations that leave the heap alone: what the abstract one tells, the machine's does. -/
import Derived.Test.YtmciomkibklokaaA2
import Derived.MapKept
import Derived.Laws.Small
import Derived.Laws.StructEq
import Derived.ChangeKeysEq
import Derived.WalkSpells
import Derived.Laws.Cover3
import Derived.Laws.Pointers
set_option autoImplicit false
set_option linter.unusedVariables false
set_option linter.unusedSimpArgs false
namespace Go.AM
open Go.RowKit

variable {P : Program} {L : Lo} {w : World}

theorem cvt_VR (L : Lo) : ∀ v : Value, VR L (cvt v) v := by
  intro v
  unfold cvt
  split <;> simp [VR, DR]
theorem cvtC_VR (L : Lo) : ∀ v : Value, VR L (cvtC v) v := by
  intro v
  unfold cvtC
  split
  · rename_i cs
    split
    · rename_i h
      simp only [VR]
      refine ⟨cs, rfl, CRL.of (by simp) fun i x v hx hv => ?_⟩
      simp only [List.getElem?_map, hv, Option.map_some, Option.some.injEq] at hx
      subst hx
      exact ⟨cvt_VR L v, by have := List.all_eq_true.1 h v (List.mem_of_getElem? hv); simpa [one] using this⟩
    · simp [VR]
  · rename_i vs
    simp only [VR]
    refine ⟨vs, rfl, ?_⟩
    have := VRL.map (L := L) (f := cvt) (g := id) vs.toList (fun x _ => cvt_VR L x)
    simpa using this
  · exact cvt_VR L _

structure TIs (P : Program) (t : TypeId) (i : TI) (info : TypeInfo) (d : TypeDesc) (z : Value) : Prop where
  hinfo : P.info? t = some info
  und : P.underlying t = some d
  hzero : info.zero = some z
  hone : ∀ v ∈ z.cells.toList, one v
  hagg : aggOk (isAggD d) z = true
  hfs : fieldsOk P d = true
  hzs : z.cells.size = info.size
  eq : i = { agg := isAggD d, size := info.size, bytes := info.bytes, zero := z.cells.toList.map cvt, k := tkOf d }
theorem tiOf_some {t : TypeId} {i : TI} (h : tiOf P t = some i) : ∃ info d z, TIs P t i info d z := by
  unfold tiOf at h
  split at h
  · rename_i info d h1 h2
    split at h
    · rename_i z hz
      split at h
      · rename_i ha
        simp only [Bool.and_eq_true, beq_iff_eq] at ha
        obtain ⟨⟨⟨ha1, ha2⟩, ha3⟩, ha4⟩ := ha
        exact ⟨info, d, z, h1, h2, hz, (fun v hv => by have := List.all_eq_true.1 ha1 v hv; simpa [one] using this), ha2, ha3, ha4, by simpa using h.symm⟩
      · cases h
    · cases h
  · cases h
theorem TIs.size {t : TypeId} {i : TI} {info : TypeInfo} {d : TypeDesc} {z : Value} (h : TIs P t i info d z) : (sizeOf t).run P w = .ok i.size w := by
  simp [sizeOf, typeInfo, h.hinfo, h.eq]
theorem TIs.cellsOf {t : TypeId} {i : TI} {info : TypeInfo} {d : TypeDesc} {z : Value} (h : TIs P t i info d z) : P.cellsOf t = i.size := by
  simp [Program.cellsOf, h.hinfo, h.eq]
theorem TIs.isAgg {t : TypeId} {i : TI} {info : TypeInfo} {d : TypeDesc} {z : Value} (h : TIs P t i info d z) : (isAgg t).run P w = .ok i.agg w := by
  simp only [Go.isAgg, underlying, h.eq]
  simp [h.und]
  cases d <;> rfl
theorem TIs.run_und {t : TypeId} {i : TI} {info : TypeInfo} {d : TypeDesc} {z : Value} (h : TIs P t i info d z) : (underlying t).run P w = .ok d w := by
  simp [underlying, h.und]
theorem TIs.run_info {t : TypeId} {i : TI} {info : TypeInfo} {d : TypeDesc} {z : Value} (h : TIs P t i info d z) : (typeInfo t).run P w = .ok info w := by
  simp [typeInfo, h.hinfo]
theorem TIs.run_zero {t : TypeId} {i : TI} {info : TypeInfo} {d : TypeDesc} {z : Value} (h : TIs P t i info d z) : (zeroValue t).run P w = .ok z w := by
  simp [zeroValue, typeInfo, h.hinfo, h.hzero]
theorem TIs.zeros {t : TypeId} {i : TI} {info : TypeInfo} {d : TypeDesc} {z : Value} (h : TIs P t i info d z) : CRL L i.zero z.cells.toList := by
  rw [h.eq]
  refine CRL.of (by simp) fun j x v hx hv => ?_
  simp only [List.getElem?_map, hv, Option.map_some, Option.some.injEq] at hx
  subst hx
  exact ⟨cvt_VR L v, h.hone v (List.mem_of_getElem? hv)⟩

theorem add_plain (b o j : Nat) : (⟨b, o, none⟩ : Addr).add j = ⟨b, o + j, none⟩ := by unfold Addr.add; split <;> simp_all
/-- Cells that can be read, one by one. -/
def Cl (L : Lo) (w : World) (b o : Nat) (cs : List AV) : Prop := ∀ j x, cs[j]? = some x → ∃ v, w.cell? ⟨b, o + j, none⟩ = some v ∧ VR L x v ∧ one v
theorem Cl.drop {b o : Nat} {cs : List AV} (h : Cl L w b o cs) (n : Nat) : Cl L w b (o + n) (cs.drop n) := fun j x hx => by
  rw [List.getElem?_drop] at hx
  have := h (n + j) x hx
  rwa [← Nat.add_assoc] at this
theorem Cl.take {b o : Nat} {cs : List AV} (h : Cl L w b o cs) (n : Nat) : Cl L w b o (cs.take n) := fun j x hx => by
  rw [List.getElem?_take] at hx
  split at hx
  · exact h j x hx
  · cases hx
theorem Cl.vals {b o : Nat} {cs : List AV} (h : Cl L w b o cs) : ∃ vs : List Value, CRL L cs vs ∧ ∀ j v, vs[j]? = some v → w.cell? ⟨b, o + j, none⟩ = some v := by
  induction cs generalizing o with
  | nil => exact ⟨[], by simp [CRL], fun j v h => by simp at h⟩
  | cons x xs ih =>
    obtain ⟨v, h1, h2, h3⟩ := h 0 x (by simp)
    obtain ⟨vs, h4, h5⟩ := ih (o := o + 1) fun j y hy => by
      have := h (j + 1) y (by simpa using hy)
      rwa [show o + 1 + j = o + (j + 1) by omega]
    refine ⟨v :: vs, by simp only [CRL]; exact ⟨h2, h3, h4⟩, fun j u hu => ?_⟩
    cases j with
    | zero => simp at hu; subst hu; exact h1
    | succ j =>
      have := h5 j u (by simpa using hu)
      rwa [show o + 1 + j = o + (j + 1) by omega] at this
theorem run_loadCells_Cl {b o : Nat} {cs : List AV} (h : Cl L w b o cs) : ∃ vs : List Value, CRL L cs vs ∧ (loadCells ⟨b, o, none⟩ cs.length).run P w = .ok vs.toArray w := by
  obtain ⟨vs, h1, h2⟩ := h.vals
  refine ⟨vs, h1, ?_⟩
  rw [h1.length]
  exact run_loadCells_list (P := P) (w := w) ⟨b, o, none⟩ vs fun j v hv => by rw [add_plain]; exact h2 j v hv
theorem run_load_cell {a : Addr} {v : Value} (h : w.cell? a = some v) : (load a).run P w = .ok v w := by simp [h]
/-- A variable's value out of its cells. -/
theorem load_part {t : TypeId} {i : TI} (hi : tiOf P t = some i) {b o off : Nat} {cs : List AV} (hc : Cl L w b o cs) {av : AV} (h : partV i.agg i.size cs off = some av) :
    ∃ v, (loadVar t ⟨b, o + off, none⟩).run P w = .ok v w ∧ VR L av v := by
  obtain ⟨info, d, z, k⟩ := tiOf_some hi
  unfold partV at h
  simp only at h
  split at h
  · rename_i hl
    have hc' := (hc.drop off).take i.size
    split at h
    · rename_i ha
      simp only [Option.some.injEq] at h
      subst h
      obtain ⟨vs, h1, h2⟩ := run_loadCells_Cl (P := P) hc'
      rw [hl] at h2
      refine ⟨.agg vs.toArray, ?_, by simp only [VR]; exact ⟨vs.toArray, rfl, by simpa using h1⟩⟩
      simp [loadVar, k.isAgg, ha, k.size, h2]
    · rename_i ha
      split at h
      · rename_i v hv
        simp only [Option.some.injEq] at h
        subst h
        obtain ⟨u, h1, h2, h3⟩ := hc' 0 v (by rw [hv]; rfl)
        refine ⟨u, ?_, h2⟩
        simp only [Nat.add_zero] at h1
        simp [loadVar, k.isAgg, ha, h1]
      · cases h
  · cases h
theorem DRC.Cl {b : Nat} (hi : ∀ b o v, L.imm b o = some v → w.cell? ⟨b, o, none⟩ = some v) : ∀ {cs : List Dat} {o : Nat}, DRC L b o cs → AM.Cl L w b o (cs.map AV.d)
  | [], o, _ => fun j x hx => by simp at hx
  | c :: cs, o, h => by
    simp only [DRC] at h
    obtain ⟨⟨v, h1, h2⟩, h3⟩ := h
    intro j x hx
    cases j with
    | zero => simp at hx; subst hx; exact ⟨v, hi _ _ _ h1, by simpa [VR] using h2, h2.one⟩
    | succ j =>
      have := DRC.Cl hi h3 j x (by simpa using hx)
      rwa [show o + 1 + j = o + (j + 1) by omega] at this
theorem MemOk.Cl {base : Nat} {i ver fro sz : Nat} {l : List (List AV)} {b : Addr} {c : Nat} (h : MemOk base L w i ver fro sz l b c) {e : Nat} {cs : List AV} (he : l[e]? = some cs) :
    AM.Cl L w b.block (b.off + e * sz) cs ∧ cs.length = sz := by
  obtain ⟨cells, t, h1, h2, h3⟩ := h.cells
  obtain ⟨h4, h5⟩ := h3 e cs he
  refine ⟨fun j x hx => ?_, h4⟩
  obtain ⟨v, h6, h7, h8, _⟩ := h5 j x hx
  exact ⟨v, by simp [World.cell?, h1, h6], h7, h8⟩
theorem ldV_sound {base : Nat} {H : AHeap} (R : Rel base L H w) {t : TypeId} {i : TI} (hi : tiOf P t = some i) {x av : AV} {v : Value} (hv : VR L x v) (h : ldV i.agg i.size x H = some av) :
    ∃ u, (Instr.loadAt t v).run P w = .ok u w ∧ VR L av u := by
  unfold ldV at h
  split at h
  · rename_i id ver e off
    split at h
    · rename_i ver' fro sz l hH
      split at h
      · rename_i hver
        subst hver
        split at h
        · rename_i cs hcs
          obtain ⟨b, c, m⟩ := R.mem _ _ _ _ _ hH
          simp only [VR] at hv
          obtain ⟨b', sz', n', c', h1, rfl⟩ := hv
          rw [m.loc] at h1
          simp only [Option.some.injEq, Prod.mk.injEq] at h1
          obtain ⟨rfl, rfl, rfl, rfl⟩ := h1
          obtain ⟨hc, hl⟩ := m.Cl hcs
          obtain ⟨u, h2, h3⟩ := load_part hi hc h
          exact ⟨u, by simp [Instr.loadAt, Instr.sureAddr, h2], h3⟩
        · cases h
      · cases h
    · cases h
  · rename_i cs off
    simp only [VR] at hv
    obtain ⟨b, o, rfl, hc⟩ := hv
    obtain ⟨u, h2, h3⟩ := load_part hi (hc.Cl R.imm) h
    exact ⟨u, by simp [Instr.loadAt, Instr.sureAddr, h2], h3⟩
  · cases h
/-! part of an aggregate at hand -/
theorem part_sound {t : TypeId} {i : TI} (hi : tiOf P t = some i) {cs : List AV} {vs : Array Value} (hc : CRL L cs vs.toList) {off : Nat} {av : AV} (h : partV i.agg i.size cs off = some av) :
    ∃ u, (part t vs off).run P w = .ok u w ∧ VR L av u := by
  obtain ⟨info, d, z, k⟩ := tiOf_some hi
  unfold partV at h
  simp only at h
  split at h
  · rename_i hl
    have hc' := (hc.drop off).take i.size
    split at h
    · rename_i ha
      simp only [Option.some.injEq] at h
      subst h
      refine ⟨.agg (vs.extract off (off + i.size)), ?_, ?_⟩
      · simp [part, k.isAgg, ha, k.size]
      · simp only [VR]
        refine ⟨_, rfl, ?_⟩
        rw [Array.toList_extract]
        simpa [List.extract_eq_take_drop] using hc'
    · rename_i ha
      split at h
      · rename_i v hv
        simp only [Option.some.injEq] at h
        subst h
        obtain ⟨u, h1, h2, h3⟩ := hc'.get (i := 0) (x := v) (by rw [hv]; rfl)
        refine ⟨u, ?_, h2⟩
        rw [List.getElem?_take] at h1
        split at h1
        · rw [List.getElem?_drop, Nat.add_zero] at h1
          simp [part, k.isAgg, ha, ← Array.getElem?_toList, h1]
        · cases h1
      · cases h
  · cases h

/-! ### operators -/
theorem eqGuard_ok {op : BinOp} {t : TypeId} {x y : Operand} {a b : Value} (h1 : ∀ cs, a ≠ .agg cs) (h2 : a ≠ .nilIface) : (eqGuard op t x y a b).run P w = .ok () w := by
  cases op <;> first | rfl | (cases a <;> first | rfl | exact absurd rfl (h1 _) | exact absurd rfl h2)
theorem intA_sound {op : BinOp} {t : TypeId} {xo yo : Operand} {x y av : AV} {u v : Value} (hx : VR L x u) (hy : VR L y v) (h : intA op x y = some av) :
    ∃ r, (do eqGuard op t xo yo u v; binOp op t u v : Sem Value).run P w = .ok r w ∧ VR L av r := by
  unfold intA at h
  split at h
  · rename_i k a k' b
    simp only [VR, DR] at hx hy
    subst hx hy
    simp only [Sem.run_bind, eqGuard_ok (P := P) (w := w) (op := op) (t := t) (x := xo) (y := yo) (a := .int k a) (b := .int k' b) (fun _ h => by cases h) (fun h => by cases h), Result.andThen_ok]
    split at h
    · rename_i hs
      unfold shiftBin at h
      cases op <;> simp only [isShift, Bool.false_eq_true] at hs <;> simp only at h <;> split at h <;> try (cases h; done)
      · rename_i hb
        simp only [Option.some.injEq] at h
        subst h
        exact ⟨.int k (k.wrap (a * 2 ^ min b.toNat k.bits)), by simp [binOp, Op.shift, hb], by simp [VR, DR]⟩
      · rename_i hb
        simp only [Option.some.injEq] at h
        subst h
        exact ⟨.int k (a.fdiv (2 ^ min b.toNat k.bits)), by simp [binOp, Op.shift, hb], by simp [VR, DR]⟩
    · split at h
      · rename_i hs hk
        subst hk
        unfold intBin at h
        cases op <;> simp only [isShift, not_true_eq_false, Bool.false_eq_true, not_false_eq_true] at hs <;> simp only [Option.some.injEq] at h <;>
          first
            | (subst h; exact ⟨_, by simp [binOp, Op.intArith, Op.intBits, Op.intCmp]; rfl, by simp [VR, DR]⟩)
            | (split at h
               · cases h
               · rename_i hb
                 simp only [Option.some.injEq] at h
                 subst h
                 exact ⟨_, by simp [binOp, Op.intDiv, hb]; rfl, by simp [VR, DR]⟩)
            | cases h
      · cases h
  · cases h
theorem strA_sound {op : BinOp} {t : TypeId} {xo yo : Operand} {x y av : AV} {u v : Value} (hx : VR L x u) (hy : VR L y v) (h : strA op x y = some av) :
    ∃ r, (do eqGuard op t xo yo u v; binOp op t u v : Sem Value).run P w = .ok r w ∧ VR L av r := by
  unfold strA at h
  split at h
  · rename_i a b
    simp only [VR, DR] at hx hy
    subst hx hy
    simp only [Sem.run_bind, eqGuard_ok (P := P) (w := w) (op := op) (t := t) (x := xo) (y := yo) (a := .string a) (b := .string b) (fun _ h => by cases h) (fun h => by cases h), Result.andThen_ok]
    unfold strBin at h
    cases op <;> simp only [Option.some.injEq] at h <;>
      first
        | (subst h; exact ⟨_, by simp [binOp, Op.stringOp]; rfl, by simp [VR, DR]⟩)
        | (split at h
           · cases h
           · rename_i hb
             simp only [Option.some.injEq] at h
             subst h
             exact ⟨.string (a ++ b), by simp only [binOp, Op.stringOp]; rw [if_neg hb]; rfl, by simp [VR, DR]⟩)
        | cases h
  · cases h
theorem boolA_sound {op : BinOp} {t : TypeId} {xo yo : Operand} {x y av : AV} {u v : Value} (ht : P.underlying t = some .bool) (hx : VR L x u) (hy : VR L y v) (h : boolA op x y = some av) :
    ∃ r, (do eqGuard op t xo yo u v; binOp op t u v : Sem Value).run P w = .ok r w ∧ VR L av r := by
  unfold boolA at h
  split at h
  · rename_i a b
    simp only [VR, DR] at hx hy
    subst hx hy
    simp only [Sem.run_bind, eqGuard_ok (P := P) (w := w) (op := op) (t := t) (x := xo) (y := yo) (a := .bool a) (b := .bool b) (fun _ h => by cases h) (fun h => by cases h), Result.andThen_ok]
    split at h
    · simp only [Option.some.injEq] at h
      subst h
      exact ⟨.bool (a == b), by simp [binOp, run_equal_bool w t a b ht], by simp [VR, DR]⟩
    · simp only [Option.some.injEq] at h
      subst h
      exact ⟨.bool (!(a == b)), by simp [binOp, run_equal_bool w t a b ht], by simp [VR, DR]⟩
    · cases h
  · cases h
/-- What a value that may be nil is. -/
def NilIs (k : Nat) (u : Value) (b : Bool) : Prop :=
  match k with
  | 0 => ∃ A n c, u = .slice A n c ∧ A.isNone = b
  | 1 => ∃ A, u = .map A ∧ A.isNone = b
  | 2 => (u = .nilFunc ∧ b = true) ∨ (∃ f a c, u = .func f a c ∧ b = false)
  | 3 => ∃ A, u = .pointer A ∧ A.isNone = b
  | _ => False
theorem isNil_sound {k : Nat} {x : AV} {u : Value} {b : Bool} (hx : VR L x u) (h : isNil k x = some b) : NilIs k u b := by
  unfold isNil at h
  split at h <;> simp only [Option.some.injEq, reduceCtorEq] at h
  · rename_i nl l
    simp only [VR, DR] at hx
    obtain ⟨A, cap, rfl, _, h2, h3⟩ := hx
    refine ⟨A, _, _, rfl, ?_⟩
    rw [← h]
    cases nl with
    | false => obtain ⟨a, rfl, _⟩ := h3 rfl; rfl
    | true => obtain ⟨rfl, _⟩ := h2 rfl; rfl
  · subst h; simp only [VR] at hx; obtain ⟨a, rfl, _⟩ := hx; exact ⟨_, _, _, rfl, rfl⟩
  · subst h; simp only [VR] at hx; obtain ⟨_, _, _, _, _, rfl, _⟩ := hx; exact ⟨_, _, _, rfl, rfl⟩
  · subst h; simp only [VR] at hx; subst hx; exact ⟨_, rfl, rfl⟩
  · subst h; simp only [VR] at hx; obtain ⟨_, _, rfl⟩ := hx; exact ⟨_, rfl, rfl⟩
  · subst h; simp only [VR] at hx; subst hx; exact .inl ⟨rfl, rfl⟩
  · subst h; simp only [VR] at hx; obtain ⟨_, _, rfl, _⟩ := hx; exact .inr ⟨_, _, _, rfl, rfl⟩
  · subst h; simp only [VR] at hx; subst hx; exact ⟨_, rfl, rfl⟩
  · subst h; simp only [VR] at hx; obtain ⟨_, _, _, _, _, rfl⟩ := hx; exact ⟨_, rfl, rfl⟩
  · subst h; simp only [VR] at hx; obtain ⟨_, _, rfl, _⟩ := hx; exact ⟨_, rfl, rfl⟩
def kindIs (k : Nat) (d : TypeDesc) : Prop :=
  match k with
  | 0 => ∃ e, d = .slice e
  | 1 => ∃ a e, d = .map a e
  | 2 => ∃ a b c, d = .func a b c
  | 3 => ∃ e, d = .pointer e
  | _ => False
theorem NilIs.guard {k : Nat} {u : Value} {b : Bool} (h : NilIs k u b) : (∀ cs, u ≠ .agg cs) ∧ u ≠ .nilIface := by
  unfold NilIs at h
  split at h
  · obtain ⟨_, _, _, rfl, _⟩ := h; exact ⟨(fun _ h => by cases h), (fun h => by cases h)⟩
  · obtain ⟨_, rfl, _⟩ := h; exact ⟨(fun _ h => by cases h), (fun h => by cases h)⟩
  · rcases h with ⟨rfl, _⟩ | ⟨_, _, _, rfl, _⟩ <;> exact ⟨(fun _ h => by cases h), (fun h => by cases h)⟩
  · obtain ⟨_, rfl, _⟩ := h; exact ⟨(fun _ h => by cases h), (fun h => by cases h)⟩
  · exact h.elim
theorem run_equalIn_nils (n : Nat) {k : Nat} {t : TypeId} {d : TypeDesc} (ht : P.underlying t = some d) (hd : kindIs k d) {u v : Value} {b c : Bool} (hu : NilIs k u b) (hv : NilIs k v c) (hbc : b = true ∨ c = true) :
    (Op.equalIn (n + 1) t u v).run P w = .ok (if b then c else false) w := by
  unfold kindIs NilIs at *
  split at hd
  · obtain ⟨e, rfl⟩ := hd
    obtain ⟨A, n, c', rfl, rfl⟩ := hu
    obtain ⟨B, m, d', rfl, rfl⟩ := hv
    cases A <;> cases B <;> first | (simp at hbc; done) | simp [Op.equalIn, underlying, ht]
  · obtain ⟨a, e, rfl⟩ := hd
    obtain ⟨A, rfl, rfl⟩ := hu
    obtain ⟨B, rfl, rfl⟩ := hv
    cases A <;> cases B <;> first | (simp at hbc; done) | simp [Op.equalIn, underlying, ht]
  · obtain ⟨a, b', c', rfl⟩ := hd
    rcases hu with ⟨rfl, rfl⟩ | ⟨_, _, _, rfl, rfl⟩ <;> rcases hv with ⟨rfl, rfl⟩ | ⟨_, _, _, rfl, rfl⟩ <;> first | (simp at hbc; done) | simp [Op.equalIn, underlying, ht]
  · obtain ⟨e, rfl⟩ := hd
    obtain ⟨A, rfl, rfl⟩ := hu
    obtain ⟨B, rfl, rfl⟩ := hv
    cases A <;> cases B <;> first | (simp at hbc; done) | simp [Op.equalIn, underlying, ht]
  · exact hd.elim
/-- Compared where one of the two is nil. -/
theorem run_equal_nils {k : Nat} {t : TypeId} {d : TypeDesc} (ht : P.underlying t = some d) (hd : kindIs k d) {u v : Value} {b c : Bool} (hu : NilIs k u b) (hv : NilIs k v c) (hbc : b = true ∨ c = true) :
    (Op.equal t u v).run P w = .ok (if b then c else false) w ∧ (∀ op, op = BinOp.eql → binOp op t u v = (do pure (.bool (← Op.equal t u v)))) ∧ (∀ op, op = BinOp.neq → binOp op t u v = (do pure (.bool (!(← Op.equal t u v))))) := by
  refine ⟨run_equalIn_nils 9999 ht hd hu hv hbc, ?_, ?_⟩
  · rintro op rfl
    unfold NilIs at hu hv
    split at hu
    · obtain ⟨A, n, c', rfl, rfl⟩ := hu; obtain ⟨B, m, d', rfl, rfl⟩ := hv; rfl
    · obtain ⟨A, rfl, rfl⟩ := hu; obtain ⟨B, rfl, rfl⟩ := hv; rfl
    · rcases hu with ⟨rfl, rfl⟩ | ⟨_, _, _, rfl, rfl⟩ <;> rcases hv with ⟨rfl, rfl⟩ | ⟨_, _, _, rfl, rfl⟩ <;> rfl
    · obtain ⟨A, rfl, rfl⟩ := hu; obtain ⟨B, rfl, rfl⟩ := hv; cases A <;> cases B <;> rfl
    · exact hu.elim
  · rintro op rfl
    unfold NilIs at hu hv
    split at hu
    · obtain ⟨A, n, c', rfl, rfl⟩ := hu; obtain ⟨B, m, d', rfl, rfl⟩ := hv; rfl
    · obtain ⟨A, rfl, rfl⟩ := hu; obtain ⟨B, rfl, rfl⟩ := hv; rfl
    · rcases hu with ⟨rfl, rfl⟩ | ⟨_, _, _, rfl, rfl⟩ <;> rcases hv with ⟨rfl, rfl⟩ | ⟨_, _, _, rfl, rfl⟩ <;> rfl
    · obtain ⟨A, rfl, rfl⟩ := hu; obtain ⟨B, rfl, rfl⟩ := hv; cases A <;> cases B <;> rfl
    · exact hu.elim
theorem nilA_sound {k : Nat} {op : BinOp} {t : TypeId} {xo yo : Operand} {x y av : AV} {u v : Value} {d : TypeDesc} (ht : P.underlying t = some d) (hd : kindIs k d) (hx : VR L x u) (hy : VR L y v)
    (h : nilA k op x y = some av) : ∃ r, (do eqGuard op t xo yo u v; binOp op t u v : Sem Value).run P w = .ok r w ∧ VR L av r := by
  unfold nilA at h
  split at h
  · rename_i b h1 h2
    have n1 := isNil_sound hx h1
    have n2 := isNil_sound hy h2
    obtain ⟨e1, e2, e3⟩ := run_equal_nils (w := w) ht hd n1 n2 (.inl rfl)
    simp only [Sem.run_bind, eqGuard_ok (P := P) (w := w) (op := op) (t := t) (x := xo) (y := yo) n1.guard.1 n1.guard.2, Result.andThen_ok]
    split at h <;> simp only [Option.some.injEq, reduceCtorEq] at h
    · subst h; exact ⟨.bool b, by rw [e2 _ rfl]; simp [e1], by simp [VR, DR]⟩
    · subst h; exact ⟨.bool (!b), by rw [e3 _ rfl]; simp [e1], by simp [VR, DR]⟩
  · rename_i h1 h2
    have n1 := isNil_sound hx h1
    have n2 := isNil_sound hy h2
    obtain ⟨e1, e2, e3⟩ := run_equal_nils (w := w) ht hd n1 n2 (.inr rfl)
    simp only [Sem.run_bind, eqGuard_ok (P := P) (w := w) (op := op) (t := t) (x := xo) (y := yo) n1.guard.1 n1.guard.2, Result.andThen_ok]
    split at h <;> simp only [Option.some.injEq, reduceCtorEq] at h
    · subst h; exact ⟨.bool false, by rw [e2 _ rfl]; simp [e1], by simp [VR, DR]⟩
    · subst h; exact ⟨.bool (!false), by rw [e3 _ rfl]; simp [e1], by simp [VR, DR]⟩
  · cases h

/-! ### '==' of structs and arrays -/
theorem und_info {t : TypeId} {d : TypeDesc} (h : P.underlying t = some d) : ∃ i, P.info? t = some i := by
  unfold Program.underlying at h
  split at h
  · exact ⟨_, by assumption⟩
  · exact ⟨_, by assumption⟩
  · cases h
theorem eqDat_sound {x y : Dat} {u v : Value} {b : Bool} {t : TypeId} {d : TypeDesc} (ht : P.underlying t = some d) (hx : DR L x u) (hy : DR L y v) (h : eqDat d x y = some b) (n : Nat) :
    (Op.equalIn (n + 1) t u v).run P w = .ok b w := by
  unfold eqDat at h
  split at h
  · simp only [DR] at hx hy
    simp only [Option.some.injEq] at h
    subst hx hy h
    exact run_equalIn_bool w n t _ _ ht
  · simp only [DR] at hx hy
    split at h
    · rename_i e
      simp only [Option.some.injEq] at h
      subst hx hy h e
      simp [Op.equalIn, underlying, ht]
    · cases h
  · simp only [DR] at hx hy
    simp only [Option.some.injEq] at h
    subst hx hy h
    simp [Op.equalIn, underlying, ht]
  · cases h
/-- A value of a type, out of its cells. -/
def asV (P : Program) (t : TypeId) (us : List Value) (u : Value) : Prop :=
  match P.underlying t with
  | some (.struct _) => u = .agg us.toArray
  | some (.array _ _) => u = .agg us.toArray
  | _ => us = [u]
theorem asV_plain {t : TypeId} {dd : TypeDesc} (h : P.underlying t = some dd) (ha : isAggD dd = false) {us : List Value} {u : Value} (hu : asV P t us u) : us = [u] := by
  unfold asV at hu
  rw [h] at hu
  cases dd <;> first | exact hu | cases ha
theorem part_asV {t : TypeId} {d : TypeDesc} (ht : P.underlying t = some d) (cs : Array Value) (off : Nat) (hne : (isAggD d = false) → ((cs.toList.drop off).take (P.cellsOf t)).length = 1) :
    ∃ u, (part t cs off).run P w = .ok u w ∧ asV P t ((cs.toList.drop off).take (P.cellsOf t)) u := by
  obtain ⟨i, hi⟩ := und_info ht
  by_cases ha : isAggD d = true
  · refine ⟨.agg (cs.extract off (off + P.cellsOf t)), ?_, ?_⟩
    · have : (isAgg t).run P w = .ok true w := by
        simp only [isAgg, underlying]; simp [ht]; cases d <;> simp_all [isAggD]
      simp [part, this, run_sizeOf w hi]
    · unfold asV
      rw [ht]
      cases d <;> simp [isAggD] at ha <;> (simp only; congr 1; apply Array.ext'; simp [Array.toList_extract, List.extract_eq_take_drop])
  · have ha' : isAggD d = false := by simpa using ha
    have h1 := hne ha'
    obtain ⟨u, hu⟩ := List.length_eq_one_iff.1 h1
    refine ⟨u, ?_, ?_⟩
    · have : (isAgg t).run P w = .ok false w := by
        simp only [isAgg, underlying]; simp [ht]; cases d <;> simp_all [isAggD]
      have hc : cs[off]? = some u := by
        have h0 : ((cs.toList.drop off).take (P.cellsOf t))[0]? = some u := by rw [hu]; rfl
        rw [List.getElem?_take] at h0
        split at h0
        · rw [List.getElem?_drop, Nat.add_zero] at h0
          rwa [← Array.getElem?_toList]
        · cases h0
      simp [part, this, hc]
    · unfold asV
      rw [ht]
      cases d <;> simp [isAggD] at ha' <;> exact hu
theorem eqT_len {d : Nat} {t : TypeId} {xs ys : List AV} {b : Bool} (h : eqT P d t xs ys = some b) : ∃ dd, P.underlying t = some dd ∧ (isAggD dd = false → xs.length = 1 ∧ ys.length = 1) := by
  cases d with
  | zero => simp [eqT] at h
  | succ d =>
    simp only [eqT] at h
    split at h
    · exact ⟨_, by assumption, fun h => by simp [isAggD] at h⟩
    · exact ⟨_, by assumption, fun h => by simp [isAggD] at h⟩
    · refine ⟨_, by assumption, fun _ => ?_⟩
      split at h
      · simp
      · cases h
    · cases h
theorem eqT_sound : ∀ (d : Nat) (t : TypeId) (xs ys : List AV) (us vs : List Value) (u v : Value) (b : Bool), CRL L xs us → CRL L ys vs → asV P t us u → asV P t vs v → eqT P d t xs ys = some b →
    (Op.equalIn d t u v).run P w = .ok b w := by
  intro d
  induction d with
  | zero => intro t xs ys us vs u v b _ _ _ _ h; simp [eqT] at h
  | succ d ih =>
    intro t xs ys us vs u v b hx hy hu hv h
    -- one part of an aggregate
    have one_part : ∀ (ft : TypeId) (off : Nat) (c : Bool), eqT P d ft ((xs.drop off).take (P.cellsOf ft)) ((ys.drop off).take (P.cellsOf ft)) = some c →
        ∃ a a', (part ft us.toArray off).run P w = .ok a w ∧ (part ft vs.toArray off).run P w = .ok a' w ∧ (Op.equalIn d ft a a').run P w = .ok c w := by
      intro ft off c hc
      have cx := (hx.drop off).take (P.cellsOf ft)
      have cy := (hy.drop off).take (P.cellsOf ft)
      obtain ⟨dd, hdd, hlen⟩ := eqT_len hc
      obtain ⟨a, h1, h2⟩ := part_asV (w := w) hdd us.toArray off (fun hh => by rw [← cx.length]; exact (hlen hh).1)
      obtain ⟨a', h3, h4⟩ := part_asV (w := w) hdd vs.toArray off (fun hh => by rw [← cy.length]; exact (hlen hh).2)
      exact ⟨a, a', h1, h3, ih ft _ _ _ _ a a' c cx cy h2 h4 hc⟩
    simp only [eqT] at h
    split at h
    · rename_i fs hfs
      split at h
      · cases h
      · rename_i hst
        unfold asV at hu hv
        rw [hfs] at hu hv
        simp only at hu hv
        subst hu hv
        have hF : P.fieldsOf t = fs := by simp [Program.fieldsOf, hfs]
        rw [run_equalIn_struct w d t us.toArray vs.toArray (by rw [hF]; exact hfs) (by simpa using hst), hF]
        generalize fs.toList = l at h
        clear hF hfs
        induction l generalizing b with
        | nil => simp only [List.foldr_nil, Option.some.injEq] at h; subst h; simp [Op.eqFields]
        | cons f l ihl =>
          simp only [List.foldr_cons] at h
          simp only [Op.eqFields, Sem.run_bind, Sem.run_ite]
          split at h
          · rename_i hn
            rw [if_pos hn]
            split at h
            · rename_i a c h1 h2
              simp only [Option.some.injEq] at h
              subst h
              obtain ⟨p, p', e1, e2, e3⟩ := one_part f.type f.offset a h1
              simp only [e1, e2, e3, Result.andThen_ok]
              cases a with
              | true => simp; exact ihl c h2
              | false => simp
            · cases h
          · rename_i hn
            rw [if_neg hn]
            exact ihl b h
    · rename_i n e hfs
      split at h
      · cases h
      rename_i hn0
      unfold asV at hu hv
      rw [hfs] at hu hv
      simp only at hu hv
      subst hu hv
      have hi : n = 0 ∨ ∃ i, P.info? e = some i := by
        by_cases h0 : n = 0
        · exact .inl h0
        · right
          clear hn0
          obtain ⟨m, rfl⟩ : ∃ m, n = m + 1 := ⟨n - 1, by omega⟩
          rw [List.range_succ_eq_map, List.foldr_cons] at h
          split at h
          · rename_i a c h1 h2
            obtain ⟨dd, hdd, _⟩ := eqT_len h1
            exact und_info hdd
          · cases h
      rcases hi with rfl | ⟨i, hi⟩
      · exact absurd rfl hn0
      · rw [run_equalIn_array w d us.toArray vs.toArray hfs hi]
        generalize List.range n = l at h
        clear hfs
        induction l generalizing b with
        | nil => simp only [List.foldr_nil, Option.some.injEq] at h; subst h; simp [Op.eqItems]
        | cons f l ihl =>
          simp only [List.foldr_cons] at h
          simp only [Op.eqItems, Sem.run_bind, Sem.run_ite]
          split at h
          · rename_i a c h1 h2
            simp only [Option.some.injEq] at h
            subst h
            obtain ⟨p, p', e1, e2, e3⟩ := one_part e (f * P.cellsOf e) a h1
            simp only [e1, e2, e3, Result.andThen_ok]
            cases a with
            | true => simp; exact ihl c h2
            | false => simp
          · cases h
    · rename_i dd hn1 hn2 hdd
      split at h
      · rename_i x y
        have hna : isAggD dd = false := by
          cases dd <;> first | rfl | exact absurd rfl (hn1 _) | exact absurd rfl (hn2 _ _)
        have hu' : us = [u] := asV_plain hdd hna hu
        have hv' : vs = [v] := asV_plain hdd hna hv
        subst hu' hv'
        simp only [CRL, VR] at hx hy
        exact eqDat_sound hdd hx.1 hy.1 h d
      · cases h
    · cases h

end Go.AM

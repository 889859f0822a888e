/- Parts of a heap; what a call that sees a part leaves alone. -/
import Derived.Test.YtmciomkibklokaaA20
set_option autoImplicit false
set_option linter.unusedVariables false
set_option linter.unusedSimpArgs false
namespace Go.AM
open Classical in
/-- The part of a heap that lies at some names. -/
noncomputable def AHeap.only (H : AHeap) (D : Nat → Prop) : AHeap := fun i => if D i then H i else none
def AHeap.both (H F : AHeap) : AHeap := fun i => match H i with | some o => some o | none => F i
theorem only_in {H : AHeap} {D : Nat → Prop} {i : Nat} (h : D i) : H.only D i = H i := by unfold AHeap.only; rw [if_pos h]
theorem only_out {H : AHeap} {D : Nat → Prop} {i : Nat} (h : ¬ D i) : H.only D i = none := by unfold AHeap.only; rw [if_neg h]
theorem only_some {H : AHeap} {D : Nat → Prop} {i : Nat} {o : AObj} (h : H.only D i = some o) : D i ∧ H i = some o := by
  by_cases hd : D i
  · rw [only_in hd] at h; exact ⟨hd, h⟩
  · rw [only_out hd] at h; cases h
theorem only_le {H : AHeap} {D : Nat → Prop} : AHeap.le (H.only D) H := fun i o h => (only_some h).2
theorem only_isS {H : AHeap} {D : Nat → Prop} {i : Nat} (h : (H.only D i).isSome) : D i := by
  obtain ⟨o, ho⟩ := Option.isSome_iff_exists.1 h
  exact (only_some ho).1
theorem both_l {H F : AHeap} {i : Nat} {o : AObj} (h : H i = some o) : H.both F i = some o := by simp [AHeap.both, h]
theorem both_r {H F : AHeap} {i : Nat} (h : H i = none) : H.both F i = F i := by simp [AHeap.both, h]
theorem both_cases {H F : AHeap} {i : Nat} {o : AObj} (h : H.both F i = some o) : H i = some o ∨ (H i = none ∧ F i = some o) := by
  unfold AHeap.both at h
  cases hi : H i with
  | none => rw [hi] at h; exact .inr ⟨rfl, h⟩
  | some p => rw [hi] at h; exact .inl h
variable {P : Program} {L L' : Lo} {w w' : World} {base : Nat} {H : AHeap}
theorem Nx.framed {D : Nat → Prop} {H1 : AHeap} (R : Rel base L H w) (x : Nx base (fun i => L.cnt ≤ i) L (H.only D) w L' H1 w') :
    Nx base (fun i => L.cnt ≤ i) L H w L' (H1.both (H.only fun i => ¬ D i)) w' ∧ ∀ i, (H i).isSome → ¬ D i → H1 i = none := by
  have lt : ∀ {i : Nat} {o : AObj}, H i = some o → i < L.cnt := fun {i o} hi => by
    cases o with
    | mem ver fro sz l => obtain ⟨b, c, m⟩ := R.mem _ _ _ _ _ hi; exact R.fm _ _ _ m.loc
    | map es cl => obtain ⟨b, _, h1, _⟩ := R.map _ _ _ hi; exact R.fo _ _ h1
    | iter m s se st => obtain ⟨b, _, h1, _⟩ := R.iter _ _ _ _ _ hi; exact R.fo _ _ h1
    | iter0 => obtain ⟨b, h1, _⟩ := R.iter0 _ hi; exact R.fo _ _ h1
  have no : ∀ i, (H i).isSome → ¬ D i → H1 i = none := fun i hi hd => by
    cases h1 : H1 i with
    | none => rfl
    | some o =>
      rcases x.dom i (by rw [h1]; rfl) with h2 | h2
      · exact absurd (only_isS h2) hd
      · obtain ⟨o', ho⟩ := Option.isSome_iff_exists.1 hi
        have := lt ho
        omega
  have nown : ∀ {i : Nat} {o : AObj} {b : Nat}, H i = some o → ¬ D i → blk L i o = some b → ¬ own L (H.only D) b := fun {i o b} hi hd hb ⟨j, o', hj, hb'⟩ => by
    obtain ⟨h1, h2⟩ := only_some hj
    exact hd ((R.dist _ _ _ _ _ hi h2 hb hb') ▸ h1)
  have keep : ∀ {i : Nat} {o : AObj}, H i = some o → ¬ D i → ObjOk base L' w' i o := fun {i o} hi hd => by
    obtain ⟨b0, hb0, _, hlt⟩ := (R.ok hi).blk
    have hn := nown hi hd hb0
    refine (R.ok hi).keep x.le (fun b hb => ?_) fun v hv => ?_
    · rw [hb0] at hb; cases hb
      refine ⟨x.step.keep _ hlt hn, fun k hk => ?_⟩
      cases him : L'.imm b0 k with
      | none => rfl
      | some v =>
        rcases x.im _ _ _ him with h1 | h1 | h1
        · rw [hk] at h1; cases h1
        · exact absurd h1 hn
        · omega
    · cases hm : L'.mem i v with
      | none => rfl
      | some z =>
        rcases x.nm _ _ _ hm with h1 | h1 | h1
        · rw [hv] at h1; cases h1
        · exact absurd (only_isS h1) hd
        · have := lt hi; omega
  have out : ∀ {i : Nat} {o : AObj}, (H.only fun i => ¬ D i) i = some o → ¬ D i ∧ H i = some o := fun h => only_some h
  refine ⟨⟨x.le, .of_ok x.rel.imm (fun i o hi => ?_) (fun i j o o' b hi hj hbi hbj => ?_) x.rel.fm x.rel.fo x.rel.base, ⟨x.step.size, x.step.os, x.step.tape, x.step.output, fun b hlt hn => x.step.keep b hlt fun h => hn (h.weaken only_le)⟩, fun b hb => ?_, fun i hi => ?_,
    fun i v z hz => (x.nm i v z hz).imp id (Or.imp (fun h => by obtain ⟨o, ho⟩ := Option.isSome_iff_exists.1 h; rw [(only_some ho).2]; rfl) id), x.no, fun b o v hv => (x.im b o v hv).imp id (Or.imp (fun h => h.weaken only_le) id)⟩, no⟩
  · rcases both_cases hi with h1 | ⟨_, h1⟩
    · exact x.rel.ok h1
    · obtain ⟨h2, h3⟩ := out h1
      exact keep h3 h2
  · have mix : ∀ {i j : Nat} {o o' : AObj}, H1 i = some o → H j = some o' → ¬ D j → blk L' i o = some b → blk L' j o' = some b → False := fun {i j o o'} g1 g2 g3 g4 g5 => by
      obtain ⟨b0, hb0, _, hlt⟩ := (R.ok g2).blk
      have := blk_mono x.le hb0
      rw [g5] at this; cases this
      rcases x.sub b ⟨i, o, g1, g4⟩ with h1 | h1
      · exact nown g2 g3 hb0 h1
      · omega
    rcases both_cases hi with h1 | ⟨_, h1⟩ <;> rcases both_cases hj with h2 | ⟨_, h2⟩
    · exact x.rel.dist _ _ _ _ _ h1 h2 hbi hbj
    · obtain ⟨h3, h4⟩ := out h2
      exact (mix h1 h4 h3 hbi hbj).elim
    · obtain ⟨h3, h4⟩ := out h1
      exact (mix h2 h4 h3 hbj hbi).elim
    · obtain ⟨_, h3⟩ := out h1
      obtain ⟨_, h4⟩ := out h2
      obtain ⟨b1, hb1, _⟩ := (R.ok h3).blk
      obtain ⟨b2, hb2, _⟩ := (R.ok h4).blk
      have e1 := blk_mono x.le hb1
      have e2 := blk_mono x.le hb2
      rw [hbi] at e1; cases e1
      rw [hbj] at e2; cases e2
      exact R.dist _ _ _ _ _ h3 h4 hb1 hb2
  · obtain ⟨i, o, hi, hbi⟩ := hb
    rcases both_cases hi with h1 | ⟨_, h1⟩
    · exact (x.sub b ⟨i, o, h1, hbi⟩).imp (fun h => h.weaken only_le) id
    · obtain ⟨_, h3⟩ := out h1
      obtain ⟨b1, hb1, _⟩ := (R.ok h3).blk
      have e1 := blk_mono x.le hb1
      rw [hbi] at e1; cases e1
      exact .inl ⟨i, o, h3, hb1⟩
  · obtain ⟨o, ho⟩ := Option.isSome_iff_exists.1 hi
    rcases both_cases ho with h1 | ⟨_, h1⟩
    · refine (x.dom i (by rw [h1]; rfl)).imp (fun h => ?_) id
      obtain ⟨o', ho'⟩ := Option.isSome_iff_exists.1 h
      rw [(only_some ho').2]; rfl
    · exact .inl (by rw [(out h1).2]; rfl)
end Go.AM

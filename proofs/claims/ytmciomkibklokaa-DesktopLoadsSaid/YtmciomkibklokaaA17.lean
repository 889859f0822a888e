/- One operation looks at few objects, and changes few: what the order of operations may not matter for. -/
import Derived.Test.YtmciomkibklokaaA16
set_option autoImplicit false
set_option linter.unusedVariables false
set_option linter.unusedSimpArgs false
namespace Go.AM
open Go.RowKit Go.MapKept

variable {P : Program} {L L' : Lo} {w w' : World} {base : Nat} {H H' : AHeap}

def touch (l : List AV) (i : Nat) : Prop := ∃ v ∈ l, v = .junk ∨ idOf v = some i
def Ag (v : AV) (H H' : AHeap) : Prop := ∀ i o, (v = .junk ∨ idOf v = some i) → H i = some o → H' i = some o
def Agree (l : List AV) (H H' : AHeap) : Prop := ∀ i o, touch l i → H i = some o → H' i = some o
theorem Agree.at {l : List AV} (h : Agree l H H') {v : AV} (hv : v ∈ l) : Ag v H H' := fun i o hi ho => h i o ⟨v, hv, hi⟩ ho
theorem Agree.sub {l l' : List AV} (h : Agree l H H') (hs : ∀ v ∈ l', v ∈ l) : Agree l' H H' := fun i o ⟨v, hv, hi⟩ ho => h i o ⟨v, hs v hv, hi⟩ ho

/-- One operation, with the name of what it may make. -/
def gen1 (P : Program) (ρ : Operand → AV) (op : Op) (H : AHeap) (n : Nat) : Option (AV × Ups) :=
  match op with
  | .move x => some (ρ x, [])
  | .assign x => some (ρ x, [])
  | .pick c a b => match ρ c with
    | .d (.bool true) => some (ρ a, [])
    | .d (.bool false) => some (ρ b, [])
    | _ => none
  | .makeFunc (.func f) first caps => some (.func f (first.toList.map ρ) (caps.toList.map ρ), [])
  | op => if pureOp P op then noUps (evalN P ρ H op) else stepA P ρ op H (if makes op then n else 0)

theorem genX_gen1 {ρ : Operand → AV} {op : Op} {n : Nat} (hn : H n = none) {K : AV → AHeap → Prop} (h : genX P ρ op H K) : ∃ v us, gen1 P ρ op H n = some (v, us) ∧ K v (H.sets us) := by
  have rest : (if pureOp P op then optA (evalN P ρ H op) fun v => K v H else if makes op then newK H (fun n => stepA P ρ op H n) K else stepK (stepA P ρ op H 0) H K) →
      ∃ v us, (if pureOp P op then noUps (evalN P ρ H op) else stepA P ρ op H (if makes op then n else 0)) = some (v, us) ∧ K v (H.sets us) := by
    intro h
    split at h
    · rename_i hp
      obtain ⟨v, h1, h2⟩ := opt_some h
      exact ⟨v, [], by simp only [hp, if_true, h1, noUps], h2⟩
    · rename_i hp
      split at h
      · rename_i hm
        obtain ⟨r, h1, h2⟩ := opt_some (h n hn)
        exact ⟨r.1, r.2, by simp only [if_neg hp, if_pos hm]; exact h1, h2⟩
      · rename_i hm
        obtain ⟨r, h1, h2⟩ := opt_some h
        exact ⟨r.1, r.2, by simp only [if_neg hp, if_neg hm]; exact h1, h2⟩
  cases op <;> simp only [genX] at h <;> simp only [gen1]
  case move x => exact ⟨_, [], rfl, h⟩
  case assign x => exact ⟨_, [], rfl, h⟩
  case pick c x y =>
    unfold ifA at h
    split at h
    · rename_i e1; rw [e1]; exact ⟨_, [], rfl, h⟩
    · rename_i e1; rw [e1]; exact ⟨_, [], rfl, h⟩
    · exact h.elim
  case makeFunc fn first captured =>
    cases fn with
    | func f => exact ⟨_, [], rfl, h⟩
    | _ => simp only [pureOp, makes, stepA, evalN, noUps, stepK, optA, Bool.false_eq_true, if_false] at h
  all_goals exact rest h

/-- The machine does it. -/
theorem gen1_wp (R : Rel base L H w) {a : Act} {ρ : Operand → AV} (hρ : ∀ x, VR L (ρ x) (a.eval x)) {o : Oper} {n : Nat} (hfr : makes o.op = true → Fresh L n ∧ H n = none) {v : AV} {us : Ups} {Q : Exit → Act → World → Prop} {K : Act → World → Prop} (h : gen1 P ρ o.op H n = some (v, us))
    (hk : ∀ u w' L', VR L' v u → Nx base (fun i => i = n) L H w L' (H.sets us) w' → K (a.put o.dst u) w') : o.wp P a w K Q := by
  have val : ∀ (x : AV) (u : Value), VR L x u → (execOp a.eval o).run P w = .ok (.value u) w → some (x, []) = some (v, us) → o.wp P a w K Q := by
    intro x u h1 h2 h3
    simp only [Option.some.injEq, Prod.mk.injEq] at h3
    obtain ⟨rfl, rfl⟩ := h3
    unfold Oper.wp
    rw [h2]
    exact hk u w L h1 (Nx.refl R)
  have rest : (if pureOp P o.op then noUps (evalN P ρ H o.op) else stepA P ρ o.op H (if makes o.op then n else 0)) = some (v, us) → o.wp P a w K Q := by
    intro h
    split at h
    · unfold noUps at h
      split at h
      · rename_i x h1
        obtain ⟨r, h3, h4⟩ := evalN_sound R hρ h1
        exact val x r h4 h3 h
      · cases h
    · by_cases hm : makes o.op = true
      · rw [if_pos hm] at h
        have g := stepA_new R hρ (hfr hm).1 (hfr hm).2 hm h
        exact gives_wp g fun u w' L' k1 k2 => hk u w' L' k1 (k2.imp fun i hi => hi)
      · rw [if_neg hm] at h
        have g := stepA_old R hρ (by simpa using hm) h
        exact gives_wp g fun u w' L' k1 k2 => hk u w' L' k1 (k2.imp fun i hi => hi.elim)
  obtain ⟨dst, op, type, pos, after', guard⟩ := o
  cases op <;> simp only [gen1] at h
  case move x => exact val _ _ (hρ x) rfl h
  case assign x => exact val _ _ (hρ x) rfl h
  case pick c x y =>
    have hc := hρ c
    split at h
    · rename_i e1
      rw [e1] at hc
      simp only [VR, DR] at hc
      exact val _ _ (hρ x) (by simp [execOp, hc, asBool]) h
    · rename_i e1
      rw [e1] at hc
      simp only [VR, DR] at hc
      exact val _ _ (hρ y) (by simp [execOp, hc, asBool]) h
    · cases h
  case makeFunc fn first captured =>
    cases fn with
    | func f =>
      refine val _ _ ?_ rfl h
      simp only [VR]
      exact ⟨first.map a.eval, captured.map a.eval, rfl, by rw [Array.toList_map]; exact VRL.map _ fun x _ => hρ x, by rw [Array.toList_map]; exact VRL.map _ fun x _ => hρ x⟩
    | _ => simp only [pureOp, makes, stepA, evalN, noUps, Bool.false_eq_true, if_false, reduceCtorEq] at h
  all_goals exact rest h

/-! ### reading: few objects -/
theorem ldV_loc {agg : Bool} {sz : Nat} {v x : AV} (ag : Ag v H H') (h : ldV agg sz v H = some x) : ldV agg sz v H' = some x := by
  cases v <;> simp only [ldV] at h ⊢ <;> try exact h
  rename_i i ver e off
  cases hi : H i with
  | none => rw [hi] at h; cases h
  | some o => rw [ag i o (.inr rfl) hi]; rw [hi] at h; exact h
theorem elemsOf_loc {v : AV} {x : List (List Dat)} (ag : Ag v H H') (h : elemsOf v H = some x) : elemsOf v H' = some x := by
  cases v <;> simp only [elemsOf] at h ⊢ <;> try exact h
  · rename_i x; cases x <;> exact h
  rename_i i ver sz off len
  cases hi : H i with
  | none => rw [hi] at h; cases h
  | some o => rw [ag i o (.inr rfl) hi]; rw [hi] at h; exact h
theorem elemsA_loc {v : AV} {x : List (List AV)} (ag : Ag v H H') (h : elemsA v H = some x) : elemsA v H' = some x := by
  cases v <;> simp only [elemsA] at h ⊢ <;> try exact h
  · rename_i x; cases x <;> exact h
  rename_i i ver sz off len
  cases hi : H i with
  | none => rw [hi] at h; cases h
  | some o => rw [ag i o (.inr rfl) hi]; rw [hi] at h; exact h
theorem cvBS_loc {v x : AV} (ag : Ag v H H') (h : cvBS v H = some x) : cvBS v H' = some x := by
  unfold cvBS at h ⊢
  cases he : elemsOf v H with
  | none => rw [he] at h; cases h
  | some l => rw [elemsOf_loc ag he]; rw [he] at h; exact h
theorem cvA_loc {s t : TypeId} {v x : AV} (ag : Ag v H H') (h : cvA P s t v H = some x) : cvA P s t v H' = some x := by
  unfold cvA at h ⊢
  split at h
  · exact h
  · exact h
  · split at h
    · exact cvBS_loc ag h
    · cases h
  · cases h
theorem sliceA_loc {esz : Nat} {v x : AV} {lo hi mx : Option AV} (ag : Ag v H H') (h : sliceA esz v lo hi mx H = some x) : sliceA esz v lo hi mx H' = some x := by
  cases v <;> simp only [sliceA] at h ⊢ <;> try exact h
  · rename_i x; cases x <;> exact h
  rename_i i ver sz off len
  cases hi : H i with
  | none => rw [hi] at h; cases h
  | some o => rw [ag i o (.inr rfl) hi]; rw [hi] at h; exact h
theorem lookA_loc {z m k x : AV} {ok : Bool} (ag : Ag m H H') (h : lookA z m k ok H = some x) : lookA z m k ok H' = some x := by
  cases k <;> simp only [lookA] at h ⊢ <;> try exact h
  cases m <;> simp only at h ⊢ <;> try exact h
  rename_i i
  cases hi : H i with
  | none => rw [hi] at h; cases h
  | some o => rw [ag i o (.inr rfl) hi]; rw [hi] at h; exact h
theorem lookKA_loc {kt : TypeId} {z m k x : AV} {ok : Bool} (ag : Ag m H H') (h : lookKA P kt k (fun kk => lookA z m kk ok H) = some x) : lookKA P kt k (fun kk => lookA z m kk ok H') = some x := by
  cases k <;> simp only [lookKA] at h ⊢ <;> try exact h
  split at h
  · rename_i kd hkd
    split at h
    · rename_i hk; simp only [hk, if_true]; exact lookA_loc ag h
    · cases h
  · cases h
theorem lenMp_loc {v x : AV} (ag : Ag v H H') (h : lenMp v H = some x) : lenMp v H' = some x := by
  cases v <;> simp only [lenMp] at h ⊢ <;> try exact h
  rename_i i
  cases hi : H i with
  | none => rw [hi] at h; cases h
  | some o => rw [ag i o (.inr rfl) hi]; rw [hi] at h; exact h
theorem entA_loc {v x : AV} (ag : Agree [v, .junk] H H') (h : entA v H = some x) : entA v H' = some x := by
  have ag' : ∀ i o, H i = some o → H' i = some o := fun i o hi => ag i o ⟨.junk, by simp, .inl rfl⟩ hi
  cases v <;> simp only [entA] at h ⊢ <;> try exact h
  rename_i j
  cases hj : H j with
  | none => rw [hj] at h; cases h
  | some o =>
    rw [ag' j o hj]; rw [hj] at h
    cases o <;> simp only at h ⊢ <;> try exact h
    rename_i m since seen stepped
    cases hm : H m with
    | none => rw [hm] at h; cases h
    | some o => rw [ag' m o hm]; rw [hm] at h; exact h
theorem evalN_loc {ρ : Operand → AV} {op : Op} {x : AV} (ag : Agree (readsA ρ op) H H') (h : evalN P ρ H op = some x) : evalN P ρ H' op = some x := by
  cases op <;> simp only [evalN] at h ⊢ <;> try exact h
  case load t p =>
    split at h
    · rename_i i hi; exact ldV_loc (ag.at (by simp [readsA])) h
    · cases h
  case convert s t p => exact cvA_loc (ag.at (by simp [readsA])) h
  case entry p => exact entA_loc ag h
  case slice t p lo hi mx =>
    have a1 : Ag (ρ p) H H' := ag.at (by simp [readsA])
    split at h
    · split at h
      · split at h
        · cases h
        · split at h
          · cases h
          · rename_i h1; simp only [h1, if_false]; exact sliceA_loc a1 h
      · exact h
      · cases h
    · cases h
  case lookup t p ix ok =>
    have a1 : Ag (ρ p) H H' := ag.at (by simp [readsA])
    split at h
    · split at h
      · split at h
        · split at h
          · exact lookKA_loc a1 h
          · cases h
        · cases h
      · cases h
    · cases h
  case call c =>
    obtain ⟨callee, as, ats⟩ := c
    cases callee <;> simp only at h ⊢ <;> try exact h
    rename_i b
    cases b <;> simp only at h ⊢ <;> try exact h
    simp only [readsA] at ag
    split at h
    · rename_i y t e1 e2
      have a1 : Ag (ρ y) H H' := ag.at (by simp [e1])
      split at h
      · split at h
        · exact h
        · exact h
        · exact h
        · exact lenMp_loc a1 h
        · cases h
      · cases h
    · cases h

/-! ### writing: few objects -/
theorem upsOut : ∀ {us : Ups} {H : AHeap} {i : Nat}, (∀ o, (i, o) ∉ us) → H.sets us i = H i
  | [], H, i, _ => rfl
  | (j, o) :: us, H, i, h => by
    have h1 : j ≠ i := fun hj => h o (by simp [hj])
    simp only [AHeap.sets]
    rw [upsOut fun o' ho => h o' (by simp [ho])]
    simp [AHeap.set, Ne.symm h1]
theorem upsAt : ∀ {us : Ups} {i : Nat} {o : AObj} {H H' : AHeap}, (i, o) ∈ us → H.sets us i = H'.sets us i
  | [], i, o, H, H', h => by simp at h
  | (j, p) :: us, i, o, H, H', h => by
    simp only [AHeap.sets]
    by_cases hm : ∃ o', (i, o') ∈ us
    · obtain ⟨o', ho⟩ := hm; exact upsAt ho
    · have hm' : ∀ o', (i, o') ∉ us := fun o' ho => hm ⟨o', ho⟩
      rw [upsOut hm', upsOut hm']
      have : i = j := by simp only [List.mem_cons, Prod.mk.injEq] at h; rcases h with h | h; exact h.1; exact absurd h (hm' o)
      simp [AHeap.set, this]
/-- What an update names. -/
def UpsIn (l : List AV) (H : AHeap) (us : Ups) : Prop := ∀ i o, (i, o) ∈ us → touch l i ∧ (H i).isSome
theorem UpsIn.nil {l : List AV} : UpsIn l H [] := fun i o h => by simp at h
theorem stA_loc {sz : Nat} {p v : AV} {us : Ups} (ag : Ag p H H') (h : stA sz p v H = some us) : stA sz p v H' = some us ∧ UpsIn [p] H us := by
  cases p <;> simp only [stA] at h ⊢ <;> try (cases h; done)
  rename_i i ver e off
  cases hi : H i with
  | none => rw [hi] at h; cases h
  | some o =>
    rw [ag i o (.inr rfl) hi]; rw [hi] at h
    refine ⟨h, fun j o' hj => ?_⟩
    have : j = i := by
      split at h
      · split at h
        · split at h
          · split at h
            · simp only [Option.some.injEq] at h; subst h; simp at hj; exact hj.1
            · cases h
          · cases h
        · cases h
      · cases h
    subst this
    exact ⟨⟨_, List.mem_singleton.2 rfl, .inr rfl⟩, by rw [hi]; rfl⟩
theorem mapSetA_loc {m k v : AV} {us : Ups} (ag : Ag m H H') (h : mapSetA m k v H = some us) : mapSetA m k v H' = some us ∧ UpsIn [m] H us := by
  cases k <;> simp only [mapSetA] at h ⊢ <;> try (cases h; done)
  cases m <;> simp only at h ⊢ <;> try (cases h; done)
  rename_i kd i
  cases hi : H i with
  | none => rw [hi] at h; cases h
  | some o =>
    rw [ag i o (.inr rfl) hi]; rw [hi] at h
    refine ⟨h, fun j o' hj => ?_⟩
    have : j = i := by
      split at h
      · split at h
        · simp only [Option.some.injEq] at h; subst h; simp at hj; exact hj.1
        · simp only [Option.some.injEq] at h; subst h; simp at hj; exact hj.1
        · cases h
      · cases h
    subst this
    exact ⟨⟨_, List.mem_singleton.2 rfl, .inr rfl⟩, by rw [hi]; rfl⟩
theorem meA_loc {kt : TypeId} {z m k x : AV} {us : Ups} (ag : Ag m H H') (h : meA P kt z m k H = some (x, us)) : meA P kt z m k H' = some (x, us) ∧ UpsIn [m] H us := by
  cases k <;> simp only [meA] at h ⊢ <;> try (cases h; done)
  split at h
  · rename_i kd hkd
    split at h
    · rename_i hk
      rw [if_pos hk]
      cases m <;> simp only at h ⊢ <;> try (cases h; done)
      rename_i i
      cases hi : H i with
      | none => rw [hi] at h; cases h
      | some o =>
        rw [ag i o (.inr rfl) hi]; rw [hi] at h
        refine ⟨h, fun j o' hj => ?_⟩
        have : j = i := by
          split at h
          · split at h
            · split at h
              · simp only [Option.some.injEq, Prod.mk.injEq] at h
                obtain ⟨_, rfl⟩ := h
                simp at hj; exact hj.1
              · cases h
            · simp only [Option.some.injEq, Prod.mk.injEq] at h
              obtain ⟨_, rfl⟩ := h
              simp at hj; exact hj.1
            · cases h
          · cases h
        subst this
        exact ⟨⟨.map j, by simp, .inr rfl⟩, by rw [hi]; rfl⟩
    · cases h
  · cases h
theorem esA_loc {m s v x : AV} {us : Ups} (ag : Ag m H H') (h : esA m s v H = some (x, us)) : esA m s v H' = some (x, us) ∧ UpsIn [m] H us := by
  unfold esA at h ⊢
  split at h
  · rename_i i kk b
    split at h
    · rename_i hc
      simp only [if_pos hc]
      cases hi : H i with
      | none => rw [hi] at h; cases h
      | some o =>
        rw [ag i o (.inr rfl) hi]; rw [hi] at h
        refine ⟨h, fun j o' hj => ?_⟩
        have : j = i := by
          split at h
          · split at h
            · simp only [Option.some.injEq, Prod.mk.injEq] at h
              obtain ⟨_, rfl⟩ := h
              simp at hj; exact hj.1
            · cases h
          · cases h
        subst this
        exact ⟨⟨.map j, by simp, .inr rfl⟩, by rw [hi]; rfl⟩
    · cases h
  · cases h
theorem mapDelA_loc {m k : AV} {us : Ups} (ag : Ag m H H') (h : mapDelA m k H = some us) : mapDelA m k H' = some us ∧ UpsIn [m] H us := by
  cases k <;> simp only [mapDelA] at h ⊢ <;> try (cases h; done)
  cases m <;> simp only at h ⊢ <;> try (cases h; done)
  · simp only [Option.some.injEq] at h; subst h; exact ⟨rfl, .nil⟩
  rename_i kd i
  cases hi : H i with
  | none => rw [hi] at h; cases h
  | some o =>
    rw [ag i o (.inr rfl) hi]; rw [hi] at h
    refine ⟨h, fun j o' hj => ?_⟩
    have : j = i := by
      split at h
      · split at h
        · simp only [Option.some.injEq] at h; subst h; simp at hj; exact hj.1
        · simp only [Option.some.injEq] at h; subst h; simp at hj
        · cases h
      · cases h
    subst this
    exact ⟨⟨_, List.mem_singleton.2 rfl, .inr rfl⟩, by rw [hi]; rfl⟩
theorem clrA_loc {ei : TI} {d : AV} {us : Ups} (ag : Ag d H H') (h : clrA ei d H = some us) : clrA ei d H' = some us ∧ UpsIn [d] H us := by
  unfold clrA at h ⊢
  split at h
  · simp only [Option.some.injEq] at h; subst h; exact ⟨rfl, .nil⟩
  · simp only [Option.some.injEq] at h; subst h; exact ⟨rfl, .nil⟩
  · rename_i i ver sz off len
    split at h
    · rename_i h0
      simp only [Option.some.injEq] at h; subst h
      exact ⟨by simp [h0], .nil⟩
    · rename_i h0
      cases hi : H i with
      | none => rw [hi] at h; cases h
      | some o =>
        rw [ag i o (.inr rfl) hi]
        rw [hi] at h
        simp only [h0, if_false]
        refine ⟨h, fun j o' hj => ?_⟩
        have : j = i := by
          split at h
          · split at h
            · simp only [Option.some.injEq] at h; subst h; simp at hj; exact hj.1
            · cases h
          · cases h
        subst this
        exact ⟨⟨_, List.mem_singleton.2 rfl, .inr rfl⟩, by rw [hi]; rfl⟩
  · cases h
theorem cpyA_loc {esz : Nat} {d s v : AV} {us : Ups} (ag : Ag d H H') (ags : Ag s H H') (h : cpyA esz d s H = some (v, us)) : cpyA esz d s H' = some (v, us) ∧ UpsIn [d] H us := by
  unfold cpyA at h ⊢
  split at h
  · rename_i ys hy
    rw [elemsA_loc ags hy]
    split at h
    · rename_i hc
      simp only [hc, and_self, if_true]
      split at h
      · simp only [Option.some.injEq, Prod.mk.injEq] at h; obtain ⟨rfl, rfl⟩ := h; exact ⟨rfl, .nil⟩
      · simp only [Option.some.injEq, Prod.mk.injEq] at h; obtain ⟨rfl, rfl⟩ := h; exact ⟨rfl, .nil⟩
      · rename_i i ver sz off len
        split at h
        · rename_i h0
          simp only [Option.some.injEq, Prod.mk.injEq] at h; obtain ⟨rfl, rfl⟩ := h
          exact ⟨by simp only [h0, if_true], .nil⟩
        · rename_i h0
          cases hi : H i with
          | none => rw [hi] at h; cases h
          | some o =>
            rw [hi] at h
            simp only [h0, if_false, ag i o (.inr rfl) hi]
            refine ⟨h, fun j o' hj => ?_⟩
            have : j = i := by
              split at h
              · split at h
                · simp only [Option.some.injEq, Prod.mk.injEq] at h; obtain ⟨_, rfl⟩ := h; simp at hj; exact hj.1
                · cases h
              · cases h
            subst this
            exact ⟨⟨_, List.mem_singleton.2 rfl, .inr rfl⟩, by rw [hi]; rfl⟩
      · cases h
    · cases h
  · cases h
/-- What an update names, if it may make something. -/
def UpsNew (l : List AV) (v : AV) (n : Nat) (H : AHeap) (us : Ups) : Prop := ∀ i o, (i, o) ∈ us → (touch l i ∧ (H i).isSome) ∨ (i = n ∧ idOf v = some n)
theorem UpsIn.new {l l' : List AV} {us : Ups} (h : UpsIn l H us) (hs : ∀ v ∈ l, v ∈ l') (v : AV) (n : Nat) : UpsNew l' v n H us := fun i o hi => by
  obtain ⟨⟨x, h1, h2⟩, h3⟩ := h i o hi
  exact .inl ⟨⟨x, hs x h1, h2⟩, h3⟩
theorem appA_loc {esz bytes n : Nat} {s v : AV} {ys : List (List AV)} {us : Ups} (ag : Ag s H H') (h : appA esz bytes s ys H n = some (v, us)) : appA esz bytes s ys H' n = some (v, us) ∧ UpsNew [s] v n H us := by
  unfold appA at h ⊢
  split at h
  · refine ⟨h, fun i o hi => ?_⟩
    split at h
    · simp only [Option.some.injEq, Prod.mk.injEq] at h; obtain ⟨rfl, rfl⟩ := h; simp at hi
    · split at h
      · simp only [Option.some.injEq, Prod.mk.injEq] at h; obtain ⟨rfl, rfl⟩ := h; simp at hi; exact .inr ⟨hi.1, rfl⟩
      · cases h
  · refine ⟨h, fun i o hi => ?_⟩
    split at h
    · simp only [Option.some.injEq, Prod.mk.injEq] at h; obtain ⟨rfl, rfl⟩ := h; simp at hi
    · split at h
      · simp only [Option.some.injEq, Prod.mk.injEq] at h; obtain ⟨rfl, rfl⟩ := h; simp at hi; exact .inr ⟨hi.1, rfl⟩
      · cases h
  · rename_i i ver sz off len
    cases hi : H i with
    | none => rw [hi] at h; cases h
    | some o =>
      simp only [ag i o (.inr rfl) hi]; rw [hi] at h
      refine ⟨h, fun j o' hj => ?_⟩
      have : j = i := by
        split at h
        · split at h
          · simp only [Option.some.injEq, Prod.mk.injEq] at h; obtain ⟨rfl, rfl⟩ := h; simp at hj; exact hj.1
          · split at h
            · simp only [Option.some.injEq, Prod.mk.injEq] at h; obtain ⟨rfl, rfl⟩ := h; simp at hj; exact hj.1
            · cases h
        · cases h
      subst this
      exact .inl ⟨⟨_, List.mem_singleton.2 rfl, .inr rfl⟩, by rw [hi]; rfl⟩
  · cases h
theorem rgA_loc {m v : AV} {n : Nat} {us : Ups} (ag : Ag m H H') (h : rgA m H n = some (v, us)) : rgA m H' n = some (v, us) ∧ UpsNew [] v n H us := by
  cases m <;> simp only [rgA] at h ⊢ <;> try (cases h; done)
  · refine ⟨h, fun i o hi => ?_⟩
    simp only [Option.some.injEq, Prod.mk.injEq] at h; obtain ⟨rfl, rfl⟩ := h; simp at hi; exact .inr ⟨hi.1, rfl⟩
  rename_i i
  cases hi : H i with
  | none => rw [hi] at h; cases h
  | some o =>
    rw [ag i o (.inr rfl) hi]; rw [hi] at h
    refine ⟨h, fun j o' hj => ?_⟩
    split at h
    · simp only [Option.some.injEq, Prod.mk.injEq] at h; obtain ⟨rfl, rfl⟩ := h; simp at hj; exact .inr ⟨hj.1, rfl⟩
    · cases h

/-! ### nothing is frozen where no mutable slice lies -/
theorem frz_plain {v x : AV} {us : Ups} (hn : noRs v = true) (h : frz v H = some (x, us)) : us = [] ∧ ∀ H', frz v H' = some (x, []) := by
  cases v <;> simp only [frz, noRs, Bool.false_eq_true] at h hn ⊢ <;> (simp only [Option.some.injEq, Prod.mk.injEq] at h; obtain ⟨rfl, rfl⟩ := h; exact ⟨rfl, fun _ => rfl⟩)
theorem frzL_plain : ∀ {l x : List AV} {us : Ups} {H : AHeap}, (∀ v ∈ l, ∀ i ver sz off len, v ≠ .rs i ver sz off len) → frzL l H = some (x, us) → us = [] ∧ ∀ H', frzL l H' = some (x, [])
  | [], x, us, H, _, h => by simp only [frzL, Option.some.injEq, Prod.mk.injEq] at h; obtain ⟨rfl, rfl⟩ := h; exact ⟨rfl, fun _ => rfl⟩
  | v :: l, x, us, H, hn, h => by
    simp only [frzL] at h
    split at h
    · rename_i v' us1 h1
      have hv : ∀ w us, frz v H = some (w, us) → us = [] ∧ ∀ H', frz v H' = some (w, []) := by
        intro w us hh
        have := hn v (by simp)
        cases v <;> simp only [frz] at hh ⊢ <;> try (simp only [Option.some.injEq, Prod.mk.injEq] at hh; obtain ⟨rfl, rfl⟩ := hh; exact ⟨rfl, fun _ => rfl⟩)
        exact absurd rfl (this _ _ _ _ _)
      obtain ⟨rfl, h2⟩ := hv _ _ h1
      split at h
      · rename_i l' us2 h3
        simp only [AHeap.sets] at h3
        obtain ⟨rfl, h4⟩ := frzL_plain (fun v hv => hn v (by simp [hv])) h3
        simp only [Option.some.injEq, Prod.mk.injEq] at h
        obtain ⟨rfl, rfl⟩ := h
        refine ⟨rfl, fun H' => ?_⟩
        simp only [frzL, h2 H', AHeap.sets, h4 H', List.append_nil]
      · cases h
    · cases h
theorem noRs_agg {l : List AV} (h : noRs (.agg l) = true) : ∀ v ∈ l, ∀ i ver sz off len, v ≠ .rs i ver sz off len := by
  intro v hv i ver sz off len he
  subst he
  simp only [noRs, List.all_eq_true] at h
  exact absurd (h _ hv) (by simp)
theorem frzA_plain {v x : AV} {us : Ups} (hn : noRs v = true) (h : frzA v H = some (x, us)) : us = [] ∧ ∀ H', frzA v H' = some (x, []) := by
  cases v <;> simp only [frzA] at h ⊢
  case agg l =>
    split at h
    · rename_i l' us' h1
      obtain ⟨rfl, h2⟩ := frzL_plain (noRs_agg hn) h1
      simp only [Option.some.injEq, Prod.mk.injEq] at h
      obtain ⟨rfl, rfl⟩ := h
      exact ⟨rfl, fun H' => by simp only [h2 H']⟩
    · cases h
  all_goals exact frz_plain hn h
theorem frzAL_plain : ∀ {l x : List AV} {us : Ups} {H : AHeap}, (∀ v ∈ l, noRs v = true) → frzAL l H = some (x, us) → us = [] ∧ ∀ H', frzAL l H' = some (x, [])
  | [], x, us, H, _, h => by simp only [frzAL, Option.some.injEq, Prod.mk.injEq] at h; obtain ⟨rfl, rfl⟩ := h; exact ⟨rfl, fun _ => rfl⟩
  | v :: l, x, us, H, hn, h => by
    simp only [frzAL] at h
    split at h
    · rename_i v' us1 h1
      obtain ⟨rfl, h2⟩ := frzA_plain (hn v (by simp)) h1
      split at h
      · rename_i l' us2 h3
        simp only [AHeap.sets] at h3
        obtain ⟨rfl, h4⟩ := frzAL_plain (fun v hv => hn v (by simp [hv])) h3
        simp only [Option.some.injEq, Prod.mk.injEq] at h
        obtain ⟨rfl, rfl⟩ := h
        refine ⟨rfl, fun H' => ?_⟩
        simp only [frzAL, h2 H', AHeap.sets, h4 H', List.append_nil]
      · cases h
    · cases h
/-- Freezing turns the slices that it freezes, and nothing else. -/
theorem frzAL_loc : ∀ {l x : List AV} {us : Ups} {H H' : AHeap}, (∀ v ∈ l, ∀ c ∈ aggL v, noRs c = true) → Agree (l.map rsOf) H H' → frzAL l H = some (x, us) → frzAL l H' = some (x, us) ∧ UpsIn (l.map rsOf) H us
  | [], x, us, H, H', _, _, h => by simp only [frzAL, Option.some.injEq, Prod.mk.injEq] at h; obtain ⟨rfl, rfl⟩ := h; exact ⟨rfl, .nil⟩
  | v :: l, x, us, H, H', hn, ag, h => by
    simp only [frzAL] at h
    split at h
    · rename_i v' us1 h1
      split at h
      · rename_i l' us2 h3
        simp only [Option.some.injEq, Prod.mk.injEq] at h
        obtain ⟨rfl, rfl⟩ := h
        -- the first one
        have first : frzA v H' = some (v', us1) ∧ UpsIn [rsOf v] H us1 := by
          have plain : ∀ {w : AV}, frzA w H = some (v', us1) → (∀ i ver z o n, w ≠ .rs i ver z o n) → (∀ c ∈ aggL w, noRs c = true) → us1 = [] ∧ frzA w H' = some (v', []) := by
            intro w hw hne hc
            cases w with
            | agg cs =>
              have : noRs (.agg cs) = true := by
                simp only [noRs, List.all_eq_true]
                intro c hcm
                have := hc c (by simpa [aggL] using hcm)
                cases c <;> simp_all [noRs]
              obtain ⟨rfl, h2⟩ := frzA_plain this hw
              exact ⟨rfl, h2 H'⟩
            | rs i ver z o n => exact absurd rfl (hne _ _ _ _ _)
            | _ => obtain ⟨rfl, h2⟩ := frzA_plain rfl hw; exact ⟨rfl, h2 H'⟩
          by_cases hr : ∃ i ver z o n, v = .rs i ver z o n
          · obtain ⟨i, ver, z, o, n, rfl⟩ := hr
            simp only [frzA, frz] at h1 ⊢
            cases hi : H i with
            | none => rw [hi] at h1; cases h1
            | some ob =>
              rw [ag i ob ⟨rsOf (.rs i ver z o n), by simp, .inr rfl⟩ hi]
              rw [hi] at h1
              refine ⟨h1, fun j o' hj => ?_⟩
              have : j = i := by
                split at h1
                · split at h1
                  · split at h1
                    · split at h1
                      · simp only [Option.some.injEq, Prod.mk.injEq] at h1; obtain ⟨_, rfl⟩ := h1; simp at hj; exact hj.1
                      · cases h1
                    · cases h1
                  · cases h1
                · cases h1
              subst this
              exact ⟨⟨_, List.mem_singleton.2 rfl, .inr rfl⟩, by rw [hi]; rfl⟩
          · obtain ⟨rfl, h2⟩ := plain h1 (fun i ver z o n he => hr ⟨i, ver, z, o, n, he⟩) (hn v (by simp))
            exact ⟨h2, .nil⟩
        obtain ⟨f1, f2⟩ := first
        have ag2 : Agree (l.map rsOf) (H.sets us1) (H'.sets us1) := by
          intro i o hi ho
          by_cases hm : ∃ o', (i, o') ∈ us1
          · obtain ⟨o', hm⟩ := hm
            rw [← upsAt hm (H := H) (H' := H')]
            exact ho
          · have hm' : ∀ o', (i, o') ∉ us1 := fun o' h => hm ⟨o', h⟩
            rw [upsOut hm'] at ho ⊢
            obtain ⟨y, hy, hy2⟩ := hi
            exact ag i o ⟨y, by simp only [List.map_cons, List.mem_cons]; exact .inr hy, hy2⟩ ho
        obtain ⟨g1, g2⟩ := frzAL_loc (fun v hv => hn v (by simp [hv])) ag2 h3
        refine ⟨by simp only [frzAL, f1, g1], fun i o hi => ?_⟩
        rcases List.mem_append.1 hi with hi | hi
        · obtain ⟨⟨y, hy, hy2⟩, hs⟩ := f2 i o hi
          exact ⟨⟨y, by simp only [List.map_cons, List.mem_cons]; exact .inl (List.mem_singleton.1 hy), hy2⟩, hs⟩
        · obtain ⟨⟨y, hy, hy2⟩, hs⟩ := g2 i o hi
          refine ⟨⟨y, by simp only [List.map_cons, List.mem_cons]; exact .inr hy, hy2⟩, ?_⟩
          by_cases hm : ∃ o', (i, o') ∈ us1
          · obtain ⟨o', hm⟩ := hm; exact (f2 i o' hm).2
          · rw [upsOut fun o' h => hm ⟨o', h⟩] at hs
            exact hs
      · cases h
    · cases h
theorem noRsAA_iff : ∀ {ls : List (List AV)} {X : Prop}, noRsAA ls X ↔ (∀ l ∈ ls, ∀ v ∈ l, noRs v = true) ∧ X
  | [], X => by simp [noRsAA]
  | l :: ls, X => by
    have h1 : ∀ {l : List AV} {X : Prop}, noRsA l X ↔ (∀ v ∈ l, noRs v = true) ∧ X := by
      intro l
      induction l with
      | nil => intro X; simp [noRsA]
      | cons v l ih => intro X; simp [noRsA, ih, and_assoc]
    simp only [noRsAA, h1, noRsAA_iff (ls := ls), List.mem_cons, forall_eq_or_imp, and_assoc]
theorem noRsA_iff : ∀ {l : List AV} {X : Prop}, noRsA l X ↔ (∀ v ∈ l, noRs v = true) ∧ X
  | [], X => by simp [noRsA]
  | v :: l, X => by simp [noRsA, noRsA_iff (l := l), and_assoc]
end Go.AM

/- One operation, elsewhere: the same where the objects that it looks at are the same. -/
import Derived.Test.YtmciomkibklokaaA17
set_option autoImplicit false
set_option linter.unusedVariables false
set_option linter.unusedSimpArgs false
namespace Go.AM
open Go.RowKit Go.MapKept

variable {P : Program} {L L' : Lo} {w w' : World} {base : Nat} {H H' : AHeap}

/-- What the updates of one operation name. -/
def UpsG (mk : Bool) (l : List AV) (v : AV) (n : Nat) (H : AHeap) (us : Ups) : Prop := ∀ i o, (i, o) ∈ us → (touch l i ∧ (H i).isSome) ∨ (mk = true ∧ i = n ∧ idOf v = some n)
theorem UpsIn.g {l l' : List AV} {us : Ups} (h : UpsIn l H us) (hs : ∀ v ∈ l, v ∈ l') (mk : Bool) (v : AV) (n : Nat) : UpsG mk l' v n H us := fun i o hi => by
  obtain ⟨⟨x, h1, h2⟩, h3⟩ := h i o hi
  exact .inl ⟨⟨x, hs x h1, h2⟩, h3⟩
theorem UpsNew.g {l l' : List AV} {us : Ups} {v : AV} {n : Nat} (h : UpsNew l v n H us) (hs : ∀ v ∈ l, v ∈ l') : UpsG true l' v n H us := fun i o hi => by
  rcases h i o hi with ⟨⟨x, h1, h2⟩, h3⟩ | ⟨h1, h2⟩
  · exact .inl ⟨⟨x, hs x h1, h2⟩, h3⟩
  · exact .inr ⟨rfl, h1, h2⟩
theorem UpsG.nil {mk : Bool} {l : List AV} {v : AV} {n : Nat} : UpsG mk l v n H [] := fun i o h => by simp at h
theorem noUps_loc {ρ : Operand → AV} {op : Op} {v : AV} {us : Ups} {mk : Bool} {l : List AV} {n : Nat} (ag : Agree (readsA ρ op) H H') (h : noUps (evalN P ρ H op) = some (v, us)) :
    noUps (evalN P ρ H' op) = some (v, us) ∧ UpsG mk l v n H us := by
  unfold noUps at h
  split at h
  · rename_i x h1
    simp only [Option.some.injEq, Prod.mk.injEq] at h
    obtain ⟨rfl, rfl⟩ := h
    rw [evalN_loc ag h1]
    exact ⟨rfl, .nil⟩
  · cases h
theorem sets_nil : H.sets [] = H := rfl
theorem stoA_loc {agg : Bool} {sz n : Nat} {p v x : AV} {us : Ups} {mk : Bool} (hp : ∀ y ∈ aggL v, noRs y = true) (ag : Ag p H H') (h : stoA agg sz p v H = some (x, us)) : stoA agg sz p v H' = some (x, us) ∧ UpsG mk [p] x n H us := by
  unfold stoA at h ⊢
  split at h
  · rename_i hagg
    split at h
    · rename_i l
      split at h
      · rename_i l' us1 h1
        obtain ⟨rfl, h2⟩ := frzL_plain (fun y hy i ver sz off len he => by have := hp y hy; rw [he] at this; cases this) h1
        simp only [sets_nil] at h
        split at h
        · rename_i us2 h3
          obtain ⟨h4, h5⟩ := stA_loc ag h3
          simp only [Option.some.injEq, Prod.mk.injEq] at h
          obtain ⟨rfl, rfl⟩ := h
          simp only [hagg, if_true, h2 H', sets_nil, h4]
          exact ⟨trivial, h5.g (fun _ h => h) _ _ _⟩
        · cases h
      · cases h
    · cases h
  · rename_i hagg
    split at h
    · rename_i us2 h3
      obtain ⟨h4, h5⟩ := stA_loc ag h3
      simp only [Option.some.injEq, Prod.mk.injEq] at h
      obtain ⟨rfl, rfl⟩ := h
      simp only [if_neg hagg, h4]
      exact ⟨trivial, h5.g (fun _ h => h) _ _ _⟩
    · cases h
theorem muA_loc {kt : TypeId} {n : Nat} {m k v x : AV} {us : Ups} {mk : Bool} (hp : ∀ y ∈ aggL v, noRs y = true) (ag : Ag m H H') (h : muA P kt m k v H = some (x, us)) : muA P kt m k v H' = some (x, us) ∧ UpsG mk [m] x n H us := by
  unfold muA at h ⊢
  split at h
  · split at h
    · split at h
      · rename_i hk
        simp only [if_pos hk]
        split at h
        · split at h
          · rename_i l' us1 h1
            obtain ⟨rfl, h2⟩ := frzL_plain (fun y hy i ver sz off len he => by have := hp y hy; rw [he] at this; cases this) h1
            simp only [sets_nil] at h
            split at h
            · rename_i us2 h3
              obtain ⟨h4, h5⟩ := mapSetA_loc ag h3
              simp only [Option.some.injEq, Prod.mk.injEq] at h
              obtain ⟨rfl, rfl⟩ := h
              simp only [h2 H', sets_nil, h4]
              exact ⟨trivial, h5.g (fun _ h => h) _ _ _⟩
            · cases h
          · cases h
        · split at h
          · rename_i us2 h3
            obtain ⟨h4, h5⟩ := mapSetA_loc ag h3
            simp only [Option.some.injEq, Prod.mk.injEq] at h
            obtain ⟨rfl, rfl⟩ := h
            simp only [h4]
            exact ⟨trivial, h5.g (fun _ h => h) _ _ _⟩
          · cases h
      · cases h
    · cases h
  · cases h
theorem stepA_loc {ρ : Operand → AV} {op : Op} {n : Nat} {v : AV} {us : Ups} (hp : ∀ l ∈ plainA ρ op, ∀ x ∈ l, noRs x = true) (ag : Agree (readsA ρ op ++ writesA ρ op) H H') (h : stepA P ρ op H n = some (v, us)) :
    stepA P ρ op H' n = some (v, us) ∧ UpsG (makes op) (writesA ρ op) v n H us := by
  have ag1 : Agree (readsA ρ op) H H' := ag.sub fun v hv => List.mem_append_left _ hv
  have hno : noUps (evalN P ρ H op) = some (v, us) → noUps (evalN P ρ H' op) = some (v, us) ∧ UpsG (makes op) (writesA ρ op) v n H us := fun h => noUps_loc ag1 h
  have new : ∀ (x : AV) (o : AObj), makes op = true → idOf x = some n → some (x, [(n, o)]) = some (v, us) → UpsG (makes op) (writesA ρ op) v n H us := by
    intro x o hm hx h
    simp only [Option.some.injEq, Prod.mk.injEq] at h
    obtain ⟨rfl, rfl⟩ := h
    intro i o' hi
    simp at hi
    exact .inr ⟨hm, hi.1, hx⟩
  cases op <;> simp only [stepA] at h hno ⊢ <;> try exact hno h
  case alloc t =>
    split at h
    · exact ⟨h, new _ _ rfl rfl h⟩
    · cases h
  case box t x =>
    refine ⟨h, ?_⟩
    unfold boxA at h
    split at h
    · exact new _ _ rfl rfl h
    · cases h
  case store t p x =>
    split at h
    · exact stoA_loc (fun y hy => hp _ (by simp [plainA]) y hy) (ag.at (by simp [writesA])) h
    · cases h
  case mapEntry t m k =>
    split at h
    · split at h
      · split at h
        · split at h
          · obtain ⟨h1, h2⟩ := meA_loc (ag.at (by simp [writesA])) h
            exact ⟨h1, h2.g (fun _ h => h) _ _ _⟩
          · cases h
        · cases h
      · cases h
    · cases h
  case entryStore t m s v =>
    obtain ⟨h1, h2⟩ := esA_loc (ag.at (by simp [writesA])) h
    exact ⟨h1, h2.g (fun _ h => h) _ _ _⟩
  case build t parts =>
    have hpp : ∀ v ∈ parts.toList.map (fun p => ρ p.2), ∀ c ∈ aggL v, noRs c = true := by
      intro v hv c hc
      obtain ⟨p, hp1, rfl⟩ := List.mem_map.1 hv
      exact hp (aggL (ρ p.2)) (List.mem_map.2 ⟨p, hp1, rfl⟩) c hc
    have hmap : (parts.toList.map fun p => ρ p.2).map rsOf = writesA ρ (.build t parts) := by simp [writesA]
    have agp : Agree ((parts.toList.map fun p => ρ p.2).map rsOf) H H' := by rw [hmap]; exact ag.sub fun v hv => List.mem_append_right _ hv
    split at h
    · unfold bdA at h ⊢
      split at h
      · rename_i vs' us1 h1
        obtain ⟨h2, h2'⟩ := frzAL_loc hpp agp h1
        rw [hmap] at h2'
        split at h
        · rename_i x hx
          simp only [Option.some.injEq, Prod.mk.injEq] at h
          obtain ⟨rfl, rfl⟩ := h
          simp only [h2, hx]
          exact ⟨trivial, h2'.g (fun _ h => h) _ _ _⟩
        · cases h
      · cases h
    · cases h
  case buildSlice t len parts =>
    have hpp : ∀ v ∈ parts.toList.map (fun p => ρ p.2), ∀ c ∈ aggL v, noRs c = true := by
      intro v hv c hc
      obtain ⟨p, hp1, rfl⟩ := List.mem_map.1 hv
      exact hp (aggL (ρ p.2)) (List.mem_map.2 ⟨p, hp1, rfl⟩) c hc
    have hmap : (parts.toList.map fun p => ρ p.2).map rsOf = writesA ρ (.buildSlice t len parts) := by simp [writesA]
    have agp : Agree ((parts.toList.map fun p => ρ p.2).map rsOf) H H' := by rw [hmap]; exact ag.sub fun v hv => List.mem_append_right _ hv
    split at h
    · split at h
      · split at h
        · unfold bsA at h ⊢
          split at h
          · rename_i vs' us1 h1
            obtain ⟨h2, h2'⟩ := frzAL_loc hpp agp h1
            rw [hmap] at h2'
            split at h
            · rename_i cs hcs
              split at h
              · rename_i ds hds
                simp only [Option.some.injEq, Prod.mk.injEq] at h
                obtain ⟨rfl, rfl⟩ := h
                simp only [h2, hcs, hds]
                exact ⟨trivial, h2'.g (fun _ h => h) _ _ _⟩
              · rename_i hds
                refine ⟨by simp only [h2, hcs, hds]; exact h, ?_⟩
                simp only [Option.some.injEq, Prod.mk.injEq] at h
                obtain ⟨rfl, rfl⟩ := h
                intro i o hi
                rcases List.mem_append.1 hi with hi | hi
                · exact .inl (h2' i o hi)
                · simp at hi
                  exact .inr ⟨rfl, hi.1, rfl⟩
            · cases h
          · cases h
        · cases h
      · cases h
    · cases h
  case makeSlice t l c =>
    refine ⟨h, ?_⟩
    split at h
    · split at h
      · split at h
        · unfold mkSlA at h
          split at h
          · split at h
            · exact new _ _ rfl rfl h
            · cases h
          · cases h
        · cases h
      · cases h
    · cases h
  case makeMap t r =>
    refine ⟨h, ?_⟩
    split at h
    · exact new _ _ rfl rfl h
    · cases h
  case mapUpdate t m k x =>
    split at h
    · split at h
      · exact muA_loc (fun y hy => hp _ (by simp [plainA]) y hy) (ag.at (by simp [writesA])) h
      · cases h
    · cases h
  case insert t m k x =>
    split at h
    · split at h
      · exact muA_loc (fun y hy => hp _ (by simp [plainA]) y hy) (ag.at (by simp [writesA])) h
      · cases h
    · cases h
  case convert s t x =>
    split at h
    · split at h
      · refine ⟨h, ?_⟩
        unfold sbA at h
        split at h
        · simp only [Option.some.injEq, Prod.mk.injEq] at h
          obtain ⟨rfl, rfl⟩ := h
          exact .nil
        · cases h
      · cases h
    · exact hno h
  case range t x =>
    split at h
    · split at h
      · obtain ⟨h1, h2⟩ := rgA_loc (ag1.at (by simp [readsA])) h
        exact ⟨h1, h2.g (by simp)⟩
      · cases h
    · cases h
  case call c =>
    obtain ⟨callee, as, ats⟩ := c
    cases callee <;> simp only at h ⊢ <;> try exact hno h
    rename_i b
    cases b <;> simp only at h ⊢ <;> try exact hno h
    case append =>
      split at h
      · rename_i s x st xt e1 e2
        have as1 : Ag (ρ s) H H' := ag1.at (by simp [readsA, e1])
        have ax : Ag (ρ x) H H' := ag1.at (by simp [readsA, e1])
        have hs : ∀ y ∈ [ρ s], y ∈ writesA ρ (.call ⟨.builtin .append, as, ats⟩) := by simp [writesA, e1]
        split at h
        · split at h
          · split at h
            · split at h
              · unfold apzA at h ⊢
                split at h
                · split at h
                  · rename_i hc
                    obtain ⟨h1, h2⟩ := appA_loc as1 h
                    simp only [hc, if_true]
                    exact ⟨h1, h2.g hs⟩
                  · cases h
                · cases h
              · unfold apA at h ⊢
                split at h
                · rename_i ys hy
                  rw [elemsA_loc ax hy]
                  split at h
                  · rename_i hc
                    obtain ⟨h1, h2⟩ := appA_loc as1 h
                    simp only [hc, if_true]
                    exact ⟨h1, h2.g hs⟩
                  · cases h
                · cases h
              · cases h
            · cases h
          · cases h
        · cases h
      · cases h
    case delete =>
      split at h
      · rename_i m k mt r e1 e2
        have am : Ag (ρ m) H H' := ag.at (by simp [writesA, e1])
        have hs : ∀ y ∈ [ρ m], y ∈ writesA ρ (.call ⟨.builtin .delete, as, ats⟩) := by simp [writesA, e1]
        split at h
        · split at h
          · unfold mdA at h ⊢
            split at h
            · split at h
              · split at h
                · rename_i hk
                  split at h
                  · rename_i us' hu
                    obtain ⟨h1, h2⟩ := mapDelA_loc am hu
                    simp only [Option.some.injEq, Prod.mk.injEq] at h
                    obtain ⟨rfl, rfl⟩ := h
                    simp only [hk, if_true, h1]
                    exact ⟨trivial, h2.g hs _ _ _⟩
                  · cases h
                · cases h
              · cases h
            · cases h
          · cases h
        · cases h
      · cases h
    case clear =>
      split at h
      · rename_i x st e1 e2
        have am : Ag (ρ x) H H' := ag.at (by simp [writesA, e1])
        have hs : ∀ y ∈ [ρ x], y ∈ writesA ρ (.call ⟨.builtin .clear, as, ats⟩) := by simp [writesA, e1]
        split at h
        · split at h
          · split at h
            · unfold clA at h ⊢
              split at h
              · rename_i us' hu
                obtain ⟨h1, h2⟩ := clrA_loc am hu
                simp only [Option.some.injEq, Prod.mk.injEq] at h
                obtain ⟨rfl, rfl⟩ := h
                simp only [h1]
                exact ⟨trivial, h2.g hs _ _ _⟩
              · cases h
            · cases h
          · cases h
        · cases h
      · cases h
    case copy =>
      split at h
      · rename_i d x st xt e1 e2
        have am : Ag (ρ d) H H' := ag.at (by simp [writesA, e1])
        have ax : Ag (ρ x) H H' := ag1.at (by simp [readsA, e1])
        have hs : ∀ y ∈ [ρ d], y ∈ writesA ρ (.call ⟨.builtin .copy, as, ats⟩) := by simp [writesA, e1]
        split at h
        · split at h
          · split at h
            · obtain ⟨h1, h2⟩ := cpyA_loc am ax h
              exact ⟨h1, h2.g hs _ _ _⟩
            · cases h
          · cases h
        · cases h
      · cases h
theorem gen1_loc {ρ : Operand → AV} {op : Op} {n : Nat} {v : AV} {us : Ups} (hp : ∀ l ∈ plainA ρ op, ∀ x ∈ l, noRs x = true) (ag : Agree (readsA ρ op ++ writesA ρ op) H H') (h : gen1 P ρ op H n = some (v, us)) :
    gen1 P ρ op H' n = some (v, us) ∧ UpsG (makes op) (writesA ρ op) v n H us := by
  have ag1 : Agree (readsA ρ op) H H' := ag.sub fun v hv => List.mem_append_left _ hv
  have val : ∀ (x : AV), some (x, []) = some (v, us) → UpsG (makes op) (writesA ρ op) v n H us := by
    intro x h
    simp only [Option.some.injEq, Prod.mk.injEq] at h
    obtain ⟨rfl, rfl⟩ := h
    exact .nil
  have rest : (if pureOp P op then noUps (evalN P ρ H op) else stepA P ρ op H (if makes op then n else 0)) = some (v, us) → (if pureOp P op then noUps (evalN P ρ H' op) else stepA P ρ op H' (if makes op then n else 0)) = some (v, us) ∧ UpsG (makes op) (writesA ρ op) v n H us := by
    intro h
    split at h
    · rename_i hpu
      rw [if_pos hpu]
      exact noUps_loc ag1 h
    · rename_i hpu
      rw [if_neg hpu]
      obtain ⟨h1, h2⟩ := stepA_loc hp ag h
      refine ⟨h1, fun i o hi => ?_⟩
      rcases h2 i o hi with h3 | ⟨h3, h4, h5⟩
      · exact .inl h3
      · rw [if_pos h3] at h4 h5
        exact .inr ⟨h3, h4, h5⟩
  cases op <;> simp only [gen1] at h ⊢
  case move x => exact ⟨h, val _ h⟩
  case assign x => exact ⟨h, val _ h⟩
  case pick c x y =>
    split at h
    · exact ⟨h, val _ h⟩
    · exact ⟨h, val _ h⟩
    · cases h
  case makeFunc fn first captured =>
    cases fn with
    | func f => exact ⟨h, val _ h⟩
    | _ => exact rest h
  all_goals exact rest h

/-! ### the same operands, the same answers -/
theorem parts_congr {ρ ρ' : Operand → AV} {ps : List (Nat × Operand)} (h : ∀ x ∈ ps.map (·.2), ρ x = ρ' x) : (ps.map fun p => ρ p.2) = ps.map fun p => ρ' p.2 :=
  List.map_congr_left fun p hp => h _ (List.mem_map.2 ⟨p, hp, rfl⟩)
theorem map_congr' {ρ ρ' : Operand → AV} {l : List Operand} (h : ∀ x ∈ l, ρ x = ρ' x) : l.map ρ = l.map ρ' := List.map_congr_left h
theorem call_congr {ρ ρ' : Operand → AV} {c : Call} (h : ∀ x ∈ (Op.call c).operands, ρ x = ρ' x) : c.args.toList.map ρ = c.args.toList.map ρ' :=
  map_congr' fun x hx => h x (by simp only [Op.operands, Call.operands]; exact Array.mem_append_right _ (by simpa using hx))
theorem op_congr {ρ ρ' : Operand → AV} {op : Op} (h : ∀ x ∈ op.operands, ρ x = ρ' x) (n : Nat) :
    gen1 P ρ op H n = gen1 P ρ' op H n ∧ readsA ρ op = readsA ρ' op ∧ writesA ρ op = writesA ρ' op ∧ plainA ρ op = plainA ρ' op := by
  cases op <;> simp only [Op.operands] at h
  case call c =>
    have hm := call_congr (c := c) (ρ := ρ) (ρ' := ρ') (by simpa only [Op.operands] using h)
    obtain ⟨callee, as, ats⟩ := c
    have one : ∀ x, x ∈ as.toList → ρ x = ρ' x := fun x hx => h x (by simp only [Call.operands]; exact Array.mem_append_right _ (by simpa using hx))
    cases callee with
    | value f =>
      refine ⟨rfl, rfl, ?_, rfl⟩
      simp only [writesA]
      exact List.map_congr_left fun x hx => by rw [one x hx]
    | invoke r m => exact ⟨rfl, rfl, rfl, rfl⟩
    | builtin b =>
      refine ⟨?_, ?_, ?_, rfl⟩
      · simp only at hm
        cases b <;> simp only [gen1, pureOp, makes, stepA, evalN, if_true, if_false, Bool.false_eq_true] <;> try rfl
        case len =>
          cases hl : as.toList with
          | nil => rfl
          | cons x r => cases r with
            | nil => rcases ats.toList with _ | ⟨t, _ | ⟨t2, q⟩⟩ <;> simp only [one x (by rw [hl]; simp)]
            | cons y r => rfl
        case cap =>
          cases hl : as.toList with
          | nil => rfl
          | cons x r => cases r with
            | nil => rcases ats.toList with _ | ⟨t, _ | ⟨t2, q⟩⟩ <;> simp only [one x (by rw [hl]; simp)]
            | cons y r => rfl
        case append =>
          cases hl : as.toList with
          | nil => rfl
          | cons x r => cases r with
            | nil => rfl
            | cons y r => cases r with
              | nil => rcases ats.toList with _ | ⟨t, _ | ⟨t2, _ | ⟨t3, q⟩⟩⟩ <;> simp only [one x (by rw [hl]; simp), one y (by rw [hl]; simp)]
              | cons z r => rfl
        case delete =>
          cases hl : as.toList with
          | nil => rfl
          | cons x r => cases r with
            | nil => rfl
            | cons y r => cases r with
              | nil => rcases ats.toList with _ | ⟨t, _ | ⟨t2, _ | ⟨t3, q⟩⟩⟩ <;> simp only [one x (by rw [hl]; simp), one y (by rw [hl]; simp)]
              | cons z r => rfl
        case clear =>
          cases hl : as.toList with
          | nil => rfl
          | cons x r => cases r with
            | nil => rcases ats.toList with _ | ⟨t, _ | ⟨t2, q⟩⟩ <;> simp only [one x (by rw [hl]; simp)]
            | cons y r => rfl
        case copy =>
          cases hl : as.toList with
          | nil => rfl
          | cons x r => cases r with
            | nil => rfl
            | cons y r => cases r with
              | nil => rcases ats.toList with _ | ⟨t, _ | ⟨t2, _ | ⟨t3, q⟩⟩⟩ <;> simp only [one x (by rw [hl]; simp), one y (by rw [hl]; simp)]
              | cons z r => rfl
        all_goals rw [hm]
      · simp only at hm
        cases b <;> simp only [readsA] <;> first | rfl | exact hm
      · cases b <;> simp only [writesA] <;> first | rfl | skip
        all_goals
          cases hl : as.toList with
          | nil => rfl
          | cons x r => simp only [one x (by rw [hl]; simp)]
  case build t ps =>
    have := parts_congr (ps := ps.toList) (ρ := ρ) (ρ' := ρ') fun x hx => h x (by simpa using hx)
    have e1 : (ps.toList.map fun p => rsOf (ρ p.2)) = ps.toList.map fun p => rsOf (ρ' p.2) := by
      have := congrArg (List.map rsOf) this
      simpa using this
    have e2 : (ps.toList.map fun p => aggL (ρ p.2)) = ps.toList.map fun p => aggL (ρ' p.2) := by
      have := congrArg (List.map aggL) this
      simpa using this
    simp only [e1, e2, gen1, pureOp, stepA, readsA, writesA, plainA, Bool.false_eq_true, if_false, this, and_self]
  case buildSlice t k ps =>
    have := parts_congr (ps := ps.toList) (ρ := ρ) (ρ' := ρ') fun x hx => h x (by simpa using hx)
    have e1 : (ps.toList.map fun p => rsOf (ρ p.2)) = ps.toList.map fun p => rsOf (ρ' p.2) := by
      have := congrArg (List.map rsOf) this
      simpa using this
    have e2 : (ps.toList.map fun p => aggL (ρ p.2)) = ps.toList.map fun p => aggL (ρ' p.2) := by
      have := congrArg (List.map aggL) this
      simpa using this
    simp only [e1, e2, gen1, pureOp, stepA, readsA, writesA, plainA, Bool.false_eq_true, if_false, this, and_self]
  case makeFunc fn first captured =>
    have h1 := map_congr' (l := first.toList) (ρ := ρ) (ρ' := ρ') fun x hx => h x (by simp at hx; simp [hx])
    have h2 := map_congr' (l := captured.toList) (ρ := ρ) (ρ' := ρ') fun x hx => h x (by simp at hx; simp [hx])
    cases fn <;> simp only [gen1, pureOp, stepA, evalN, readsA, writesA, plainA, h1, h2, and_self]
  case slice t x lo hi mx =>
    have h1 := h x (by simp)
    cases lo <;> cases hi <;> cases mx <;> simp_all [gen1, pureOp, stepA, evalN, readsA, writesA, plainA]
  case makeMap t r => exact ⟨rfl, rfl, rfl, rfl⟩
  case convert t1 t2 x =>
    simp at h
    refine ⟨?_, ?_, rfl, rfl⟩
    · simp only [gen1, stepA, evalN, h]
    · simp only [readsA, h]
  all_goals
    first
      | exact ⟨rfl, rfl, rfl, rfl⟩
      | (simp at h
         simp only [gen1, pureOp, stepA, evalN, readsA, writesA, plainA, Bool.false_eq_true, if_true, if_false, h, and_self])
end Go.AM

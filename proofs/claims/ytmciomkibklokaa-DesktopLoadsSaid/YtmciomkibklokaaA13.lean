/- One step of whatever operation that is no call. -/
import Derived.Test.YtmciomkibklokaaA12
import Derived.Test.YtmciomkibklokaaA11b
set_option autoImplicit false
set_option linter.unusedVariables false
set_option linter.unusedSimpArgs false
namespace Go.AM
open Go.RowKit Go.MapKept

variable {P : Program} {L L' : Lo} {w w' : World} {base : Nat} {H H' : AHeap}

/-- What an operation tells: a value, or none. -/
def Gives (base : Nat) (P : Program) (fr : Nat → Prop) (s : Sem Next) (L : Lo) (H : AHeap) (w : World) (av : AV) (H' : AHeap) : Prop :=
  ∃ nx u w' L', s.run P w = .ok nx w' ∧ (nx = .value u ∨ (nx = .skip ∧ u = undef)) ∧ VR L' av u ∧ Nx base fr L H w L' H' w'

theorem gives_value {fr : Nat → Prop} {s : Sem Value} {av : AV} (h : ∃ r w' L', s.run P w = .ok r w' ∧ VR L' av r ∧ Nx base fr L H w L' H' w') : Gives base P fr (do pure (.value (← s))) L H w av H' := by
  obtain ⟨r, w', L', h1, h2, h3⟩ := h
  exact ⟨.value r, r, w', L', by simp [h1], .inl rfl, h2, h3⟩
theorem gives_unit {fr : Nat → Prop} {s : Sem Unit} (h : ∃ w' L', s.run P w = .ok () w' ∧ Nx base fr L H w L' H' w') : Gives base P fr (do s; pure .skip) L H w .junk H' := by
  obtain ⟨w', L', h1, h2⟩ := h
  exact ⟨.skip, undef, w', L', by simp [h1], .inr ⟨rfl, rfl⟩, by simp [VR], h2⟩
theorem parts_eq (ρ : Operand → Value) (parts : Array (Nat × Operand)) : (parts.map fun (i, x) => (i, ρ x)).toList = List.zip (parts.toList.map (·.1)) (parts.toList.map fun p => ρ p.2) := by
  rw [zip_map, Array.toList_map]
theorem stepA_new (R : Rel base L H w) {ρ : Operand → AV} {ρc : Operand → Value} (hρ : ∀ x, VR L (ρ x) (ρc x)) {o : Oper} {n : Nat} (hf : Fresh L n) (hn : H n = none) (hm : makes o.op = true) {av : AV} {us : Ups} (h : stepA P ρ o.op H n = some (av, us)) :
    Gives base P (· = n) (execOp ρc o) L H w av (H.sets us) := by
  obtain ⟨dst, op, type, pos, after', guard⟩ := o
  simp only at h hm
  cases op <;> simp only [makes, Bool.false_eq_true] at hm
  case alloc t =>
    simp only [stepA] at h
    split at h
    · rename_i i hi
      simp only [Option.some.injEq, Prod.mk.injEq] at h
      obtain ⟨rfl, rfl⟩ := h
      exact gives_value (alloc_sound hi R hf hn)
    · cases h
  case box e x => exact gives_value (box_sound R hf hn (hρ x) h)
  case buildSlice t len parts =>
    simp only [stepA] at h
    split at h
    · rename_i i hi
      split at h
      · rename_i e hk
        split at h
        · rename_i ei he
          obtain ⟨info, d, z, k⟩ := tiOf_some hi
          rw [k.k] at hk
          obtain rfl := tkOf_slice hk
          exact gives_value (bs_sound k.und he R hf hn (VRL.map (f := fun p => ρ p.2) (g := fun p => ρc p.2) parts.toList fun p _ => hρ p.2) (parts_eq ρc parts) h)
        · cases h
      · cases h
    · cases h
  case makeMap t r =>
    simp only [stepA] at h
    split at h
    · simp only [Option.some.injEq, Prod.mk.injEq] at h
      obtain ⟨rfl, rfl⟩ := h
      refine gives_value ⟨.map (some w.heap.size), w.alloc (.map #[] 0), _, ?_, ?_, Nx.newMap R ⟨rfl, rfl, rfl, rfl⟩ hf hn⟩
      · simp [Instr.makeMap]
      · simp only [VR]; exact ⟨w.heap.size, by simp [Lo.addObj], rfl⟩
    · cases h
  case makeSlice t l c =>
    simp only [stepA] at h
    split at h
    · rename_i i hi
      split at h
      · rename_i e hk
        split at h
        · rename_i ei he
          obtain ⟨info, d, z, k⟩ := tiOf_some hi
          rw [k.k] at hk
          obtain rfl := tkOf_slice hk
          exact gives_value (mkSl_sound k.und he R hf hn (hρ l) (hρ c) h)
        · cases h
      · cases h
    · cases h
  case range t x =>
    simp only [stepA] at h
    split at h
    · rename_i i hi
      split at h
      · rename_i a b hk
        obtain ⟨info, d, z, k⟩ := tiOf_some hi
        rw [k.k] at hk
        obtain rfl := tkOf_map hk
        exact gives_value (rg_sound R k.und hf hn (hρ x) h)
      · cases h
    · cases h
  case call c =>
    obtain ⟨callee, as, ats⟩ := c
    cases callee <;> simp only [Bool.false_eq_true] at hm
    rename_i bi
    cases bi <;> simp only [Bool.false_eq_true] at hm
    simp only [stepA] at h
    split at h
    · rename_i s x st xt hs ht
      have e1 : as = #[s, x] := by apply Array.ext'; simpa using hs
      have e2 : ats = #[st, xt] := by apply Array.ext'; simpa using ht
      subst e1 e2
      split at h
      · rename_i si hsi
        split at h
        · rename_i e hk
          split at h
          · rename_i ei he
            obtain ⟨info, d, z, k⟩ := tiOf_some hsi
            rw [k.k] at hk
            obtain rfl := tkOf_slice hk
            have pack : StepsTo base P (Builtin.append_ #[st, xt] type #[ρc s, ρc x]) n L H w av us → Gives base P (· = n) (execOp ρc ⟨dst, .call ⟨.builtin .append, #[s, x], #[st, xt]⟩, type, pos, after', guard⟩) L H w av (H.sets us) := by
              rintro ⟨r, w', L', h1, h2, h3⟩
              exact ⟨.value r, r, w', L', by simp [execOp, resolve, invoke, builtin, h1], .inl rfl, h2, h3⟩
            split at h
            · rename_i hxt; exact pack (apzA_sound R k.und he hxt hf hn (hρ s) (hρ x) h)
            · rename_i hxt; exact pack (apA_sound R k.und he hxt hf hn (hρ s) (hρ x) h)
            · cases h
          · cases h
        · cases h
      · cases h
    · cases h
theorem gives_noUps (R : Rel base L H w) {ρ : Operand → AV} {ρc : Operand → Value} (hρ : ∀ x, VR L (ρ x) (ρc x)) {o : Oper} {av : AV} {us : Ups} (h : noUps (evalN P ρ H o.op) = some (av, us)) : Gives base P (fun _ => False) (execOp ρc o) L H w av (H.sets us) := by
  unfold noUps at h
  split at h
  · rename_i v hv
    simp only [Option.some.injEq, Prod.mk.injEq] at h
    obtain ⟨rfl, rfl⟩ := h
    obtain ⟨r, h1, h2⟩ := evalN_sound R hρ hv
    exact ⟨.value r, r, w, L, h1, .inl rfl, h2, Nx.refl R⟩
  · cases h
theorem mu_sound {t kt e : TypeId} (R : Rel base L H w) (ht : P.underlying t = some (.map kt e)) {m k v av : AV} {um uk uv : Value} {us : Ups} (hm : VR L m um) (hk : VR L k uk) (hv : VR L v uv) (h : muA P kt m k v H = some (av, us)) :
    av = .junk ∧ ∃ w' L', (Instr.mapUpdate t um uk uv).run P w = .ok () w' ∧ Nx base (fun _ => False) L H w L' (H.sets us) w' := by
  unfold muA at h
  split at h
  · rename_i kk
    split at h
    · rename_i kd hkd
      split at h
      · rename_i hc
        obtain ⟨hok, hst⟩ := hc
        have hkd' : DR L kk uk := by simpa [VR] using hk
        split at h
        · rename_i l
          split at h
          · rename_i l' us1 hfz
            split at h
            · rename_i us2 hms
              simp only [Option.some.injEq, Prod.mk.injEq] at h
              obtain ⟨rfl, rfl⟩ := h
              have hfz' : frzA (.agg l) H = some (.agg l', us1) := by simp [frzA, hfz]
              obtain ⟨L1, g1, g2⟩ := frzA_sound R hv hfz'
              obtain ⟨w', g3, g4⟩ := mapSet_sound g2.rel ht hkd (VR.mono g2.le _ _ hm) (DR.mono g2.le _ _ hkd') hok g1 rfl hms
              exact ⟨rfl, w', L1, g3, by rw [AHeap.sets_append]; exact g2.trans g4 (fun _ h => h)⟩
            · cases h
          · cases h
        · split at h
          · rename_i us2 hms
            simp only [Option.some.injEq, Prod.mk.injEq] at h
            obtain ⟨rfl, rfl⟩ := h
            obtain ⟨w', g3, g4⟩ := mapSet_sound R ht hkd hm hkd' hok hv hst hms
            exact ⟨rfl, w', L, g3, g4⟩
          · cases h
      · cases h
    · cases h
  · cases h
theorem stepA_old (R : Rel base L H w) {ρ : Operand → AV} {ρc : Operand → Value} (hρ : ∀ x, VR L (ρ x) (ρc x)) {o : Oper} {n : Nat} (hm : makes o.op = false) {av : AV} {us : Ups} (h : stepA P ρ o.op H n = some (av, us)) :
    Gives base P (fun _ => False) (execOp ρc o) L H w av (H.sets us) := by
  have hno : noUps (evalN P ρ H o.op) = some (av, us) → Gives base P (fun _ => False) (execOp ρc o) L H w av (H.sets us) := gives_noUps R hρ
  obtain ⟨dst, op, type, pos, after', guard⟩ := o
  simp only at h hm hno
  cases op <;> simp only [makes, Bool.true_eq_false, reduceCtorEq] at hm
  case store t p v =>
    simp only [stepA] at h
    split at h
    · rename_i i hi
      unfold stoA at h
      split at h
      · split at h
        · rename_i l hv
          split at h
          · rename_i l' us1 hfz
            split at h
            · rename_i us2 hst
              simp only [Option.some.injEq, Prod.mk.injEq] at h
              obtain ⟨rfl, rfl⟩ := h
              have hv' := hρ v
              rw [hv] at hv'
              obtain ⟨L1, g1, g2⟩ := frzA_sound (v := .agg l) (v' := .agg l') (us := us1) R hv' (by simp only [frzA, hfz])
              obtain ⟨w', g3, g4⟩ := sto_sound (i := 0) (ver := 0) (fro := 0) (sz := 0) g2.rel hi (VR.mono g2.le _ _ (hρ p)) g1 hst
              exact gives_unit ⟨w', L1, g3, by rw [AHeap.sets_append]; exact g2.trans g4 (fun _ h => h)⟩
            · cases h
          · cases h
        · cases h
      · split at h
        · rename_i us2 hst
          simp only [Option.some.injEq, Prod.mk.injEq] at h
          obtain ⟨rfl, rfl⟩ := h
          obtain ⟨w', g3, g4⟩ := sto_sound (i := 0) (ver := 0) (fro := 0) (sz := 0) R hi (hρ p) (hρ v) hst
          exact gives_unit ⟨w', L, g3, g4⟩
        · cases h
    · cases h
  case build t parts =>
    simp only [stepA] at h
    split at h
    · rename_i i hi
      unfold bdA at h
      split at h
      · rename_i vs' us1 hfz
        split at h
        · rename_i v hb
          simp only [Option.some.injEq, Prod.mk.injEq] at h
          obtain ⟨rfl, rfl⟩ := h
          obtain ⟨L1, g1, g2⟩ := frzAL_sound R (VRL.map (f := fun p => ρ p.2) (g := fun p => ρc p.2) parts.toList fun p _ => hρ p.2) hfz
          obtain ⟨r, g3, g4⟩ := build_sound (P := P) (w := w) (qs := parts.map fun (i, x) => (i, ρc x)) hi (by rw [parts_eq]; exact PR.zip g1) hb
          exact gives_value ⟨r, w, L1, g3, g4, g2⟩
        · cases h
      · cases h
    · cases h
  case mapUpdate t m k v =>
    simp only [stepA] at h
    split at h
    · rename_i i hi
      split at h
      · rename_i kt e hk
        obtain ⟨info, d, z, kk⟩ := tiOf_some hi
        rw [kk.k] at hk
        obtain rfl := tkOf_map hk
        obtain ⟨rfl, g⟩ := mu_sound R kk.und (hρ m) (hρ k) (hρ v) h
        exact gives_unit g
      · cases h
    · cases h
  case insert t m k v =>
    simp only [stepA] at h
    split at h
    · rename_i i hi
      split at h
      · rename_i kt e hk
        obtain ⟨info, d, z, kk⟩ := tiOf_some hi
        rw [kk.k] at hk
        obtain rfl := tkOf_map hk
        obtain ⟨rfl, g⟩ := mu_sound R kk.und (hρ m) (hρ k) (hρ v) h
        exact gives_unit g
      · cases h
    · cases h
  case mapEntry t m k =>
    simp only [stepA] at h
    split at h
    · rename_i i hi
      split at h
      · rename_i kt e hk
        obtain ⟨info, d, z, kk⟩ := tiOf_some hi
        rw [kk.k] at hk
        obtain rfl := tkOf_map hk
        split at h
        · rename_i ei he
          split at h
          · rename_i z hz
            exact gives_value (me_sound R kk.und he hz (hρ m) (hρ k) h)
          · cases h
        · cases h
      · cases h
    · cases h
  case entryStore t m s v =>
    simp only [stepA] at h
    obtain ⟨rfl, g⟩ := es_sound (t := t) R (hρ m) (hρ s) (hρ v) h
    exact gives_unit g
  case convert s t x =>
    simp only [stepA] at h
    split at h
    · rename_i e hs ht
      split at h
      · rename_i he
        exact gives_value (sb_sound R hs ht he (hρ x) h)
      · cases h
    · exact hno h
  case call c =>
    obtain ⟨callee, as, ats⟩ := c
    simp only at hm h hno
    simp only [stepA] at h
    split at h
    · simp at hm
    · split at h
      · rename_i m k mt rest hs ht
        split at h
        · rename_i i hi
          split at h
          · rename_i kt e hk
            obtain ⟨info, d, z, kk⟩ := tiOf_some hi
            rw [kk.k] at hk
            obtain rfl := tkOf_map hk
            unfold mdA at h
            split at h
            · rename_i q hq
              split at h
              · rename_i kd hkd
                split at h
                · rename_i hok
                  split at h
                  · rename_i us2 hmd
                    simp only [Option.some.injEq, Prod.mk.injEq] at h
                    obtain ⟨rfl, rfl⟩ := h
                    have e1 : as = #[m, k] := by apply Array.ext'; simpa using hs
                    subst e1
                    have hk' := hρ k
                    rw [hq] at hk'
                    have hats : ats[0]? = some mt := by rw [← Array.getElem?_toList, ht]; rfl
                    obtain ⟨w', g1, g2⟩ := mapDel_sound (ty := type) hats R kk.und hkd (hρ m) (by simpa [VR] using hk') hok hmd
                    exact ⟨.value (.tuple #[]), .tuple #[], w', L, by simp [execOp, resolve, invoke, builtin, g1], .inl rfl, by simp only [VR]; exact ⟨_, rfl, by simp [VRL]⟩, g2⟩
                  · cases h
                · cases h
              · cases h
            · cases h
          · cases h
        · cases h
      · cases h
    · split at h
      · rename_i x st hs ht
        split at h
        · rename_i si hi
          split at h
          · rename_i e hk
            split at h
            · rename_i ei he
              unfold clA at h
              split at h
              · rename_i us2 hcl
                obtain ⟨info, d, z, kk⟩ := tiOf_some hi
                rw [kk.k] at hk
                obtain rfl := tkOf_slice hk
                simp only [Option.some.injEq, Prod.mk.injEq] at h
                obtain ⟨rfl, rfl⟩ := h
                have e1 : as = #[x] := by apply Array.ext'; simpa using hs
                have e2 : ats = #[st] := by apply Array.ext'; simpa using ht
                subst e1
                subst e2
                obtain ⟨w', g1, g2⟩ := clr_sound (ty := type) R kk.und he (hρ x) hcl
                exact ⟨.value (.tuple #[]), .tuple #[], w', L, by simp [execOp, resolve, invoke, builtin, g1], .inl rfl, by simp only [VR]; exact ⟨_, rfl, by simp [VRL]⟩, g2⟩
              · cases h
            · cases h
          · cases h
        · cases h
      · cases h
    · split at h
      · rename_i dd x st xt hs ht
        split at h
        · rename_i si hi
          split at h
          · rename_i e hk
            split at h
            · rename_i ei he
              obtain ⟨info, d, z, kk⟩ := tiOf_some hi
              rw [kk.k] at hk
              obtain rfl := tkOf_slice hk
              have e1 : as = #[dd, x] := by apply Array.ext'; simpa using hs
              have e2 : ats = #[st, xt] := by apply Array.ext'; simpa using ht
              subst e1
              subst e2
              obtain ⟨r, w', g1, g3, g2⟩ := cpy_sound (tx := xt) (ty := type) R kk.und he (hρ dd) (hρ x) h
              exact ⟨.value r, r, w', L, by simp [execOp, resolve, invoke, builtin, g1], .inl rfl, g3, g2⟩
            · cases h
          · cases h
        · cases h
      · cases h
    · exact hno h
  all_goals exact hno h
end Go.AM

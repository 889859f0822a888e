/- Look-ups, lengths, the least and the greatest; all operations that only read. -/
import Derived.Test.YtmciomkibklokaaA5
set_option autoImplicit false
set_option linter.unusedVariables false
set_option linter.unusedSimpArgs false
namespace Go.AM
open Go.RowKit Go.MapKept

variable {P : Program} {L : Lo} {w : World}

theorem keyOk_sound {d : TypeDesc} {x : Dat} {u : Value} (hx : DR L x u) (h : keyOk d x = true) : IsKey d u := by
  unfold keyOk at h
  split at h <;> first | (simp only [DR] at hx; subst hx; simp_all [IsKey]) | cases h
theorem keyEq_sound {d : TypeDesc} {x y : Dat} {u v : Value} {b : Bool} (hx : DR L x u) (hy : DR L y v) (hd : keyOk d x = true) (h : keyEq x y = some b) : Instr.sameNow d u v = some b := by
  unfold keyEq at h
  split at h
  · simp only [DR] at hx hy
    subst hx hy
    split at h
    · rename_i hk
      cases d <;> simp [keyOk] at hd
      simp only [Option.some.injEq] at h
      simp [Instr.sameNow, hk, h]
    · cases h
  · simp only [DR] at hx hy
    subst hx hy
    cases d <;> simp [keyOk] at hd
    simp only [Option.some.injEq] at h
    simp [Instr.sameNow, h]
  · simp only [DR] at hx hy
    subst hx hy
    cases d <;> simp [keyOk] at hd
    simp only [Option.some.injEq] at h
    simp [Instr.sameNow, h]
  · cases h
theorem EntR.length : ∀ {es : List MEnt} {cs : List MapEntry}, EntR L es cs → es.length = cs.length
  | [], [], _ => rfl
  | [], _ :: _, h => h.elim
  | _ :: _, [], h => h.elim
  | e :: es, c :: cs, h => by simp [EntR.length h.2.2.2.2]
theorem EntR.get : ∀ {es : List MEnt} {cs : List MapEntry}, EntR L es cs → ∀ {i : Nat} {e : MEnt}, es[i]? = some e → ∃ c, cs[i]? = some c ∧ DR L e.key c.key ∧ VR L e.val c.val ∧ e.val.storable = true ∧ e.born = c.born
  | [], [], _, i, e, h => by simp at h
  | [], _ :: _, h, _, _, _ => h.elim
  | _ :: _, [], h, _, _, _ => h.elim
  | x :: es, c :: cs, h, i, e, he => by
    cases i with
    | zero => simp at he; subst he; exact ⟨c, rfl, h.1, h.2.1, h.2.2.1, h.2.2.2.1⟩
    | succ i => simp at he; obtain ⟨c', h1, h2⟩ := EntR.get h.2.2.2.2 he; exact ⟨c', by simpa using h1, h2⟩
/-- What was found, on both sides. -/
def Found (L : Lo) : Option (Nat × AV) → Option (Nat × Value) → Prop
  | none, none => True
  | some (i, x), some (j, v) => i = j ∧ VR L x v
  | _, _ => False
theorem findE_sound {d : TypeDesc} {k : Dat} {u : Value} (hk : DR L k u) (hd : keyOk d k = true) : ∀ {es : List MEnt} {cs : List MapEntry} {i : Nat} {r : Option (Nat × AV)}, EntR L es cs → findE k es i = some r →
    ∃ r', Instr.findNow d u cs i = some r' ∧ Found L r r'
  | [], [], i, r, _, h => by simp [findE] at h; subst h; exact ⟨none, rfl, trivial⟩
  | [], _ :: _, _, _, h, _ => h.elim
  | _ :: _, [], _, _, h, _ => h.elim
  | e :: es, c :: cs, i, r, hE, h => by
    obtain ⟨h1, h2, h3, h4, h5⟩ := hE
    simp only [findE] at h
    simp only [Instr.findNow]
    split at h
    · rename_i he
      rw [keyEq_sound hk h1 hd he]
      simp only [Option.some.injEq] at h
      subst h
      exact ⟨_, rfl, rfl, h2⟩
    · rename_i he
      rw [keyEq_sound hk h1 hd he]
      exact findE_sound hk hd h5 h
    · cases h
theorem findE_lt {k : Dat} : ∀ {es : List MEnt} {i j : Nat} {v : AV}, findE k es i = some (some (j, v)) → i ≤ j ∧ j < i + es.length ∧ ∃ e, es[j - i]? = some e ∧ e.val = v ∧ keyEq k e.key = some true
  | [], i, j, v, h => by simp [findE] at h
  | e :: es, i, j, v, h => by
    simp only [findE] at h
    split at h
    · rename_i he
      simp only [Option.some.injEq, Prod.mk.injEq] at h
      obtain ⟨rfl, rfl⟩ := h
      exact ⟨Nat.le_refl _, by simp, e, by simp, rfl, he⟩
    · obtain ⟨h1, h2, e', h3, h4⟩ := findE_lt h
      refine ⟨by omega, by simp; omega, e', ?_, h4⟩
      rw [show j - i = (j - (i + 1)) + 1 by omega]
      simpa using h3
    · cases h
theorem keyEq_true {x y : Dat} (h : keyEq x y = some true) {u v : Value} (hx : DR L x u) (hy : DR L y v) : u = v := by
  unfold keyEq at h
  split at h
  · simp only [DR] at hx hy
    split at h
    · rename_i hk; simp only [Option.some.injEq, beq_iff_eq] at h; subst hx hy hk h; rfl
    · cases h
  · simp only [DR] at hx hy
    simp only [Option.some.injEq] at h
    rw [bytes_beq] at h
    subst hx hy h; rfl
  · simp only [DR] at hx hy
    simp only [Option.some.injEq, beq_iff_eq] at h
    subst hx hy h; rfl
  · cases h
theorem one_cells {v : Value} (h : one v) : v.cells = #[v] := by cases v <;> first | rfl | cases h
theorem zeroA_sound {t : TypeId} {i : TI} {z : AV} (hi : tiOf P t = some i) (h : zeroA i = some z) : ∃ v, (zeroValue t).run P w = .ok v w ∧ VR L z v := by
  obtain ⟨info, d, zv, k⟩ := tiOf_some hi
  have hz := k.zeros (L := L)
  refine ⟨zv, k.run_zero, ?_⟩
  have hagg := k.hagg
  unfold zeroA at h
  have e : i.agg = isAggD d := by rw [k.eq]
  rw [e] at h
  split at h
  · rename_i ha
    simp only [Option.some.injEq] at h
    subst h
    rw [ha] at hagg
    unfold aggOk at hagg
    split at hagg
    · simp only [VR]; exact ⟨_, rfl, hz⟩
    · simp at hagg
  · rename_i ha
    have ha' : isAggD d = false := by simpa using ha
    rw [ha'] at hagg
    split at h
    · rename_i v hv
      simp only [Option.some.injEq] at h
      subst h
      unfold aggOk at hagg
      split at hagg
      · cases hagg
      · rename_i hna
        have ho : one zv := by simpa [one] using hagg
        rw [hv, one_cells ho] at hz
        simp only [CRL] at hz
        exact hz.1
    · cases h
theorem lookA_sound {base : Nat} {H : AHeap} (R : Rel base L H w) {t kt e : TypeId} {i ei : TI} (hi : tiOf P t = some i) (hk : i.k = .map kt e) (he : tiOf P e = some ei) {z : AV} (hz : zeroA ei = some z) {x ix av : AV} {ok : Bool} {u v : Value}
    (hx : VR L x u) (hix : VR L ix v) (h : (lookKA P kt ix fun kk => lookA z x kk ok H) = some av) : ∃ r, (Instr.lookup t u v ok).run P w = .ok r w ∧ VR L av r := by
  obtain ⟨info, d, zv, k⟩ := tiOf_some hi
  rw [k.k] at hk
  obtain rfl := tkOf_map hk
  obtain ⟨zc, hz1, hz2⟩ := zeroA_sound (w := w) (L := L) he hz
  unfold lookKA at h
  split at h
  · rename_i kk
    split at h
    · rename_i kd hkd
      split at h
      · rename_i hok
        have hkd' : DR L kk v := by simpa [VR] using hix
        have hck : ∀ b, (Instr.checkKey b 10000 kt v).run P w = .ok () w := fun b => run_checkKey hkd (keyOk_sound hkd' hok) b 9999
        unfold lookA at h
        simp only at h
        split at h
        · simp only [Option.some.injEq] at h
          simp only [VR] at hx
          subst hx
          have hf : (Instr.findKey kt v []).run P w = .ok none w := run_findKey hkd rfl
          refine ⟨if ok then .tuple #[zc, .bool false] else zc, ?_, ?_⟩
          · simp [Instr.lookup, k.run_und, hck, hf, hz1]
          · subst h; cases ok
            · exact hz2
            · simp only [if_true, VR]; exact ⟨_, rfl, by simp [VRL, VR, DR, hz2]⟩
        · rename_i id
          split at h
          · rename_i es cl hH
            obtain ⟨b, ces, h1, h2, h3, h4⟩ := R.map _ _ _ hH
            simp only [VR] at hx
            obtain ⟨b', h5, rfl⟩ := hx
            rw [h1] at h5
            cases h5
            have hg : (getObj b).run P w = .ok (.map ces cl) w := MapKept.run_getObj_map h3
            have body : ∀ fr, findE kk es 0 = some fr → ∃ r', (Instr.findKey kt v ces.toList).run P w = .ok r' w ∧ Found L fr r' := by
              intro fr hfr
              obtain ⟨r', h6, h7⟩ := findE_sound hkd' hok h4 hfr
              exact ⟨r', run_findKey hkd h6, h7⟩
            split at h
            · rename_i j val hfe
              obtain ⟨r', h6, h7⟩ := body _ hfe
              cases r' with
              | none => exact h7.elim
              | some p =>
                obtain ⟨j', cv⟩ := p
                simp only [Option.some.injEq] at h
                refine ⟨if ok then .tuple #[cv, .bool true] else cv, ?_, ?_⟩
                · simp [Instr.lookup, k.run_und, hg, hck, h6]
                · subst h; cases ok
                  · exact h7.2
                  · simp only [if_true, VR]; exact ⟨_, rfl, by simp [VRL, VR, DR, h7.2]⟩
            · rename_i hfe
              obtain ⟨r', h6, h7⟩ := body _ hfe
              cases r' with
              | some p => exact h7.elim
              | none =>
                simp only [Option.some.injEq] at h
                refine ⟨if ok then .tuple #[zc, .bool false] else zc, ?_, ?_⟩
                · simp [Instr.lookup, k.run_und, hg, hck, h6, hz1]
                · subst h; cases ok
                  · exact hz2
                  · simp only [if_true, VR]; exact ⟨_, rfl, by simp [VRL, VR, DR, hz2]⟩
            · cases h
          · cases h
        · cases h
      · cases h
    · cases h
  · cases h
theorem binA_sound {op : BinOp} {t : TypeId} {xo yo : Operand} {x y av : AV} {u v : Value} (hx : VR L x u) (hy : VR L y v) (h : binA P op t x y = some av) :
    ∃ r, (do eqGuard op t xo yo u v; binOp op t u v : Sem Value).run P w = .ok r w ∧ VR L av r := by
  have hag : ∀ d, P.underlying t = some d → isAggD d = true → aggA P op t x y = some av → ∃ r, (do eqGuard op t xo yo u v; binOp op t u v : Sem Value).run P w = .ok r w ∧ VR L av r := by
    intro d hd had h
    unfold aggA at h
    split at h
    · split at h
      · rename_i hg
        split at h
        · rename_i b hb
          simp only [VR] at hx hy
          obtain ⟨cs, rfl, hcx⟩ := hx
          obtain ⟨ds, rfl, hcy⟩ := hy
          have as : ∀ c : Array Value, asV P t c.toList (.agg c) := fun c => by
            unfold asV; rw [hd]; cases d <;> simp_all [isAggD]
          have he : (Op.equal t (.agg cs) (.agg ds)).run P w = .ok b w := by
            unfold Op.equal
            exact eqT_sound _ t _ _ cs.toList ds.toList _ _ b hcx hcy (as cs) (as ds) hb
          have hgu : (eqGuard op t xo yo (.agg cs) (.agg ds)).run P w = .ok () w := by
            cases op <;> first | rfl | simp [eqGuard, hg]
          split at h <;> simp only [Option.some.injEq, reduceCtorEq] at h
          · subst h; exact ⟨.bool b, by simp [hgu, binOp, he], by simp [VR, DR]⟩
          · subst h; exact ⟨.bool (!b), by simp [hgu, binOp, he], by simp [VR, DR]⟩
        · cases h
      · cases h
    · cases h
  unfold binA at h
  split at h
  · exact intA_sound hx hy h
  · exact strA_sound hx hy h
  · rename_i hd; exact boolA_sound hd hx hy h
  · rename_i hd; exact nilA_sound (k := 0) hd ⟨_, rfl⟩ hx hy h
  · rename_i hd; exact nilA_sound (k := 1) hd ⟨_, _, rfl⟩ hx hy h
  · rename_i hd; exact nilA_sound (k := 2) hd ⟨_, _, _, rfl⟩ hx hy h
  · rename_i hd; exact nilA_sound (k := 3) hd ⟨_, rfl⟩ hx hy h
  · rename_i hd; exact hag _ hd rfl h
  · rename_i hd; exact hag _ hd rfl h
  · cases h
theorem lenSl_sound {t ty e : TypeId} {i : TI} (hi : tiOf P t = some i) (hk : i.k = .slice e) {x av : AV} {u : Value} (hx : VR L x u) (h : lenSl x = some av) :
    ∃ r, (Builtin.len_ #[t] ty #[u]).run P w = .ok r w ∧ VR L av r := by
  obtain ⟨info, d, z, k⟩ := tiOf_some hi
  rw [k.k] at hk
  obtain rfl := tkOf_slice hk
  unfold lenSl at h
  split at h <;> simp only [Option.some.injEq, reduceCtorEq] at h
  · rename_i nl l
    subst h
    simp only [VR, DR] at hx
    obtain ⟨A, cap, rfl, _⟩ := hx
    exact ⟨goInt l.length, by simp [Builtin.len_, k.run_und], by simp [VR, DR, goInt]⟩
  · rename_i l
    subst h
    simp only [VR] at hx
    obtain ⟨a, rfl, _⟩ := hx
    exact ⟨goInt l.length, by simp [Builtin.len_, k.run_und], by simp [VR, DR, goInt]⟩
  · rename_i len
    subst h
    simp only [VR] at hx
    obtain ⟨_, _, _, _, _, rfl, _⟩ := hx
    exact ⟨goInt len, by simp [Builtin.len_, k.run_und], by simp [VR, DR, goInt]⟩
theorem lenStr_sound {t ty : TypeId} {i : TI} (hi : tiOf P t = some i) (hk : i.k = .str) {x av : AV} {u : Value} (hx : VR L x u) (h : lenStr x = some av) :
    ∃ r, (Builtin.len_ #[t] ty #[u]).run P w = .ok r w ∧ VR L av r := by
  obtain ⟨info, d, z, k⟩ := tiOf_some hi
  rw [k.k] at hk
  obtain rfl := tkOf_str hk
  unfold lenStr at h
  split at h <;> simp only [Option.some.injEq, reduceCtorEq] at h
  rename_i s
  subst h
  simp only [VR, DR] at hx
  subst hx
  exact ⟨goInt s.size, by simp [Builtin.len_, k.run_und], by simp [VR, DR, goInt]⟩
theorem lenMp_sound {base : Nat} {H : AHeap} (R : Rel base L H w) {t ty a b : TypeId} {i : TI} (hi : tiOf P t = some i) (hk : i.k = .map a b) {x av : AV} {u : Value} (hx : VR L x u) (h : lenMp x H = some av) :
    ∃ r, (Builtin.len_ #[t] ty #[u]).run P w = .ok r w ∧ VR L av r := by
  obtain ⟨info, d, z, k⟩ := tiOf_some hi
  rw [k.k] at hk
  obtain rfl := tkOf_map hk
  unfold lenMp at h
  split at h
  · simp only [Option.some.injEq] at h
    subst h
    simp only [VR] at hx
    subst hx
    exact ⟨goInt (0 : Nat), by simp [Builtin.len_, k.run_und], by simp [VR, DR, goInt]⟩
  · split at h
    · rename_i es cl hH
      simp only [Option.some.injEq] at h
      subst h
      obtain ⟨b', ces, h1, h2, h3, h4⟩ := R.map _ _ _ hH
      simp only [VR] at hx
      obtain ⟨b'', h5, rfl⟩ := hx
      rw [h1] at h5
      cases h5
      refine ⟨goInt ces.size, by simp [Builtin.len_, k.run_und, MapKept.run_getObj_map h3], ?_⟩
      simp only [VR, DR, goInt]
      rw [h4.length, Array.length_toList]
    · cases h
  · cases h
theorem capA_sound {t ty e : TypeId} {i : TI} (hi : tiOf P t = some i) (hk : i.k = .slice e) {x av : AV} {u : Value} (hx : VR L x u) (h : capA x = some av) :
    ∃ r, (Builtin.cap_ #[t] ty #[u]).run P w = .ok r w ∧ VR L av r := by
  obtain ⟨info, d, z, k⟩ := tiOf_some hi
  rw [k.k] at hk
  obtain rfl := tkOf_slice hk
  unfold capA at h
  split at h <;> simp only [Option.some.injEq, reduceCtorEq] at h
  · subst h
    simp only [VR, DR] at hx
    obtain ⟨A, cap, rfl, _, h1, _⟩ := hx
    obtain ⟨rfl, rfl⟩ := h1 trivial
    exact ⟨goInt (0 : Nat), by simp [Builtin.cap_, k.run_und], by simp [VR, DR, goInt]⟩
  · rename_i l
    subst h
    simp only [VR] at hx
    obtain ⟨a, rfl, _⟩ := hx
    exact ⟨goInt l.length, by simp [Builtin.cap_, k.run_und], by simp [VR, DR, goInt]⟩
theorem nilCk_sound {ρ : Operand → Value} {o : Oper} {xo : Operand} {x av : AV} (ho : o.op = .nilCheck xo) (hx : VR L x (ρ xo)) (h : nilCkA x = some av) :
    ∃ r, (execOp ρ o).run P w = .ok (.value r) w ∧ VR L av r := by
  unfold nilCkA at h
  split at h <;> simp only [Option.some.injEq, reduceCtorEq] at h
  · subst h
    have hx' := hx
    simp only [VR] at hx
    obtain ⟨b, sz, n, c, _, hv⟩ := hx
    exact ⟨_, by simp [execOp, ho, hv]; rfl, by rw [← hv]; exact hx'⟩
  · subst h
    have hx' := hx
    simp only [VR] at hx
    obtain ⟨b, o', hv, _⟩ := hx
    exact ⟨_, by simp [execOp, ho, hv]; rfl, by rw [← hv]; exact hx'⟩
  · subst h
    have hx' := hx
    simp only [VR] at hx
    obtain ⟨a, c, hv, _⟩ := hx
    exact ⟨_, by simp [execOp, ho, hv]; rfl, by rw [← hv]; exact hx'⟩
theorem fold_none (f : AV → AV → Option AV) (l : List AV) : l.foldl (fun a y => match a with | some x => f x y | none => none) none = none := by
  induction l with
  | nil => rfl
  | cons x l ih => simpa using ih
theorem fold_sound {f : AV → AV → Option AV} {g : Value → Value → Sem Value} (hf : ∀ x y u v av, VR L x u → VR L y v → f x y = some av → ∃ r, (g u v).run P w = .ok r w ∧ VR L av r) :
    ∀ {l : List AV} {vs : List Value} {x av : AV} {u : Value}, VRL L l vs → VR L x u → l.foldl (fun a y => match a with | some x => f x y | none => none) (some x) = some av →
    ∃ r, (vs.foldlM g u).run P w = .ok r w ∧ VR L av r
  | [], [], x, av, u, _, hx, h => by simp at h; subst h; exact ⟨u, by simp, hx⟩
  | [], _ :: _, _, _, _, k, _, _ => by simp [VRL] at k
  | _ :: _, [], _, _, _, k, _, _ => by simp [VRL] at k
  | y :: l, v :: vs, x, av, u, k, hx, h => by
    simp only [VRL] at k
    simp only [List.foldl_cons] at h
    cases hxy : f x y with
    | none => rw [hxy, fold_none] at h; cases h
    | some z =>
      rw [hxy] at h
      obtain ⟨r, h1, h2⟩ := hf _ _ _ _ _ hx k.1 hxy
      obtain ⟨r', h3, h4⟩ := fold_sound hf k.2 h2 h
      exact ⟨r', by simp [h1, h3], h4⟩
theorem min2A_sound {x y av : AV} {u v : Value} (hx : VR L x u) (hy : VR L y v) (h : min2A x y = some av) : ∃ r, (Builtin.min2 u v).run P w = .ok r w ∧ VR L av r := by
  unfold min2A at h
  split at h <;> simp only [Option.some.injEq, reduceCtorEq] at h
  subst h
  simp only [VR, DR] at hx hy
  subst hx hy
  exact ⟨_, rfl, by simp [VR, DR]⟩
theorem max2A_sound {x y av : AV} {u v : Value} (hx : VR L x u) (hy : VR L y v) (h : max2A x y = some av) : ∃ r, (Builtin.max2 u v).run P w = .ok r w ∧ VR L av r := by
  unfold max2A at h
  split at h <;> simp only [Option.some.injEq, reduceCtorEq] at h
  subst h
  simp only [VR, DR] at hx hy
  subst hx hy
  exact ⟨_, rfl, by simp [VR, DR]⟩
theorem field_sound {t ft : TypeId} {i fi : TI} {fs : List (Nat × TypeId)} {f o : Nat} (hi : tiOf P t = some i) (hk : i.k = .struct fs) (hf : fs[f]? = some (o, ft)) (he : tiOf P ft = some fi) {x av : AV} {u : Value}
    (hx : VR L x u) (h : fldA fi.agg fi.size o x = some av) : ∃ r, (Instr.field t u f).run P w = .ok r w ∧ VR L av r := by
  obtain ⟨info, d, z, k⟩ := tiOf_some hi
  rw [k.k] at hk
  obtain ⟨a, rfl, rfl⟩ := tkOf_struct hk
  have hf' : ∃ fl, a[f]? = some fl ∧ fl.offset = o ∧ fl.type = ft := by
    simp only [List.getElem?_map, Option.map_eq_some_iff, Prod.mk.injEq] at hf
    obtain ⟨fl, h1, h2, h3⟩ := hf
    exact ⟨fl, by rwa [← Array.getElem?_toList], h2, h3⟩
  obtain ⟨fl, h1, rfl, rfl⟩ := hf'
  unfold fldA at h
  split at h
  · rename_i cs
    simp only [VR] at hx
    obtain ⟨vs, rfl, hc⟩ := hx
    obtain ⟨r, h2, h3⟩ := part_sound (w := w) he hc h
    exact ⟨r, by simp [Instr.field, k.run_und, h1, asAgg, h2], h3⟩
  · cases h
theorem EntR.find {b : Nat} : ∀ {es : List MEnt} {cs : List MapEntry} {e : MEnt}, EntR L es cs → es.find? (fun e => e.born == b) = some e → ∃ c, cs.find? (fun c => c.born == b) = some c ∧ DR L e.key c.key ∧ VR L e.val c.val
  | [], [], e, _, h => by simp at h
  | [], _ :: _, _, h, _ => h.elim
  | _ :: _, [], _, h, _ => h.elim
  | e :: es, c :: cs, e', h, hf => by
    rw [List.find?_cons] at hf ⊢
    rw [← h.2.2.2.1]
    by_cases hb : (e.born == b) = true
    · rw [hb] at hf ⊢
      simp only [Option.some.injEq] at hf
      subst hf
      exact ⟨c, rfl, h.1, h.2.1⟩
    · rw [Bool.not_eq_true] at hb
      rw [hb] at hf ⊢
      exact EntR.find h.2.2.2.2 hf
theorem ent_sound {base : Nat} {H : AHeap} (R : Rel base L H w) {x av : AV} {u : Value} (hx : VR L x u) (h : entA x H = some av) : ∃ r, (Instr.entry u).run P w = .ok r w ∧ VR L av r := by
  unfold entA at h
  split at h
  · rename_i j
    split at h
    · rename_i m since seen stepped hH
      split at h
      · rename_i es cl hM
        split at h
        · rename_i hcl
          split at h
          · rename_i b hb
            split at h
            · rename_i e he
              simp only [Option.some.injEq] at h
              subst h
              obtain ⟨bj, bm, h1, h2, h3, h4⟩ := R.iter _ _ _ _ _ hH
              obtain ⟨bm', ces, h5, h6, h7, h8⟩ := R.map _ _ _ hM
              rw [h2] at h5
              cases h5
              simp only [VR] at hx
              obtain ⟨b', h9, rfl⟩ := hx
              rw [h1] at h9
              cases h9
              obtain ⟨c, g1, g2, g3⟩ := EntR.find h8 he
              have g1' : ces.find? (fun c => c.born == b) = some c := by rw [← Array.find?_toList]; exact g1
              have hb' : seen.toArray.back? = some b := by rw [List.back?_toArray]; exact hb
              refine ⟨.tuple #[c.key, c.val], ?_, ?_⟩
              · subst hcl
                simp only [Instr.entry, getObj, Sem.run_bind, Sem.run, h4, h7, Result.andThen, hb', g1', bne_self_eq_false, Bool.false_eq_true, if_false]
                rfl
              · simp only [VR]
                exact ⟨_, rfl, by simp [VRL, VR, g2, g3]⟩
            · cases h
          · cases h
        · cases h
      · cases h
    · cases h
  · cases h
theorem evalN_sound {base : Nat} {H : AHeap} (R : Rel base L H w) {ρ : Operand → AV} {ρc : Operand → Value} (hρ : ∀ x, VR L (ρ x) (ρc x)) {o : Oper} {av : AV} (h : evalN P ρ H o.op = some av) :
    ∃ r, (execOp ρc o).run P w = .ok (.value r) w ∧ VR L av r := by
  obtain ⟨dst, op, type, pos, after', guard⟩ := o
  simp only at h
  have wrap : ∀ {s : Sem Value}, (∃ r, s.run P w = .ok r w ∧ VR L av r) → ∃ r, ((do pure (.value (← s)) : Sem Next)).run P w = .ok (.value r) w ∧ VR L av r := by
    rintro s ⟨r, h1, h2⟩
    exact ⟨r, by simp [h1], h2⟩
  cases op <;> simp only [evalN, reduceCtorEq] at h
  case load t x =>
    split at h
    · rename_i i hi; exact wrap (ldV_sound R hi (hρ x) h)
    · cases h
  case binOp op t x y m => exact wrap (binA_sound (hρ x) (hρ y) h)
  case unOp op t x => exact wrap (unA_sound (hρ x) h)
  case convert s t x => exact wrap (cvA_sound R (hρ x) h)
  case nilCheck x => exact nilCk_sound rfl (hρ x) h
  case entry x => exact wrap (ent_sound R (hρ x) h)
  case field t x f =>
    split at h
    · rename_i i hi
      split at h
      · rename_i fs hk
        split at h
        · rename_i o ft hf
          split at h
          · rename_i fi he; exact wrap (field_sound hi hk hf he (hρ x) h)
          · cases h
        · cases h
      · cases h
    · cases h
  case fieldAddr s x f =>
    split at h
    · rename_i i hi
      split at h
      · rename_i fs hk
        split at h
        · rename_i fo ft hf
          split at h
          · cases h
          · rename_i h0; exact wrap (fieldAddr_sound hi hk hf h0 (hρ x) h)
        · cases h
      · cases h
    · cases h
  case indexAddr t x ix =>
    split at h
    · rename_i i hi
      split at h
      · rename_i e hk
        split at h
        · cases h
        · rename_i h0; exact wrap (indexAddr_sound R hi (.inl ⟨e, hk, rfl⟩) (hρ x) (hρ ix) h h0)
      · rename_i n e hk
        split at h
        · cases h
        · rename_i h0; exact wrap (indexAddr_sound R hi (.inr ⟨n, e, hk, rfl, h0⟩) (hρ x) (hρ ix) h h0)
      · cases h
    · cases h
  case index t x ix =>
    split at h
    · rename_i i hi
      split at h
      · rename_i n e hk
        split at h
        · rename_i ei he; exact wrap (index_sound hi hk he (hρ x) (hρ ix) h)
        · cases h
      · rename_i hk; exact wrap (indexStr_sound hi hk (hρ x) (hρ ix) h)
      · cases h
    · cases h
  case extract x i => exact wrap (extract_sound (hρ x) h)
  case slice t x lo hi' mx =>
    split at h
    · rename_i i hi
      split at h
      · rename_i e hk
        split at h
        · cases h
        · rename_i hn
          split at h
          · cases h
          · rename_i h0
            refine wrap (sliceA_sound R hi hk (hρ x) (VO.map hρ lo) (VO.map hρ hi') (VO.map hρ mx) ?_ h0 h)
            intro h1 h2
            cases mx with
            | none => exact h1 rfl
            | some m => cases hi' with
              | none => exact hn _ rfl rfl
              | some _ => cases h2
      · rename_i hk
        split at h
        · exact wrap (sliceStr_sound hi hk (hρ x) (VO.map hρ lo) (VO.map hρ hi') h)
        · cases h
      · cases h
    · cases h
  case lookup t x ix ok =>
    split at h
    · rename_i i hi
      split at h
      · rename_i kt e hk
        split at h
        · rename_i ei he
          split at h
          · rename_i z hz; exact wrap (lookA_sound R hi hk he hz (hρ x) (hρ ix) h)
          · cases h
        · cases h
      · cases h
    · cases h
  case call c =>
    obtain ⟨callee, as, ats⟩ := c
    simp only at h
    split at h
    · split at h
      · rename_i x t hx ht
        have e1 : as = #[x] := by apply Array.ext'; simpa using hx
        have e2 : ats = #[t] := by apply Array.ext'; simpa using ht
        subst e1 e2
        split at h
        · rename_i i hi
          have pack : (∃ r, (Builtin.len_ #[t] type #[ρc x]).run P w = .ok r w ∧ VR L av r) → ∃ r, (execOp ρc ⟨dst, .call ⟨.builtin .len, #[x], #[t]⟩, type, pos, after', guard⟩).run P w = .ok (.value r) w ∧ VR L av r := by
            rintro ⟨r, h1, h2⟩
            exact ⟨r, by simp [execOp, resolve, invoke, builtin, h1], h2⟩
          split at h
          · rename_i n e hk
            obtain ⟨info, d, z, k⟩ := tiOf_some hi
            rw [k.k] at hk
            obtain rfl := tkOf_array hk
            simp only [Option.some.injEq] at h
            subst h
            exact pack ⟨goInt n, by simp [Builtin.len_, k.run_und], by simp [VR, DR, goInt]⟩
          · rename_i hk; exact pack (lenSl_sound hi hk (hρ x) h)
          · rename_i hk; exact pack (lenStr_sound hi hk (hρ x) h)
          · rename_i hk; exact pack (lenMp_sound R hi hk (hρ x) h)
          · cases h
        · cases h
      · cases h
    · split at h
      · rename_i x t hx ht
        have e1 : as = #[x] := by apply Array.ext'; simpa using hx
        have e2 : ats = #[t] := by apply Array.ext'; simpa using ht
        subst e1 e2
        split at h
        · rename_i i hi
          split at h
          · rename_i hk
            obtain ⟨r, h1, h2⟩ := capA_sound (P := P) (w := w) (ty := type) hi hk (hρ x) h
            exact ⟨r, by simp [execOp, resolve, invoke, builtin, h1], h2⟩
          · cases h
        · cases h
      · cases h
    · have hv : VRL L (as.toList.map ρ) (as.toList.map ρc) := VRL.map _ fun x _ => hρ x
      cases hl : as.toList with
      | nil => rw [hl] at h; cases h
      | cons x rest =>
        rw [hl] at h hv
        simp only [List.map_cons, foldA, VRL] at h hv
        obtain ⟨r, h1, h2⟩ := fold_sound (P := P) (w := w) (g := Builtin.min2) (fun _ _ _ _ _ => min2A_sound) hv.2 hv.1 h
        have e1 : as = (x :: rest).toArray := by apply Array.ext'; simpa using hl
        subst e1
        refine ⟨r, ?_, h2⟩
        simp [execOp, resolve, invoke, builtin, Builtin.min_, h1]
    · have hv : VRL L (as.toList.map ρ) (as.toList.map ρc) := VRL.map _ fun x _ => hρ x
      cases hl : as.toList with
      | nil => rw [hl] at h; cases h
      | cons x rest =>
        rw [hl] at h hv
        simp only [List.map_cons, foldA, VRL] at h hv
        obtain ⟨r, h1, h2⟩ := fold_sound (P := P) (w := w) (g := Builtin.max2) (fun _ _ _ _ _ => max2A_sound) hv.2 hv.1 h
        have e1 : as = (x :: rest).toArray := by apply Array.ext'; simpa using hl
        subst e1
        refine ⟨r, ?_, h2⟩
        simp [execOp, resolve, invoke, builtin, Builtin.max_, h1]
    · cases h
end Go.AM

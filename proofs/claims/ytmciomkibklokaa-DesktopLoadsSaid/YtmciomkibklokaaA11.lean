/- Maps, iterators, strings to bytes; one step of whatever operation that is no call. -/
import Derived.Test.YtmciomkibklokaaA10
set_option autoImplicit false
set_option linter.unusedVariables false
set_option linter.unusedSimpArgs false
namespace Go.AM
open Go.RowKit Go.MapKept

variable {P : Program} {L L' : Lo} {w w' : World} {base : Nat} {H H' : AHeap}

theorem Nx.setObj {i b : Nat} {o0 ao : AObj} {co co' : Obj} (R : Rel base L H w) (hH : H i = some o0) (hb : blk L i o0 = some b) (hc : w.heap[b]? = some co) (hnc : ∀ c t f, co ≠ .cells c t f)
    (hw : w'.heap = w.heap.setIfInBounds b co') (hos : w'.os = w.os) (htape : w'.tape = w.tape) (hout : w'.output = w.output) (hok : ObjOk base L w' i ao) (hb' : blk L i ao = some b) : Nx base (fun _ => False) L H w L (H.set i ao) w' := by
  have hother : ∀ k, k ≠ b → w'.heap[k]? = w.heap[k]? := fun k hk => by rw [hw, Array.getElem?_setIfInBounds_ne (Ne.symm hk)]
  refine Nx.change R (n := i) ⟨.refl L, ⟨by rw [hw]; simp, hos, htape, hout, fun k _ hk => hother k fun e => hk ⟨i, o0, hH, by rw [e]; exact hb⟩⟩, ?_, ?_, ?_, ?_, ?_, fun _ _ _ h => .inl h, fun _ _ h => .inl h, fun _ _ _ h => .inl h⟩
  · intro bb k v hv
    have h0 := R.imm _ _ _ hv
    have hne : bb ≠ b := by
      rintro rfl
      unfold World.cell? at h0
      rw [hc] at h0
      cases co <;> first | (simp at h0; done) | exact hnc _ _ _ rfl
    unfold World.cell? at h0 ⊢
    simp only at h0 ⊢
    rw [hother bb hne]; exact h0
  · intro j hj; simp [AHeap.set, hj]
  · intro j o bb hj ho hbb
    exact ⟨hother bb fun e => hj (R.dist _ _ _ _ _ ho hH hbb (by rw [e]; exact hb)), fun k hk => hk⟩
  · intro o ho
    simp only [AHeap.set, if_true, Option.some.injEq] at ho
    subst ho
    exact ⟨hok, fun bb hbb => .inr ⟨o0, hH, by rw [hb'] at hbb; rw [hb]; exact hbb⟩⟩
  · intro _; exact .inl (by rw [hH]; rfl)
theorem set_get {b : Nat} {co co' : Obj} (hc : w.heap[b]? = some co) (hw : w'.heap = w.heap.setIfInBounds b co') : w'.heap[b]? = some co' := by
  have hlt : b < w.heap.size := (Array.getElem?_eq_some_iff.1 hc).1
  rw [hw]; simp [hlt]
theorem sameBits_key {d : TypeDesc} {v : Value} (h : IsKey d v) : Instr.sameBits 10000 v v = true := by
  cases d <;> cases v <;> simp_all [IsKey, Instr.sameBits]
  rw [bytes_beq]
theorem EntR.modify {f : MEnt → MEnt} {g : MapEntry → MapEntry} (hfg : ∀ e c, DR L e.key c.key → VR L e.val c.val → e.val.storable = true → e.born = c.born → DR L (f e).key (g c).key ∧ VR L (f e).val (g c).val ∧ (f e).val.storable = true ∧ (f e).born = (g c).born) :
    ∀ {es : List MEnt} {cs : List MapEntry} (j : Nat), EntR L es cs → EntR L (es.modify j f) (cs.modify j g)
  | [], [], j, _ => by cases j <;> simp [EntR, List.modify, List.modifyTailIdx, List.modifyTailIdx.go]
  | [], _ :: _, _, h => h.elim
  | _ :: _, [], _, h => h.elim
  | e :: es, c :: cs, 0, h => by
    simp only [List.modify_zero_cons, EntR]
    obtain ⟨h1, h2, h3, h4⟩ := hfg e c h.1 h.2.1 h.2.2.1 h.2.2.2.1
    exact ⟨h1, h2, h3, h4, h.2.2.2.2⟩
  | e :: es, c :: cs, j + 1, h => by
    simp only [List.modify_succ_cons, EntR]
    exact ⟨h.1, h.2.1, h.2.2.1, h.2.2.2.1, EntR.modify hfg j h.2.2.2.2⟩
theorem EntR.app : ∀ {es : List MEnt} {cs : List MapEntry} {es' : List MEnt} {cs' : List MapEntry}, EntR L es cs → EntR L es' cs' → EntR L (es ++ es') (cs ++ cs')
  | [], [], _, _, _, h => by simpa using h
  | [], _ :: _, _, _, h, _ => h.elim
  | _ :: _, [], _, _, h, _ => h.elim
  | e :: es, c :: cs, _, _, h, k => ⟨h.1, h.2.1, h.2.2.1, h.2.2.2.1, h.2.2.2.2.app k⟩
theorem EntR.erase : ∀ {es : List MEnt} {cs : List MapEntry} (j : Nat), EntR L es cs → EntR L (es.eraseIdx j) (cs.eraseIdx j)
  | [], [], _, _ => by simp [EntR]
  | [], _ :: _, _, h => h.elim
  | _ :: _, [], _, h => h.elim
  | e :: es, c :: cs, 0, h => h.2.2.2.2
  | e :: es, c :: cs, j + 1, h => ⟨h.1, h.2.1, h.2.2.1, h.2.2.2.1, h.2.2.2.2.erase j⟩
theorem mapSet_sound {t kt e : TypeId} {kd : TypeDesc} (R : Rel base L H w) (ht : P.underlying t = some (.map kt e)) (hkd : P.underlying kt = some kd) {m v : AV} {kk : Dat} {us : Ups} {um uk uv : Value} (hm : VR L m um) (hk : DR L kk uk) (hok : keyOk kd kk = true)
    (hv : VR L v uv) (hst : v.storable = true) (h : mapSetA m (.d kk) v H = some us) : ∃ w', (Instr.mapUpdate t um uk uv).run P w = .ok () w' ∧ Nx base (fun _ => False) L H w L (H.sets us) w' := by
  have hck : ∀ w : World, (Instr.checkKey false 10000 kt uk).run P w = .ok () w := fun w => run_checkKey hkd (keyOk_sound hk hok) false 9999
  unfold mapSetA at h
  simp only at h
  split at h
  · rename_i i
    split at h
    · rename_i es cl hH
      obtain ⟨b, ces, h1, h2, h3, h4⟩ := R.map _ _ _ hH
      simp only [VR] at hm
      obtain ⟨b', h5, rfl⟩ := hm
      rw [h1] at h5
      cases h5
      have hb : blk L i (.map es cl) = some b := h1
      have hg : (getObj b).run P w = .ok (.map ces cl) w := MapKept.run_getObj_map h3
      split at h
      · rename_i j val hf
        simp only [Option.some.injEq] at h
        subst h
        obtain ⟨r', g1, g2⟩ := findE_sound hk hok h4 hf
        obtain ⟨g3, g4, e0, g5, g6, g7⟩ := findE_lt hf
        cases r' with
        | none => exact g2.elim
        | some p =>
          obtain ⟨j', cv⟩ := p
          obtain ⟨rfl, _⟩ := g2
          obtain ⟨c0, g8, g9, _⟩ := h4.get g5
          simp only [Nat.sub_zero] at g8
          have hce : ces[j]? = some c0 := by rw [← Array.getElem?_toList]; exact g8
          have hkeq : c0.key = uk := (keyEq_true g7 hk g9).symm
          have hsb : Instr.sameBits 10000 c0.key uk = true := by rw [hkeq]; exact sameBits_key (keyOk_sound hk hok)
          have hfk : (Instr.findKey kt uk ces.toList).run P w = .ok (some (j, cv)) w := run_findKey hkd g1
          refine ⟨{ w with heap := w.heap.setIfInBounds b (.map (ces.modify j fun e => { e with key := uk, val := uv }) cl) }, ?_, Nx.setObj R hH hb h3 (fun _ _ _ h => by cases h) rfl rfl rfl rfl ⟨b, _, h1, h2, set_get h3 rfl, ?_⟩ h1⟩
          · simp [Instr.mapUpdate, run_underlying ht, hg, hck, hfk, Instr.keyThatStays, hce, hsb, run_setObj_map _ h3]
          · rw [Array.toList_modify]
            exact EntR.modify (f := fun e => { e with key := kk, val := v }) (g := fun e => { e with key := uk, val := uv }) (fun e c k1 k2 k3 k4 => ⟨hk, hv, hst, k4⟩) j h4
      · rename_i hf
        simp only [Option.some.injEq] at h
        subst h
        obtain ⟨r', g1, g2⟩ := findE_sound hk hok h4 hf
        cases r' with
        | some p => exact g2.elim
        | none =>
          have hfk : (Instr.findKey kt uk ces.toList).run P w = .ok none w := run_findKey hkd g1
          refine ⟨{ w with heap := w.heap.setIfInBounds b (.map (ces.push { key := uk, val := uv, born := cl }) (cl + 1)) }, ?_, Nx.setObj R hH hb h3 (fun _ _ _ h => by cases h) rfl rfl rfl rfl ⟨b, _, h1, h2, set_get h3 rfl, ?_⟩ h1⟩
          · simp [Instr.mapUpdate, run_underlying ht, hg, hck, hfk, run_setObj_map _ h3]
          · rw [Array.toList_push]
            exact h4.app ⟨hk, hv, hst, rfl, trivial⟩
      · cases h
    · cases h
  · cases h
theorem EntR.findIdx {b : Int} : ∀ {es : List MEnt} {cs : List MapEntry}, EntR L es cs → cs.findIdx? (fun c => (c.born : Int) == b) = es.findIdx? (fun e => decide ((e.born : Int) = b))
  | [], [], _ => rfl
  | [], _ :: _, h => h.elim
  | _ :: _, [], h => h.elim
  | e :: es, c :: cs, h => by
    rw [List.findIdx?_cons, List.findIdx?_cons, ← h.2.2.2.1, EntR.findIdx h.2.2.2.2]
    by_cases hb : (e.born : Int) = b
    · simp [hb]
    · simp [hb]
theorem me_sound {t kt e : TypeId} {ei : TI} (R : Rel base L H w) (ht : P.underlying t = some (.map kt e)) (he : tiOf P e = some ei) {z m k av : AV} {us : Ups} {um uk : Value} (hz : zeroA ei = some z) (hm : VR L m um) (hk : VR L k uk)
    (h : meA P kt z m k H = some (av, us)) : ∃ r w' L', (Instr.mapEntry t um uk).run P w = .ok r w' ∧ VR L' av r ∧ Nx base (fun _ => False) L H w L' (H.sets us) w' := by
  unfold meA at h
  split at h
  · rename_i kk
    split at h
    · rename_i kd hkd
      split at h
      · rename_i hok
        obtain ⟨hok, hzs⟩ := hok
        have hk : DR L kk uk := by simpa [VR] using hk
        have hck : ∀ w : World, (Instr.checkKey false 10000 kt uk).run P w = .ok () w := fun w => run_checkKey hkd (keyOk_sound hk hok) false 9999
        split at h
        · rename_i i
          split at h
          · rename_i es cl hH
            obtain ⟨b, ces, h1, h2, h3, h4⟩ := R.map _ _ _ hH
            simp only [VR] at hm
            obtain ⟨b', h5, rfl⟩ := hm
            rw [h1] at h5
            cases h5
            have hb : blk L i (.map es cl) = some b := h1
            have hg : (getObj b).run P w = .ok (.map ces cl) w := MapKept.run_getObj_map h3
            split at h
            · rename_i j val hf
              split at h
              · rename_i e1 he1
                simp only [Option.some.injEq, Prod.mk.injEq] at h
                obtain ⟨rfl, rfl⟩ := h
                obtain ⟨r', g1, g2⟩ := findE_sound hk hok h4 hf
                obtain ⟨g3, g4, e0, g5, g6, g7⟩ := findE_lt hf
                cases r' with
                | none => exact g2.elim
                | some p =>
                  obtain ⟨j', cv⟩ := p
                  obtain ⟨rfl, hcv⟩ := g2
                  simp only [Nat.sub_zero] at g5
                  rw [he1] at g5
                  cases g5
                  obtain ⟨c0, g8, g9, _, _, g10⟩ := h4.get he1
                  have hce : ces[j]? = some c0 := by rw [← Array.getElem?_toList]; exact g8
                  have hkeq : c0.key = uk := (keyEq_true g7 hk g9).symm
                  have hsb : Instr.sameBits 10000 c0.key uk = true := by rw [hkeq]; exact sameBits_key (keyOk_sound hk hok)
                  have hfk : (Instr.findKey kt uk ces.toList).run P w = .ok (some (j, cv)) w := run_findKey hkd g1
                  refine ⟨.tuple #[cv, goInt c0.born], { w with heap := w.heap.setIfInBounds b (.map (ces.modify j fun e => { e with key := uk }) cl) }, L, ?_, ?_, Nx.setObj R hH hb h3 (fun _ _ _ h => by cases h) rfl rfl rfl rfl ⟨b, _, h1, h2, set_get h3 rfl, ?_⟩ h1⟩
                  · simp [Instr.mapEntry, run_underlying ht, hg, hck, hfk, Instr.keyThatStays, hce, hsb, run_setObj_map _ h3]
                  · simp only [VR]
                    exact ⟨_, rfl, by simp [VRL, VR, DR, hcv, g10, goInt]⟩
                  · rw [Array.toList_modify]
                    exact EntR.modify (f := fun e => { e with key := kk }) (g := fun e => { e with key := uk }) (fun e c k1 k2 k3 k4 => ⟨hk, k2, k3, k4⟩) j h4
              · cases h
            · rename_i hf
              simp only [Option.some.injEq, Prod.mk.injEq] at h
              obtain ⟨rfl, rfl⟩ := h
              obtain ⟨r', g1, g2⟩ := findE_sound hk hok h4 hf
              cases r' with
              | some p => exact g2.elim
              | none =>
                have hfk : (Instr.findKey kt uk ces.toList).run P w = .ok none w := run_findKey hkd g1
                obtain ⟨z0, hz1, hz2⟩ := zeroA_sound (w := w) (L := L) he hz
                refine ⟨.tuple #[z0, goInt cl], { w with heap := w.heap.setIfInBounds b (.map (ces.push { key := uk, val := z0, born := cl }) (cl + 1)) }, L, ?_, ?_, Nx.setObj R hH hb h3 (fun _ _ _ h => by cases h) rfl rfl rfl rfl ⟨b, _, h1, h2, set_get h3 rfl, ?_⟩ h1⟩
                · simp [Instr.mapEntry, run_underlying ht, hg, hck, hfk, hz1, run_setObj_map _ h3]
                · simp only [VR]
                  exact ⟨_, rfl, by simp [VRL, VR, DR, hz2, goInt]⟩
                · rw [Array.toList_push]
                  exact h4.app ⟨hk, hz2, hzs, rfl, trivial⟩
            · cases h
          · cases h
        · cases h
      · cases h
    · cases h
  · cases h
theorem es_sound {t : TypeId} (R : Rel base L H w) {m s v av : AV} {us : Ups} {um uS uv : Value} (hm : VR L m um) (hs : VR L s uS) (hv : VR L v uv)
    (h : esA m s v H = some (av, us)) : av = .junk ∧ ∃ w' L', (Instr.entryStore t um uS uv).run P w = .ok () w' ∧ Nx base (fun _ => False) L H w L' (H.sets us) w' := by
  unfold esA at h
  split at h
  · rename_i i kk bn
    split at h
    · rename_i hst
      split at h
      · rename_i es cl hH
        split at h
        · rename_i j hj
          simp only [Option.some.injEq, Prod.mk.injEq] at h
          obtain ⟨rfl, rfl⟩ := h
          obtain ⟨b, ces, h1, h2, h3, h4⟩ := R.map _ _ _ hH
          simp only [VR] at hm
          obtain ⟨b', h5, rfl⟩ := hm
          rw [h1] at h5
          cases h5
          simp only [VR, DR] at hs
          subst hs
          have hb : blk L i (.map es cl) = some b := h1
          have hg : (getObj b).run P w = .ok (.map ces cl) w := MapKept.run_getObj_map h3
          have hfi : ces.findIdx? (fun c => (c.born : Int) == bn) = some j := by
            obtain ⟨cl0⟩ := ces; rw [List.findIdx?_toArray]; exact h4.findIdx.trans hj
          refine ⟨rfl, { w with heap := w.heap.setIfInBounds b (.map (ces.modify j fun e => { e with val := uv }) cl) }, L, ?_, Nx.setObj R hH hb h3 (fun _ _ _ h => by cases h) rfl rfl rfl rfl ⟨b, _, h1, h2, set_get h3 rfl, ?_⟩ h1⟩
          · simp [Instr.entryStore, hg, asInt, asIntOf, hfi, run_setObj_map _ h3]
          · rw [Array.toList_modify]
            exact EntR.modify (f := fun e => { e with val := v }) (g := fun e => { e with val := uv }) (fun e c k1 k2 k3 k4 => ⟨k1, hv, hst.1, k4⟩) j h4
        · cases h
      · cases h
    · cases h
  · cases h
theorem mapDel_sound {t kt e ty : TypeId} {kd : TypeDesc} {ats : Array TypeId} (hats : ats[0]? = some t) (R : Rel base L H w) (ht : P.underlying t = some (.map kt e)) (hkd : P.underlying kt = some kd) {m : AV} {kk : Dat} {us : Ups} {um uk : Value} (hm : VR L m um) (hk : DR L kk uk) (hok : keyOk kd kk = true)
    (h : mapDelA m (.d kk) H = some us) : ∃ w', (Builtin.delete_ ats ty #[um, uk]).run P w = .ok (.tuple #[]) w' ∧ Nx base (fun _ => False) L H w L (H.sets us) w' := by
  have hck : ∀ (q : Bool) (w : World), (Instr.checkKey q 10000 kt uk).run P w = .ok () w := fun q w => run_checkKey hkd (keyOk_sound hk hok) q 9999
  unfold mapDelA at h
  simp only at h
  split at h
  · simp only [Option.some.injEq] at h
    subst h
    simp only [VR] at hm
    subst hm
    exact ⟨w, by simp [Builtin.delete_, hats, run_underlying ht, hck], Nx.refl R⟩
  · rename_i i
    split at h
    · rename_i es cl hH
      obtain ⟨b, ces, h1, h2, h3, h4⟩ := R.map _ _ _ hH
      simp only [VR] at hm
      obtain ⟨b', h5, rfl⟩ := hm
      rw [h1] at h5
      cases h5
      have hb : blk L i (.map es cl) = some b := h1
      have hg : (getObj b).run P w = .ok (.map ces cl) w := MapKept.run_getObj_map h3
      split at h
      · rename_i j val hf
        simp only [Option.some.injEq] at h
        subst h
        obtain ⟨r', g1, g2⟩ := findE_sound hk hok h4 hf
        obtain ⟨_, g4, _⟩ := findE_lt hf
        cases r' with
        | none => exact g2.elim
        | some p =>
          obtain ⟨j', cv⟩ := p
          obtain ⟨rfl, _⟩ := g2
          have hfk : (Instr.findKey kt uk ces.toList).run P w = .ok (some (j, cv)) w := run_findKey hkd g1
          have hjl : j < ces.size := by rw [← Array.length_toList, ← h4.length]; omega
          refine ⟨{ w with heap := w.heap.setIfInBounds b (.map (ces.eraseIdxIfInBounds j) cl) }, ?_, Nx.setObj R hH hb h3 (fun _ _ _ h => by cases h) rfl rfl rfl rfl ⟨b, _, h1, h2, set_get h3 rfl, ?_⟩ h1⟩
          · simp [Builtin.delete_, hats, run_underlying ht, hg, hck, hfk, run_setObj_map _ h3]
          · unfold Array.eraseIdxIfInBounds
            rw [dif_pos hjl, Array.toList_eraseIdx]
            exact h4.erase j
      · rename_i hf
        simp only [Option.some.injEq] at h
        subst h
        obtain ⟨r', g1, g2⟩ := findE_sound hk hok h4 hf
        cases r' with
        | some p => exact g2.elim
        | none =>
          have hfk : (Instr.findKey kt uk ces.toList).run P w = .ok none w := run_findKey hkd g1
          have hsame : w.heap.setIfInBounds b (.map ces cl) = w.heap := by
            apply Array.ext_getElem?
            intro k
            rw [Array.getElem?_setIfInBounds]
            split
            · rename_i e; subst e
              split
              · exact h3.symm
              · rename_i hn; have := (Array.getElem?_eq_some_iff.1 h3).1; exact absurd this hn
            · rfl
          refine ⟨w, ?_, Nx.refl R⟩
          simp [Builtin.delete_, hats, run_underlying ht, hg, hck, hfk, run_setObj_map _ h3, hsame]
      · cases h
    · cases h
  · cases h
theorem sb_sound {s t e : TypeId} (R : Rel base L H w) (hs : P.underlying s = some .string) (ht : P.underlying t = some (.slice e)) (he : P.underlying e = some (.int .u8)) {x av : AV} {us : Ups} {u : Value} (hx : VR L x u) (h : sbA x = some (av, us)) :
    ∃ r w' L', (convert s t u).run P w = .ok r w' ∧ VR L' av r ∧ Nx base (fun _ => False) L H w L' (H.sets us) w' := by
  unfold sbA at h
  split at h
  · rename_i b
    simp only [Option.some.injEq, Prod.mk.injEq] at h
    obtain ⟨rfl, rfl⟩ := h
    simp only [VR, DR] at hx
    subst hx
    let g := grownCap w b.size 0 e
    let cells : Array Value := (b.data.map fun c => Value.int .u8 c.toNat) ++ Array.replicate (g - b.size) (.int .u8 0)
    let o : Obj := .cells cells e (cells.size, cells.size + 1)
    let w1 : World := (w.drew.alloc (.cells cells e (0, 0)))
    have hpush : (w1.freeze ⟨w.heap.size, cells.size, none⟩ 1).heap = w.heap.push o := by
      unfold World.freeze
      rw [if_neg (by decide)]
      have hw1 : w1.heap = w.heap.push (.cells cells e (0, 0)) := rfl
      simp only
      rw [hw1]
      apply Array.ext_getElem?
      intro k
      rw [Array.getElem?_modify, Array.getElem?_push, Array.getElem?_push]
      by_cases hk : w.heap.size = k
      · rw [if_pos hk, if_pos hk.symm, if_pos hk.symm]; rfl
      · rw [if_neg hk, if_neg (Ne.symm hk), if_neg (Ne.symm hk)]
    have hp : Pushed w (w1.freeze ⟨w.heap.size, cells.size, none⟩ 1) o := ⟨hpush, rfl, rfl, rfl⟩
    have hge : b.size ≤ g := grownCap_ge w b.size 0 e
    have n2 := Nx.newImm (p := fun k => cells[k]?) R hp (fun k v hv => by simp only [World.cell?, hp.get]; exact hv)
    refine ⟨.slice (some ⟨w.heap.size, 0, none⟩) b.size g, w1.freeze ⟨w.heap.size, cells.size, none⟩ 1, _, ?_, ?_, n2⟩
    · have hsh : w1.shape? w.heap.size = some (e, cells.size) := by
        have : w1.heap[w.heap.size]? = some (.cells cells e (0, 0)) := by show (w.heap.push _)[_]? = _; simp
        simp [World.shape?, this]
      have hch : (choose (.appendCap b.size 0 e)).run P w = .ok g w.drew := by simp [choose, Sem.run, Question.forced]; rfl
      have hne : (newObj (.cells cells e (0, 0))).run P w.drew = .ok w.heap.size w1 := rfl
      have hms : (markStringish ⟨w.heap.size, 0, none⟩).run P w1 = .ok () (w1.freeze ⟨w.heap.size, cells.size, none⟩ 1) := by simp [markStringish, hsh]
      have hnr : (newRow e cells).run P w.drew = .ok ⟨w.heap.size, 0, none⟩ w1 := by simp [newRow]; rfl
      have hcv : (convert s t (.string b)).run P w = (Conv.stringToBytes e b).run P w := by simp [convert, run_underlying hs, run_underlying ht, run_underlying he]
      rw [hcv]
      unfold Conv.stringToBytes
      simp only [Sem.run_bind, hch, Result.andThen_ok]
      show ((newRow e cells).run P w.drew).andThen _ = _
      simp only [hnr, Result.andThen_ok, hms]
      rfl
    · have hlen : (datsOfStr b).length = b.size := by simp [datsOfStr]
      simp only [VR, DR]
      refine ⟨some ⟨w.heap.size, 0, none⟩, g, by rw [hlen], by rw [hlen]; exact hge, (fun h => by cases h), fun _ => ⟨_, rfl, .inr ⟨rfl, 1, DRE_of fun q c hc => ?_⟩⟩⟩
      unfold datsOfStr at hc
      simp only [List.getElem?_map, Option.map_eq_some_iff] at hc
      obtain ⟨y, hy, rfl⟩ := hc
      refine ⟨rfl, DRC_of fun j z hz => ?_⟩
      cases j with
      | succ j => simp at hz
      | zero =>
        simp at hz
        subst hz
        refine ⟨.int .u8 y.toNat, ?_, by simp [DR]⟩
        have hq : q < b.data.size := by have := (List.getElem?_eq_some_iff.1 hy).1; simpa using this
        have hcell : cells[q]? = some (.int .u8 y.toNat) := by
          have hy' : b.data[q]? = some y := by rw [← Array.getElem?_toList]; exact hy
          simp only [cells]
          rw [Array.getElem?_append_left (by simpa using hq)]
          simp [hy']
        simp only [Lo.addImm, free_new R]
        simp only [if_true, Nat.zero_add, Nat.mul_one, Nat.add_zero]
        exact hcell
  · cases h
theorem rg_sound {t a b : TypeId} (R : Rel base L H w) (ht : P.underlying t = some (.map a b)) {nm : Nat} (hf : Fresh L nm) (hHn : H nm = none) {x av : AV} {us : Ups} {u : Value} (hx : VR L x u) (h : rgA x H nm = some (av, us)) :
    StepsTo base P (Instr.range t u) nm L H w av us := by
  unfold rgA at h
  split at h
  · simp only [Option.some.injEq, Prod.mk.injEq] at h
    obtain ⟨rfl, rfl⟩ := h
    simp only [VR] at hx
    subst hx
    refine ⟨.pointer (some ⟨w.heap.size, 0, none⟩), w.alloc (.mapIter none 0 #[] 0), _, ?_, ?_, Nx.newIter0 R ⟨rfl, rfl, rfl, rfl⟩ hf hHn⟩
    · simp [Instr.range, run_underlying ht]
    · simp only [VR]; exact ⟨w.heap.size, by simp [Lo.addObj], rfl⟩
  · rename_i m
    split at h
    · rename_i es cl hH
      simp only [Option.some.injEq, Prod.mk.injEq] at h
      obtain ⟨rfl, rfl⟩ := h
      obtain ⟨b, ces, h1, h2, h3, h4⟩ := R.map _ _ _ hH
      simp only [VR] at hx
      obtain ⟨b', h5, rfl⟩ := hx
      rw [h1] at h5
      cases h5
      have hg : (getObj b).run P w = .ok (.map ces cl) w := MapKept.run_getObj_map h3
      refine ⟨.pointer (some ⟨w.heap.size, 0, none⟩), w.alloc (.mapIter (some b) cl #[] cl), _, ?_, ?_, Nx.newIter (seen := []) R ⟨rfl, rfl, rfl, rfl⟩ hf hHn h1⟩
      · simp [Instr.range, run_underlying ht, hg]
      · simp only [VR]; exact ⟨w.heap.size, by simp [Lo.addObj], rfl⟩
    · cases h
  · cases h
end Go.AM

/- Frames by the size of objects; slices that are kept in objects; cells by index. -/
import Derived.Test.YtmciomkibklokaaA26
set_option autoImplicit false
set_option linter.unusedVariables false
set_option linter.unusedSimpArgs false
namespace Go.AM
def osz : AObj → Nat
  | .mem _ _ e _ => e + 1
  | .map .. => 0
  | _ => 1000000
/-- All objects are as they were, but for those of some sizes. -/
def Fr (S : List Nat) (H H' : AHeap) : Prop := ∀ i o, H i = some o → osz o ∉ S → H' i = some o
section
variable {S S' : List Nat} {H H' H'' G : AHeap} {i u : Nat} {o o' : AObj}
theorem Fr.refl : Fr S H H := fun _ _ h _ => h
theorem Fr.trans (h : Fr S H H') (k : Fr S H' H'') : Fr S H H'' := fun i o hi ho => k i o (h i o hi ho) ho
theorem Fr.of_le (h : AHeap.le H H') : Fr S H H' := fun i o hi _ => h i o hi
theorem Fr.le (h : Fr [] H H') : AHeap.le H H' := fun i o hi => h i o hi (by simp)
theorem Fr.sub (h : Fr S H H') (hs : ∀ x ∈ S, x ∈ S') : Fr S' H H' := fun i o hi ho => h i o hi fun hm => ho (hs _ hm)
theorem Fr.put (h : Fr S H G) (hi : G i = some o) (ho : osz o ∈ S) : Fr S H (G.set i o') := fun j x hj hx => by
  have h1 := h j x hj hx
  by_cases he : j = i
  · subst he; rw [hi] at h1; cases h1; exact absurd ho hx
  · rw [set_ne he]; exact h1
theorem Fr.own (h : Fr S H G) (hu : H u = none) : Fr S H (G.set u o) := fun j x hj hx => by
  have he : j ≠ u := fun he => by subst he; rw [hu] at hj; cases hj
  rw [set_ne he]; exact h j x hj hx
theorem Fr.new (h : Fr S H G) (hu : G u = none) : Fr S H (G.set u o) := fun j x hj hx => by
  have h1 := h j x hj hx
  have he : j ≠ u := fun he => by subst he; rw [hu] at h1; cases h1
  rw [set_ne he]; exact h1
theorem Fr.le_left (h : Fr S H' G) (k : AHeap.le H H') : Fr S H G := fun i o hi ho => h i o (k i o hi) ho
theorem Fr.le_right (h : Fr S H H') (k : AHeap.le H' G) : Fr S H G := fun i o hi ho => k i o (h i o hi ho)
theorem le_own (h : AHeap.le H G) (hu : H u = none) : AHeap.le H (G.set u o) := le_set_own h hu
end

theorem set_id {H : AHeap} {k : Nat} {o : AObj} (h : H k = some o) : H.set k o = H := by
  funext j
  by_cases hj : j = k
  · rw [hj, set_self, h]
  · rw [set_ne hj]
/-! ### maps by whole numbers -/
def Kv (es : List MEnt) (L : List (Int × AV)) : Prop := es.map (fun e => (e.key, e.val)) = L.map fun x => (Dat.int .i64 x.1, x.2)
theorem keyEq_i {a b : Int} : keyEq (.int .i64 a) (.int .i64 b) = some (a == b) := by simp [keyEq]
theorem findE_kv_no {k : Int} : ∀ {es : List MEnt} {L : List (Int × AV)} (i : Nat), Kv es L → k ∉ L.map (·.1) → findE (.int .i64 k) es i = some none
  | [], [], i, _, _ => rfl
  | [], _ :: _, i, h, _ => by cases h
  | _ :: _, [], i, h, _ => by cases h
  | e :: es, a :: L, i, h, hn => by
    simp only [Kv, List.map_cons, List.cons.injEq, Prod.mk.injEq] at h
    have h1 : k ≠ a.1 := fun he => hn (by simp [he])
    simp only [findE, h.1.1, keyEq_i, beq_eq_false_iff_ne.2 h1]
    exact findE_kv_no (i + 1) h.2 fun hm => hn (by simp only [List.map_cons]; exact List.mem_cons_of_mem _ hm)
theorem findE_kv {k : Int} {v : AV} : ∀ {es : List MEnt} {L : List (Int × AV)} (i j : Nat), Kv es L → (L.map (·.1)).Nodup → L[j]? = some (k, v) → findE (.int .i64 k) es i = some (some (i + j, v))
  | [], [], i, j, _, _, h => by simp at h
  | [], _ :: _, i, j, h, _, _ => by cases h
  | _ :: _, [], i, j, h, _, _ => by cases h
  | e :: es, a :: L, i, 0, h, _, hj => by
    simp only [Kv, List.map_cons, List.cons.injEq, Prod.mk.injEq] at h
    simp only [List.getElem?_cons_zero, Option.some.injEq] at hj
    subst hj
    simp only [findE, h.1.1, keyEq_i, beq_self_eq_true, h.1.2, Nat.add_zero]
  | e :: es, a :: L, i, j + 1, h, hn, hj => by
    simp only [Kv, List.map_cons, List.cons.injEq, Prod.mk.injEq] at h
    simp only [List.getElem?_cons_succ] at hj
    rw [List.map_cons, List.nodup_cons] at hn
    have h1 : k ≠ a.1 := fun he => hn.1 (by rw [← he]; exact List.mem_map.2 ⟨_, List.mem_of_getElem? hj, rfl⟩)
    simp only [findE, h.1.1, keyEq_i, beq_eq_false_iff_ne.2 h1]
    rw [findE_kv (i + 1) j h.2 hn.2 hj]
    simp only [Option.some.injEq, Prod.mk.injEq, and_true]
    omega
theorem Kv.nil : Kv [] [] := rfl
theorem Kv.add {es : List MEnt} {L : List (Int × AV)} (h : Kv es L) (k : Int) (v : AV) (c : Nat) : Kv (es ++ [⟨.int .i64 k, v, c⟩]) (L ++ [(k, v)]) := by
  unfold Kv at h ⊢
  rw [List.map_append, List.map_append, h]
  rfl
theorem map_erase {α β : Type} (f : α → β) : ∀ (l : List α) (j : Nat), (l.eraseIdx j).map f = (l.map f).eraseIdx j
  | [], _ => rfl
  | _ :: _, 0 => rfl
  | x :: l, j + 1 => by simp only [List.eraseIdx_cons_succ, List.map_cons, map_erase f l j]
theorem Kv.del {es : List MEnt} {L : List (Int × AV)} (h : Kv es L) (j : Nat) : Kv (es.eraseIdx j) (L.eraseIdx j) := by
  unfold Kv at h ⊢
  rw [map_erase, map_erase, h]
theorem Kv.len {es : List MEnt} {L : List (Int × AV)} (h : Kv es L) : es.length = L.length := by have := congrArg List.length h; simpa using this
theorem set_same {α : Type} {l : List α} {i : Nat} {x : α} (h : l[i]? = some x) : l.set i x = l := by
  refine List.ext_getElem? fun j => ?_
  by_cases hj : i = j
  · subst hj
    rw [List.getElem?_set_self (List.getElem?_eq_some_iff.1 h).1, h]
  · rw [List.getElem?_set_ne hj]
theorem map_set_same {α β : Type} {f : α → β} {l : List α} {i : Nat} {x y : α} (h : l[i]? = some x) (hf : f y = f x) : (l.set i y).map f = l.map f := by
  rw [List.map_set, hf, set_same (by rw [List.getElem?_map, h]; rfl)]
/-! ### cells by index -/
theorem ld1 {cs : List AV} {off : Nat} {x : AV} (h : cs[off]? = some x) : partV false 1 cs off = some x := by
  have hl := (List.getElem?_eq_some_iff.1 h).1
  have hx := (List.getElem?_eq_some_iff.1 h).2
  simp only [partV, Bool.false_eq_true, if_false]
  rw [List.drop_eq_getElem_cons hl]
  simp [hx]
theorem ldV_at {i ver e off fro esz : Nat} {l : List (List AV)} {cs : List AV} {x : AV} {H : AHeap} (h : H i = some (.mem ver fro esz l)) (hr : l[e]? = some cs) (hc : cs[off]? = some x) : ldV false 1 (.ptr i ver e off) H = some x := by
  simp only [ldV, h, if_true, hr]; exact ld1 hc
theorem set1 {cs : List AV} {off : Nat} {v : AV} (h : off < cs.length) : setCells cs off [v] = cs.set off v := by
  unfold setCells
  rw [List.set_eq_take_append_cons_drop, if_pos h]
  simp
theorem stoA_at {i ver e off fro esz : Nat} {l : List (List AV)} {cs : List AV} {v : AV} {H : AHeap} (h : H i = some (.mem ver fro esz l)) (hf : fro ≤ e) (hr : l[e]? = some cs) (hc : off < cs.length) (hv : v.storable = true) (hv2 : v.cells = [v]) :
    stoA false 1 (.ptr i ver e off) v H = some (.junk, [(i, .mem ver fro esz (l.set e (cs.set off v)))]) := by
  have h1 : off + 1 ≤ cs.length := hc
  simp only [stoA, stA, h, hf, hv, hv2, List.length_cons, List.length_nil, Nat.zero_add, and_self, if_true, hr, h1, Bool.false_eq_true, if_false, set1 hc]
theorem ixArr {ti : TI} {m esz i ver e o : Nat} {et : TypeId} {k : IntKind} {n : Int} (hk : ti.k = .array m et) (h0 : 0 ≤ n) (h1 : n < m) : indexAddrA ti esz (.ptr i ver e o) (.d (.int k n)) = some (.ptr i ver e (o + n.toNat * esz)) := by
  simp only [indexAddrA, hk, h0, h1, and_self, if_true]
theorem map_d_get {l : List Dat} {n : Nat} {x : Dat} (h : l[n]? = some x) : (l.map AV.d)[n]? = some (.d x) := by simp [h]

/-! ### a slice that an object keeps: nil, or memory of its own -/
def Ms (sz : Nat) (H : AHeap) (v : AV) (l : List (List Dat)) : Prop :=
  (∀ c ∈ l, c.length = sz) ∧ ((v = .d (.sl true []) ∧ l = []) ∨ ∃ i ver L, v = .rs i ver sz 0 l.length ∧ H i = some (.mem ver 0 sz L) ∧ L.take l.length = avs l ∧ l.length ≤ L.length)
section
variable {sz : Nat} {H H' : AHeap} {v : AV} {l : List (List Dat)}
theorem Ms.nil : Ms sz H (.d (.sl true [])) [] := ⟨by simp, .inl ⟨rfl, rfl⟩⟩
theorem noHeap_le : AHeap.le noHeap H := fun i o h => by cases h
theorem Ms.own (h : Ms sz H v l) : Own noHeap sz H v l := by
  refine ⟨noHeap_le, h.1, ?_⟩
  rcases h.2 with h1 | ⟨i, ver, L, h1, h2, h3, h4⟩
  · exact .inl h1
  · exact .inr (.inr ⟨i, ver, L, h1, h2, h3, h4, rfl⟩)
theorem Ms.len (h : Ms sz H v l) : lenSl v = some (.d (.int .i64 l.length)) := h.own.len
theorem Ms.isObj (h : Ms sz H v l) {i : Nat} (hi : idOf v = some i) : ∃ ver L, H i = some (.mem ver 0 sz L) := by
  rcases h.2 with ⟨rfl, _⟩ | ⟨j, ver, L, rfl, h2, _⟩
  · cases hi
  · cases hi; exact ⟨ver, L, h2⟩
theorem Ms.keep (h : Ms sz H v l) (hk : ∀ i, idOf v = some i → H' i = H i) : Ms sz H' v l := by
  refine ⟨h.1, ?_⟩
  rcases h.2 with h1 | ⟨i, ver, L, rfl, h2, h3, h4⟩
  · exact .inl h1
  · exact .inr ⟨i, ver, L, rfl, by rw [hk i rfl]; exact h2, h3, h4⟩
theorem Ms.fr {S : List Nat} (h : Ms sz H v l) (hf : Fr S H H') (hs : sz + 1 ∉ S) : Ms sz H' v l :=
  h.keep fun i hi => by obtain ⟨ver, L, h2⟩ := h.isObj hi; rw [h2]; exact hf i _ h2 hs
theorem Ms.le (h : Ms sz H v l) (hf : AHeap.le H H') : Ms sz H' v l := h.fr (S := []) (.of_le hf) (by simp)
theorem Ms.st (h : Ms sz H v l) : v.storable = true ∧ v.cells = [v] := by
  rcases h.2 with ⟨rfl, _⟩ | ⟨j, ver, L, rfl, _⟩ <;> exact ⟨rfl, rfl⟩
theorem Ms.ne (h : Ms sz H v l) {k : Nat} {o : AObj} (hk : H k = some o) (ho : osz o ≠ sz + 1) {i : Nat} (hi : idOf v = some i) : i ≠ k := by
  rintro rfl
  obtain ⟨ver, L, h2⟩ := h.isObj hi
  rw [h2] at hk; cases hk
  exact ho rfl
/-- An element: where it lies. -/
theorem Ms.at (h : Ms sz H v l) {ti : TI} {et : TypeId} (hk : ti.k = .slice et) {j : Nat} {c : List Dat} (hc : l[j]? = some c) :
    ∃ i ver L, indexAddrA ti sz v (.d (.int .i64 j)) = some (.ptr i ver j 0) ∧ idOf v = some i ∧ H i = some (.mem ver 0 sz L) ∧ L[j]? = some (c.map AV.d) := by
  have hj : j < l.length := (List.getElem?_eq_some_iff.1 hc).1
  rcases h.2 with ⟨rfl, rfl⟩ | ⟨i, ver, L, rfl, h2, h3, h4⟩
  · simp at hj
  · refine ⟨i, ver, L, ?_, rfl, h2, ?_⟩
    · rw [idx_rs hk (by omega) (by omega)]; simp
    · have : (L.take l.length)[j]? = L[j]? := List.getElem?_take_of_lt hj
      rw [← this, h3]
      simp only [avs, List.getElem?_map, hc, Option.map_some]
/-- An element is written. -/
theorem Ms.put (h : Ms sz H v l) {i ver j : Nat} {L : List (List AV)} (hi : idOf v = some i) (hL : H i = some (.mem ver 0 sz L)) {c : List Dat} (hj : j < l.length) (hc : c.length = sz) : Ms sz (H.set i (.mem ver 0 sz (L.set j (c.map AV.d)))) v (l.set j c) := by
  refine ⟨fun x hx => ?_, ?_⟩
  · rcases List.mem_or_eq_of_mem_set hx with h3 | h3
    · exact h.1 x h3
    · rw [h3]; exact hc
  · rcases h.2 with ⟨rfl, rfl⟩ | ⟨i', ver', L', rfl, h2, h3, h4⟩
    · simp at hj
    · cases hi
      rw [hL] at h2; cases h2
      refine .inr ⟨i, ver, L.set j (c.map AV.d), by rw [List.length_set], set_self, ?_, by rw [List.length_set, List.length_set]; exact h4⟩
      rw [List.length_set, List.take_set, h3]
      simp only [avs, List.map_set]
theorem Ms.app {bytes : Nat} {x : AV} {ys : List (List Dat)} {K : AV → AHeap → Prop} (h : Ms sz H v l) (hx : elemsA x H = some (avs ys)) (hsz : 0 < sz) (hb : 0 < bytes) (hys : ∀ c ∈ ys, c.length = sz)
    (hlen : (l.length + ys.length) * bytes ≤ mostBytes) (hk : ∀ v' H', Ms sz H' v' (l ++ ys) → (∀ i, (H i).isSome → idOf v ≠ some i → H' i = H i) → (∀ i, idOf v' = some i → idOf v = some i ∨ H i = none) → Fr [sz + 1] H H' → K v' H') : newK H (fun n => apA sz bytes v x H n) K := by
  have hfrz : ∀ n w us, apA sz bytes v x H n = some (w, us) → w = .d (.sl true []) ∨ isRs w = true := by
    intro n w us hw
    rcases h.2 with ⟨rfl, rfl⟩ | ⟨i, ver, L, rfl, _⟩
    · unfold apA at hw
      rw [hx] at hw
      simp only at hw
      split at hw
      · unfold appA at hw
        simp only at hw
        split at hw
        · simp only [Option.some.injEq, Prod.mk.injEq] at hw; exact .inl hw.1.symm
        · split at hw
          · simp only [Option.some.injEq, Prod.mk.injEq] at hw; rw [← hw.1]; exact .inr rfl
          · cases hw
      · cases hw
    · exact .inr (app_rs rfl hw)
  refine newK_and (q := fun w => w = .d (.sl true []) ∨ isRs w = true) (h.own.app hx hsz hb hys hlen fun v' H' g1 g2 g3 g4 hq => ?_) hfrz
  refine hk v' H' ⟨g1.2.1, ?_⟩ g2 g3 fun i o hi ho => ?_
  · rcases g1.2.2 with g | g | ⟨i, ver, L, e1, e2, e3, e4, _⟩
    · exact .inl g
    · subst g; rcases hq with hq | hq <;> cases hq
    · exact .inr ⟨i, ver, L, e1, e2, e3, e4⟩
  · rw [g2 i (by rw [hi]; rfl) fun he => ?_]
    · exact hi
    · obtain ⟨ver, L, h2⟩ := h.isObj he
      rw [h2] at hi; cases hi
      exact ho (by simp [osz])
theorem Ms.nilS_eq (h : Ms sz H v l) : nilS v = l.isEmpty ∨ nilS v = false := by
  rcases h.2 with ⟨rfl, rfl⟩ | ⟨i, ver, L, rfl, _⟩
  · exact .inl rfl
  · exact .inr rfl
theorem Ms.frz (h : Ms sz H v l) : ∃ us, AM.frz v H = some (.d (.sl (nilS v) l), us) ∧ AM.frzA v H = some (.d (.sl (nilS v) l), us) ∧ Fr [sz + 1] H (H.sets us) ∧ ∀ i, idOf v ≠ some i → H.sets us i = H i := by
  obtain ⟨us, h1, h2, h3, h4⟩ := h.own.frz
  have out : ∀ i, idOf v ≠ some i → H.sets us i = H i := fun i hi => upsOut fun o ho => hi (h4 i o ho)
  refine ⟨us, h1, h2, fun i o hi ho => ?_, out⟩
  rw [out i fun he => ?_]
  · exact hi
  · obtain ⟨ver, L, h2⟩ := h.isObj he
    rw [h2] at hi; cases hi
    exact ho (by simp [osz])
theorem nilS_cases (h : Ms sz H v l) : nilS v = true → l = [] := fun hn => h.own.nilS hn
/-- It is returned. -/
theorem Ms.ret1 {K : AV → AHeap → Prop} (h : Ms sz H v l) (hk : ∀ nl H', (nl = true → l = []) → Fr [sz + 1] H H' → K (.d (.sl nl l)) H') : retF [v] H K := by
  obtain ⟨us, _, h1, h2, _⟩ := h.frz
  simp only [retF, frzLK, frzAL, h1, optA, List.append_nil, one1]
  exact ⟨_, le_refl', hk _ _ (nilS_cases h) h2⟩
theorem Ms.ret2 {K : AV → AHeap → Prop} {x : Dat} (h : Ms sz H v l) (hk : ∀ nl H', (nl = true → l = []) → Fr [sz + 1] H H' → K (.tup [.d (.sl nl l), .d x]) H') : retF [v, .d x] H K := by
  obtain ⟨us, _, h1, h2, _⟩ := h.frz
  rw [ret2_of h1 frzA_d]
  exact ⟨_, le_refl', hk _ _ (nilS_cases h) h2⟩
end
/-! ### a slice that grows inside one function: no object of the start is touched -/
def Ml (S : List Nat) (H0 : AHeap) (sz : Nat) (H : AHeap) (v : AV) (l : List (List Dat)) : Prop := Ms sz H v l ∧ Fr S H0 H ∧ ∀ i o, idOf v = some i → H0 i = some o → osz o ∈ S
section
variable {sz : Nat} {S : List Nat} {H0 H H' : AHeap} {v : AV} {l : List (List Dat)}
theorem Ml.nil (h : Fr S H0 H) : Ml S H0 sz H (.d (.sl true [])) [] := ⟨Ms.nil, h, fun i o hi => by cases hi⟩
theorem Ml.fr (h : Ml S H0 sz H v l) : Fr S H0 H := h.2.1
/-- Other objects turn. -/
theorem Ml.step (h : Ml S H0 sz H v l) (hf : Fr S H H') (hs : sz + 1 ∉ S) : Ml S H0 sz H' v l := ⟨h.1.fr hf hs, h.2.1.trans hf, h.2.2⟩
theorem Ml.app {bytes : Nat} {x : AV} {ys : List (List Dat)} {K : AV → AHeap → Prop} (h : Ml S H0 sz H v l) (hx : elemsA x H = some (avs ys)) (hsz : 0 < sz) (hb : 0 < bytes) (hys : ∀ c ∈ ys, c.length = sz)
    (hlen : (l.length + ys.length) * bytes ≤ mostBytes) (hk : ∀ v' H', Ml S H0 sz H' v' (l ++ ys) → (∀ i, (H i).isSome → idOf v ≠ some i → H' i = H i) → Fr [sz + 1] H H' → K v' H') : newK H (fun n => apA sz bytes v x H n) K := by
  refine h.1.app hx hsz hb hys hlen fun v' H' g1 g2 g3 g4 => hk v' H' ⟨g1, fun i o hi ho => ?_, fun i o hi ho => ?_⟩ g2 g4
  · have h1 := h.2.1 i o hi ho
    rw [g2 i (by rw [h1]; rfl) fun he => ho (h.2.2 i o he hi)]
    exact h1
  · rcases g3 i hi with h1 | h1
    · exact h.2.2 i o h1 ho
    · refine Decidable.byContradiction fun hn => ?_
      rw [h.2.1 i o ho hn] at h1; cases h1
theorem Ml.frz (h : Ml S H0 sz H v l) : ∃ us, AM.frz v H = some (.d (.sl (nilS v) l), us) ∧ AM.frzA v H = some (.d (.sl (nilS v) l), us) ∧ Fr S H0 (H.sets us) ∧ Fr [sz + 1] H (H.sets us) ∧ ∀ i, idOf v ≠ some i → H.sets us i = H i := by
  obtain ⟨us, h1, h2, h3, h4⟩ := h.1.frz
  refine ⟨us, h1, h2, fun i o hi ho => ?_, h3, h4⟩
  rw [h4 i fun he => ho (h.2.2 i o he hi)]
  exact h.2.1 i o hi ho
theorem Ml.ret1 {K : AV → AHeap → Prop} (h : Ml S H0 sz H v l) (hk : ∀ nl H', (nl = true → l = []) → Fr S H0 H' → Fr [sz + 1] H H' → K (.d (.sl nl l)) H') : retF [v] H K := by
  obtain ⟨us, _, h1, h2, h3, _⟩ := h.frz
  simp only [retF, frzLK, frzAL, h1, optA, List.append_nil, one1]
  exact ⟨_, le_refl', hk _ _ (nilS_cases h.1) h2 h3⟩
theorem Ml.ret2 {K : AV → AHeap → Prop} {x : Dat} (h : Ml S H0 sz H v l) (hk : ∀ nl H', (nl = true → l = []) → Fr S H0 H' → Fr [sz + 1] H H' → K (.tup [.d (.sl nl l), .d x]) H') : retF [v, .d x] H K := by
  obtain ⟨us, _, h1, h2, h3, _⟩ := h.frz
  rw [ret2_of h1 frzA_d]
  exact ⟨_, le_refl', hk _ _ (nilS_cases h.1) h2 h3⟩
end
end Go.AM
namespace Go.AM
/-! ### a return that gives kept slices away -/
theorem retZ_d {x : Dat} {H : AHeap} {K : AV → AHeap → Prop} : retZ [.d x] H K = finZ (.d x) H K := by
  unfold retZ
  rw [frzLK_d, frzLK_nil]
  rfl
theorem retZ_0 {H : AHeap} {K : AV → AHeap → Prop} : retZ [] H K = finZ (.tup []) H K := by
  unfold retZ
  rw [frzLK_nil]
  rfl
theorem finZ_of {v : AV} {H : AHeap} {K : AV → AHeap → Prop} (h : finA v H K) : finZ v H K := ⟨H, .refl H, h⟩
theorem fz_cell {H : AHeap} {k ver fro esz e off : Nat} {l : List (List AV)} {cs : List AV} {v v' : AV} {us : Ups} (h1 : frz v H = some (v', us)) (hk : H k = some (.mem ver fro esz l)) (hne : ∀ o, (k, o) ∉ us) (he : l[e]? = some cs) (ho : cs[off]? = some v) :
    Fz H ((H.sets us).set k (.mem ver fro esz (l.set e (cs.set off v')))) :=
  .step ⟨k, e, off, v, v', us, ver, fro, fro, esz, l, cs, h1, hk, by rw [upsOut hne]; exact hk, he, ho, rfl⟩ (.refl _)
end Go.AM

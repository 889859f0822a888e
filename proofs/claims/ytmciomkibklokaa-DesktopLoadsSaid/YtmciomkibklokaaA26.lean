/- Slices that grow and are changed in place. -/
import Derived.Test.YtmciomkibklokaaA25
set_option autoImplicit false
set_option linter.unusedVariables false
set_option linter.unusedSimpArgs false
namespace Go.AM
/-- A slice of one's own: while it is empty it may be nil or a literal, later it lies in memory. -/
def Gr (H0 : AHeap) (sz : Nat) (H : AHeap) (v : AV) (l : List (List Dat)) : Prop :=
  AHeap.le H0 H ∧ (∀ c ∈ l, c.length = sz) ∧ ((l = [] ∧ (v = .d (.sl true []) ∨ v = .lit [])) ∨ ∃ i ver L, v = .rs i ver sz 0 l.length ∧ H i = some (.mem ver 0 sz L) ∧ L.take l.length = avs l ∧ l.length ≤ L.length ∧ H0 i = none)
theorem Gr.own {H0 H : AHeap} {sz : Nat} {v : AV} {l : List (List Dat)} (h : Gr H0 sz H v l) : Own H0 sz H v l := by
  refine ⟨h.1, h.2.1, ?_⟩
  rcases h.2.2 with ⟨rfl, rfl | rfl⟩ | h1
  · exact .inl ⟨rfl, rfl⟩
  · exact .inr (.inl rfl)
  · exact .inr (.inr h1)
theorem Gr.nil {H0 H : AHeap} {sz : Nat} (h : AHeap.le H0 H) : Gr H0 sz H (.d (.sl true [])) [] := ⟨h, by simp, .inl ⟨rfl, .inl rfl⟩⟩
theorem Gr.lit {H0 H : AHeap} {sz : Nat} (h : AHeap.le H0 H) : Gr H0 sz H (.lit []) [] := ⟨h, by simp, .inl ⟨rfl, .inr rfl⟩⟩
theorem Gr.le {H0 H : AHeap} {sz : Nat} {v : AV} {l : List (List Dat)} (h : Gr H0 sz H v l) : AHeap.le H0 H := h.1
theorem Gr.len {H0 H : AHeap} {sz : Nat} {v : AV} {l : List (List Dat)} (h : Gr H0 sz H v l) : lenSl v = some (.d (.int .i64 l.length)) := h.own.len
theorem Gr.rs {H0 H : AHeap} {sz i ver : Nat} {L : List (List AV)} {l : List (List Dat)} (h : AHeap.le H0 H) (hl : ∀ c ∈ l, c.length = sz) (hi : H i = some (.mem ver 0 sz L)) (ht : L.take l.length = avs l) (hlen : l.length ≤ L.length) (h0 : H0 i = none) :
    Gr H0 sz H (.rs i ver sz 0 l.length) l := ⟨h, hl, .inr ⟨i, ver, L, rfl, hi, ht, hlen, h0⟩⟩
/-- Others change. -/
theorem Gr.keep {H0 H H0' H' : AHeap} {sz : Nat} {v : AV} {l : List (List Dat)} (h : Gr H0 sz H v l) (hle : AHeap.le H0' H') (hk : ∀ i, idOf v = some i → H' i = H i) (h0 : ∀ i, idOf v = some i → H0 i = none → H0' i = none) : Gr H0' sz H' v l := by
  refine ⟨hle, h.2.1, ?_⟩
  rcases h.2.2 with h1 | ⟨i, ver, L, rfl, h1, h2, h3, h4⟩
  · exact .inl h1
  · exact .inr ⟨i, ver, L, rfl, by rw [hk i rfl]; exact h1, h2, h3, h0 i rfl h4⟩
theorem Gr.more {H0 H H' : AHeap} {sz : Nat} {v : AV} {l : List (List Dat)} (h : Gr H0 sz H v l) (hle : AHeap.le H H') : Gr H0 sz H' v l := by
  refine h.keep (fun i o hi => hle i o (h.1 i o hi)) (fun i hi => ?_) fun _ _ h => h
  rcases h.2.2 with ⟨rfl, rfl | rfl⟩ | ⟨j, ver, L, rfl, h1, _⟩
  · cases hi
  · cases hi
  · cases hi; rw [h1, hle _ _ h1]
theorem Gr.obj {H0 H : AHeap} {sz : Nat} {v : AV} {l : List (List Dat)} (h : Gr H0 sz H v l) {i : Nat} (hi : idOf v = some i) : (∃ ver L, H i = some (.mem ver 0 sz L)) ∧ H0 i = none := by
  rcases h.2.2 with ⟨rfl, rfl | rfl⟩ | ⟨j, ver, L, rfl, h1, _, _, h2⟩
  · cases hi
  · cases hi
  · cases hi; exact ⟨⟨ver, L, h1⟩, h2⟩
theorem Gr.aggL {H0 H : AHeap} {sz : Nat} {v : AV} {l : List (List Dat)} (h : Gr H0 sz H v l) : aggL v = [] := by
  rcases h.2.2 with ⟨_, rfl | rfl⟩ | ⟨i, ver, L, rfl, _⟩ <;> rfl
/-- More behind. -/
theorem Gr.app {H0 H : AHeap} {sz bytes : Nat} {v x : AV} {l ys : List (List Dat)} {K : AV → AHeap → Prop} (h : Gr H0 sz H v l) (hx : elemsA x H = some (avs ys)) (hsz : 0 < sz) (hb : 0 < bytes) (hys : ∀ c ∈ ys, c.length = sz)
    (hlen : (l.length + ys.length) * bytes ≤ mostBytes) (hk : ∀ v' H', Gr H0 sz H' v' (l ++ ys) → (∀ i, (H i).isSome → idOf v ≠ some i → H' i = H i) → (∀ i, idOf v' = some i → idOf v = some i ∨ H i = none) → nilS v' = (nilS v && ys.isEmpty) → K v' H') : newK H (fun n => apA sz bytes v x H n) K := by
  intro n hn
  have h0n : H0 n = none := by
    cases h0 : H0 n with
    | none => rfl
    | some o => rw [h.1 n o h0] at hn; cases hn
  have hall : ((avs ys).all fun y => y.length == sz) = true := by
    simp only [avs, List.all_map, List.all_eq_true, Function.comp, List.length_map, beq_iff_eq]
    exact hys
  have hl2 : ∀ c ∈ l ++ ys, c.length = sz := fun c hc => by
    rcases List.mem_append.1 hc with hc | hc
    · exact h.2.1 c hc
    · exact hys c hc
  have ni : ∀ i, (H i).isSome → i ≠ n := fun i hi he => by rw [he, hn] at hi; cases hi
  simp only [apA, hx, hsz, hb, hall, and_self, if_true]
  rcases h.2.2 with ⟨rfl, hv⟩ | ⟨i, ver, L, rfl, h1, h2, h3, h4⟩
  · cases ys with
    | nil =>
      rcases hv with rfl | rfl
      · exact hk _ _ (Gr.nil h.1) (fun _ _ _ => rfl) (fun i hi => .inl hi) rfl
      · exact hk _ _ (Gr.lit h.1) (fun _ _ _ => rfl) (fun i hi => .inl hi) rfl
    | cons y r =>
      simp only [List.length_nil, Nat.zero_add] at hlen
      have e : avs (y :: r) = y.map AV.d :: avs r := rfl
      have hl' : (y.map AV.d :: avs r).length * bytes ≤ mostBytes := by rw [← e, avs_length]; exact hlen
      have e2 : appA sz bytes v (avs (y :: r)) H n = some (.rs n 0 sz 0 (y :: r).length, [(n, .mem 0 0 sz (avs (y :: r)))]) := by
        rcases hv with rfl | rfl
        · simp only [appA, e, hl', if_true]
          rw [← e, avs_length]
        · simp only [appA, e, hl', List.length_nil, Nat.zero_add, List.all_nil, and_self, if_true, List.map_nil, List.nil_append]
          rw [← e, avs_length]
      rw [e2]
      simp only [stepK, optA, AHeap.sets]
      refine hk _ _ (Gr.rs (le_set h.1 hn) hl2 set_self (by rw [← avs_length]; exact List.take_length) (by rw [avs_length]; exact Nat.le_refl _) h0n) (fun i hi _ => set_ne (ni i hi)) (fun i hi => .inr (by cases hi; exact hn)) ?_
      rcases hv with rfl | rfl <;> rfl
  · have hl' : (l.length + (avs ys).length) * bytes ≤ mostBytes := by rw [avs_length]; exact hlen
    by_cases hp : l.length + ys.length ≤ L.length
    · have e : appA sz bytes (.rs i ver sz 0 l.length) (avs ys) H n = some (.rs i ver sz 0 (l ++ ys).length, [(i, .mem ver 0 sz (avs l ++ avs ys ++ L.drop (l.length + ys.length)))]) := by
        simp only [appA, h1, Nat.zero_add, Nat.zero_le, and_self, true_and, avs_length, hp, if_true, h2]
        rw [List.length_append]
      rw [e]
      simp only [stepK, optA, AHeap.sets]
      refine hk _ _ (Gr.rs (le_set_own h.1 h4) hl2 set_self ?_ ?_ h4) (fun j hj hne => ?_) (fun j hj => .inl hj) rfl
      · rw [← avs_append, ← avs_length]; exact List.take_left
      · simp only [List.length_append, avs_length]; omega
      · rw [set_ne]
        intro he
        exact hne (by rw [he]; rfl)
    have e : appA sz bytes (.rs i ver sz 0 l.length) (avs ys) H n = some (.rs i (ver + 1) sz 0 (l ++ ys).length, [(i, .mem (ver + 1) 0 sz (avs l ++ avs ys))]) := by
      simp only [appA, h1, Nat.zero_add, Nat.zero_le, h3, hl', and_self, true_and, if_true, List.drop_zero, h2, Nat.sub_self, avs_length, hp, if_false]
      rw [avs_length] at hl'
      rw [if_pos hl', List.length_append]
    rw [e]
    simp only [stepK, optA, AHeap.sets]
    refine hk _ _ (Gr.rs (le_set_own h.1 h4) hl2 set_self ?_ ?_ h4) (fun j hj hne => ?_) (fun j hj => .inl hj) rfl
    · rw [← avs_append, ← avs_length]; exact List.take_length
    · rw [← avs_append, avs_length]; exact Nat.le_refl _
    · rw [set_ne]
      intro he
      exact hne (by rw [he]; rfl)
/-- One element, where it lies. -/
theorem Gr.ix {H0 H : AHeap} {sz e : Nat} {v : AV} {l : List (List Dat)} {ti : TI} {j : Int} {c : List Dat} (h : Gr H0 sz H v l) (hk : ti.k = .slice e) (h0 : 0 ≤ j) (hc : l[j.toNat]? = some c) :
    ∃ i ver L, v = .rs i ver sz 0 l.length ∧ indexAddrA ti sz v (.d (.int .i64 j)) = some (.ptr i ver j.toNat 0) ∧ getM H i ver = some (0, sz, L) ∧ L[j.toNat]? = some (c.map AV.d) := by
  have hj : j.toNat < l.length := (List.getElem?_eq_some_iff.1 hc).1
  rcases h.2.2 with ⟨rfl, _⟩ | ⟨i, ver, L, rfl, h1, h2, h3, h4⟩
  · simp at hj
  · refine ⟨i, ver, L, rfl, idx_rs hk h0 (by omega), getM_of h1, ?_⟩
    have : (L.take l.length)[j.toNat]? = L[j.toNat]? := List.getElem?_take_of_lt hj
    rw [← this, h2]
    simp only [avs, List.getElem?_map, hc, Option.map_some]
/-- One cell is changed. -/
theorem Gr.put {H0 H : AHeap} {sz i ver j off : Nat} {l : List (List Dat)} {c : List Dat} {y : Dat} (h : Gr H0 sz H (.rs i ver sz 0 l.length) l) (hc : l[j]? = some c) (ho : off < c.length) :
    ∃ o, stoA false 1 (.ptr i ver j off) (.d y) H = some (.junk, [(i, o)]) ∧ Gr H0 sz (H.set i o) (.rs i ver sz 0 l.length) (l.set j (c.set off y)) := by
  rcases h.2.2 with ⟨rfl, h1 | h1⟩ | ⟨i', ver', L, h1, h2, h3, h4, h5⟩
  · cases h1
  · cases h1
  · cases h1
    have hj : j < l.length := (List.getElem?_eq_some_iff.1 hc).1
    have hL : L[j]? = some (c.map AV.d) := by
      have : (L.take l.length)[j]? = L[j]? := List.getElem?_take_of_lt hj
      rw [← this, h3]
      simp only [avs, List.getElem?_map, hc, Option.map_some]
    have hcl : c.length = sz := h.2.1 c (List.mem_of_getElem? hc)
    have hset : setCells (c.map AV.d) off [.d y] = (c.set off y).map AV.d := by
      simp only [setCells, List.length_cons, List.length_nil]
      rw [List.map_set, List.set_eq_take_append_cons_drop, if_pos (by rw [List.length_map]; exact ho)]
      simp
    have hle : off + 1 ≤ (c.map AV.d).length := by rw [List.length_map]; omega
    refine ⟨.mem ver 0 sz (L.set j ((c.set off y).map AV.d)), ?_, ?_⟩
    · simp only [stoA_get, getM_of h2, stoM, hL, AV.storable, AV.cells, hset, Nat.zero_le, List.length_cons, List.length_nil, Nat.zero_add, hle, and_self, if_true]
    · have hl : (l.set j (c.set off y)).length = l.length := List.length_set
      have := Gr.rs (sz := sz) (i := i) (ver := ver) (L := L.set j ((c.set off y).map AV.d)) (l := l.set j (c.set off y)) (le_set_own (n := i) (o := .mem ver 0 sz (L.set j ((c.set off y).map AV.d))) h.1 h5) (fun c' hc' => ?_) set_self ?_ (by rw [hl, List.length_set]; exact h4) h5
      · rw [hl] at this; exact this
      · rcases List.mem_or_eq_of_mem_set hc' with h6 | h6
        · exact h.2.1 c' h6
        · rw [h6, List.length_set]; exact hcl
      · rw [hl, List.take_set, h3]
        simp only [avs, List.map_set]
/-- It is lent, then it grows, then it is given away. -/
theorem Gr.frz_app {H0 H : AHeap} {sz bytes : Nat} {v x w : AV} {l ys : List (List Dat)} {us : Ups} {K : AV → AHeap → Prop} (h : Gr H0 sz H v l) (hf : AM.frzA v H = some (w, us)) (hx : elemsA x (H.sets us) = some (avs ys)) (hsz : 0 < sz) (hb : 0 < bytes) (hys : ∀ c ∈ ys, c.length = sz)
    (hlen : (l.length + ys.length) * bytes ≤ mostBytes) (hk : ∀ v' H', (∃ us' nl, AM.frzA v' H' = some (.d (.sl nl (l ++ ys)), us') ∧ AHeap.le H0 (H'.sets us') ∧ (nl = true → l ++ ys = [])) → K v' H') : newK (H.sets us) (fun n => apA sz bytes v x (H.sets us) n) K := by
  rcases h.2.2 with ⟨rfl, hv⟩ | ⟨i, ver, L, rfl, h1, h2, h3, h4⟩
  · have hus : us = [] := by
      rcases hv with rfl | rfl
      · simp only [frzA_d, Option.some.injEq, Prod.mk.injEq] at hf; exact hf.2.symm
      · simp only [frzA_lit, Option.some.injEq, Prod.mk.injEq] at hf; exact hf.2.symm
    subst hus
    refine h.app (H := H) hx hsz hb hys hlen fun v' H' hG _ _ _ => hk v' H' ?_
    obtain ⟨us', _, f2, f3, _⟩ := hG.own.frz
    exact ⟨us', _, f2, f3, fun hn => hG.own.nilS hn⟩
  · have e : AM.frzA (.rs i ver sz 0 l.length) H = some (.d (.sl false l), [(i, .mem ver (max 0 (0 + l.length)) sz L)]) := by
      simp only [AM.frzA, AM.frz, h1, if_true, List.drop_zero, h2, toDatss_avs]
    rw [e] at hf
    simp only [Option.some.injEq, Prod.mk.injEq] at hf
    obtain ⟨_, rfl⟩ := hf
    intro n hn
    have hall : ((avs ys).all fun y => y.length == sz) = true := by
      simp only [avs, List.all_map, List.all_eq_true, Function.comp, List.length_map, beq_iff_eq]
      exact hys
    have hl' : (l.length + (avs ys).length) * bytes ≤ mostBytes := by rw [avs_length]; exact hlen
    have hfro : max 0 (0 + l.length) ≤ 0 + l.length := by omega
    simp only [AHeap.sets] at hx hn ⊢
    by_cases hp : l.length + ys.length ≤ L.length
    · have e2 : appA sz bytes (.rs i ver sz 0 l.length) (avs ys) (H.set i (.mem ver (max 0 (0 + l.length)) sz L)) n = some (.rs i ver sz 0 (l ++ ys).length, [(i, .mem ver (max 0 (0 + l.length)) sz (avs l ++ avs ys ++ L.drop (l.length + ys.length)))]) := by
        simp only [appA, set_self, Nat.zero_add, avs_length, h2]
        rw [if_pos ⟨trivial, trivial, by omega, hp⟩, List.length_append]
      simp only [apA, hx, hsz, hb, hall, and_self, if_true, e2, stepK, optA, AHeap.sets]
      have ht : (avs l ++ avs ys ++ L.drop (l.length + ys.length)).take (l ++ ys).length = avs (l ++ ys) := by
        rw [← avs_append, ← avs_length]; exact List.take_left
      refine hk _ _ ⟨[(i, .mem ver (max (max 0 (0 + l.length)) (0 + (l ++ ys).length)) sz (avs l ++ avs ys ++ L.drop (l.length + ys.length)))], false, ?_, ?_, fun hh => by cases hh⟩
      · simp only [AM.frzA, AM.frz, set_self, if_true, List.drop_zero, ht, toDatss_avs]
      · simp only [AHeap.sets]
        exact le_set_own (le_set_own (le_set_own h.1 h4) h4) h4
    have e2 : appA sz bytes (.rs i ver sz 0 l.length) (avs ys) (H.set i (.mem ver (max 0 (0 + l.length)) sz L)) n = some (.rs i (ver + 1) sz 0 (l ++ ys).length, [(i, .mem (ver + 1) (max 0 (0 + l.length) - 0) sz (avs l ++ avs ys))]) := by
      simp only [appA, set_self, Nat.zero_add, h3, hl', and_self, if_true, List.drop_zero, h2]
      rw [if_neg (by rw [avs_length]; exact fun hh => hp hh.2.2.2), if_pos ⟨trivial, trivial, by omega, trivial⟩, avs_length, List.length_append]
    simp only [apA, hx, hsz, hb, hall, and_self, if_true, e2, stepK, optA, AHeap.sets]
    have ht : (avs l ++ avs ys).take (l ++ ys).length = avs (l ++ ys) := by
      rw [← avs_append, ← avs_length]; exact List.take_length
    refine hk _ _ ⟨[(i, .mem (ver + 1) (max (max 0 (0 + l.length) - 0) (0 + (l ++ ys).length)) sz (avs l ++ avs ys))], false, ?_, ?_, fun hh => by cases hh⟩
    · simp only [AM.frzA, AM.frz, set_self, if_true, List.drop_zero, ht, toDatss_avs]
    · simp only [AHeap.sets]
      exact le_set_own (le_set_own (le_set_own h.1 h4) h4) h4
theorem OwnM.more {H0 H H' : AHeap} {sz i ver : Nat} {l : List (List Dat)} (h : OwnM H0 sz H i ver l) (hle : AHeap.le H H') : OwnM H0 sz H' i ver l := by
  obtain ⟨L, h1, h2, h3⟩ := h.mem
  exact ⟨Own.rs (fun j o hj => hle j o (h.own.1 j o hj)) h.own.2.1 (hle _ _ h1) h2 h3 h.fresh, h.fresh⟩
theorem OwnM.isSome {H0 H : AHeap} {sz i ver : Nat} {l : List (List Dat)} (h : OwnM H0 sz H i ver l) : (H i).isSome := by
  obtain ⟨L, h1, _⟩ := h.mem
  rw [h1]; rfl
/-- What several ways go on with. -/
def jnA (J : List AV → AHeap → Prop) (B : (List AV → AHeap → Prop) → Prop) : Prop := B J
@[congr] theorem jnA_congr {J : List AV → AHeap → Prop} {B : (List AV → AHeap → Prop) → Prop} : jnA J B = jnA J B := rfl
@[congr] theorem jnX_congr {J : List AV → AHeap → Prop} {B : (List AV → AHeap → Prop) → Prop} : jnX J B = jnX J B := rfl
theorem jn_open {J : List AV → AHeap → Prop} {B : (List AV → AHeap → Prop) → Prop} (h : ∀ X : List AV → AHeap → Prop, (∀ vs H, J vs H → X vs H) → B X) : jnA J B := h J fun _ _ h => h
end Go.AM

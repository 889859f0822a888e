/- Loops by a measure; slices that a function builds for itself. -/
import Derived.Test.YtmciomkibklokaaA22
set_option autoImplicit false
set_option linter.unusedVariables false
set_option linter.unusedSimpArgs false
namespace Go.AM

theorem loop_ind {B : (List AV → AHeap → Prop) → List AV → AHeap → Prop} (I : Nat → List AV → AHeap → Prop) {n : Nat} {vs : List AV} {H : AHeap} (start : I n vs H)
    (step : ∀ (X : List AV → AHeap → Prop) (n : Nat) (vs : List AV) (H : AHeap), I n vs H → (∀ m vs' H', m < n → I m vs' H' → X vs' H') → B X vs H) : loopA B vs H := by
  intro X hX
  have key : ∀ n vs H, I n vs H → X vs H := by
    intro n
    induction n using Nat.strongRecOn with
    | ind n ih => intro vs H hI; exact hX vs H (step X n vs H hI fun m vs' H' hm hI' => ih m hm vs' H' hI')
  exact key n vs H start

/-- Elements that are data, as values. -/
def avs (l : List (List Dat)) : List (List AV) := l.map (·.map AV.d)
theorem toDats_d : ∀ {l : List Dat}, toDats (l.map AV.d) = some l
  | [] => rfl
  | x :: l => by simp only [List.map_cons, toDats, AV.toDat, toDats_d (l := l)]
theorem toDatss_avs : ∀ {l : List (List Dat)}, toDatss (avs l) = some l
  | [] => rfl
  | x :: l => by
    have := toDatss_avs (l := l)
    unfold avs at this ⊢
    simp only [List.map_cons, toDatss, toDats_d, this]
theorem avs_length {l : List (List Dat)} : (avs l).length = l.length := by simp [avs]
theorem avs_append {l m : List (List Dat)} : avs (l ++ m) = avs l ++ avs m := by simp [avs]
theorem avs_cons {c : List Dat} {l : List (List Dat)} : avs (c :: l) = c.map AV.d :: avs l := rfl
theorem elemsA_sl {nl : Bool} {l : List (List Dat)} {H : AHeap} : elemsA (.d (.sl nl l)) H = some (avs l) := rfl
theorem elemsA_lit {l : List (List Dat)} {H : AHeap} : elemsA (.lit l) H = some (avs l) := rfl

def nilS : AV → Bool
  | .d (.sl nl _) => nl
  | _ => false
/-- A slice of one's own that holds l; whatever lay in H0 lies there still. -/
def Own (H0 : AHeap) (sz : Nat) (H : AHeap) (v : AV) (l : List (List Dat)) : Prop :=
  AHeap.le H0 H ∧ (∀ c ∈ l, c.length = sz) ∧ ((v = .d (.sl true []) ∧ l = []) ∨ v = .lit l ∨
    ∃ i ver L, v = .rs i ver sz 0 l.length ∧ H i = some (.mem ver 0 sz L) ∧ L.take l.length = avs l ∧ l.length ≤ L.length ∧ H0 i = none)
theorem Own.le {H0 H : AHeap} {sz : Nat} {v : AV} {l : List (List Dat)} (h : Own H0 sz H v l) : AHeap.le H0 H := h.1
theorem Own.nil {H0 H : AHeap} {sz : Nat} (h : AHeap.le H0 H) : Own H0 sz H (.d (.sl true [])) [] := ⟨h, by simp, .inl ⟨rfl, rfl⟩⟩
theorem Own.lit {H0 H : AHeap} {sz : Nat} {l : List (List Dat)} (h : AHeap.le H0 H) (hl : ∀ c ∈ l, c.length = sz) : Own H0 sz H (.lit l) l := ⟨h, hl, .inr (.inl rfl)⟩
theorem Own.rs {H0 H : AHeap} {sz i ver : Nat} {L : List (List AV)} {l : List (List Dat)} (h : AHeap.le H0 H) (hl : ∀ c ∈ l, c.length = sz) (hi : H i = some (.mem ver 0 sz L)) (ht : L.take l.length = avs l) (hlen : l.length ≤ L.length) (h0 : H0 i = none) :
    Own H0 sz H (.rs i ver sz 0 l.length) l := ⟨h, hl, .inr (.inr ⟨i, ver, L, rfl, hi, ht, hlen, h0⟩)⟩
/-- Another object turned. -/
theorem Own.other {H0 H H' : AHeap} {sz : Nat} {v : AV} {l : List (List Dat)} (h : Own H0 sz H v l) (hle : AHeap.le H0 H') (hk : ∀ i, idOf v = some i → H' i = H i) : Own H0 sz H' v l := by
  obtain ⟨_, h2, h3⟩ := h
  refine ⟨hle, h2, ?_⟩
  rcases h3 with h3 | h3 | ⟨i, ver, L, rfl, h4, h5⟩
  · exact .inl h3
  · exact .inr (.inl h3)
  · exact .inr (.inr ⟨i, ver, L, rfl, by rw [hk i rfl]; exact h4, h5⟩)
theorem Own.len {H0 H : AHeap} {sz : Nat} {v : AV} {l : List (List Dat)} (h : Own H0 sz H v l) : lenSl v = some (.d (.int .i64 l.length)) := by
  rcases h.2.2 with ⟨rfl, rfl⟩ | rfl | ⟨i, ver, L, rfl, _⟩ <;> rfl
theorem Own.elems {H0 H : AHeap} {sz : Nat} {v : AV} {l : List (List Dat)} (h : Own H0 sz H v l) : elemsA v H = some (avs l) := by
  rcases h.2.2 with ⟨rfl, rfl⟩ | rfl | ⟨i, ver, L, rfl, h1, h2, h3, _⟩
  · rfl
  · rfl
  · simp only [elemsA, h1, if_true, List.drop_zero, h2, avs_length]
theorem Own.app {H0 H : AHeap} {sz bytes : Nat} {v x : AV} {l ys : List (List Dat)} {K : AV → AHeap → Prop} (h : Own H0 sz H v l) (hx : elemsA x H = some (avs ys)) (hsz : 0 < sz) (hb : 0 < bytes) (hys : ∀ c ∈ ys, c.length = sz)
    (hlen : (l.length + ys.length) * bytes ≤ mostBytes) (hk : ∀ v' H', Own H0 sz H' v' (l ++ ys) → (∀ i, (H i).isSome → idOf v ≠ some i → H' i = H i) → (∀ i, idOf v' = some i → idOf v = some i ∨ H i = none) → nilS v' = (nilS v && ys.isEmpty) → K v' H') : newK H (fun n => apA sz bytes v x H n) K := by
  intro n hn
  have h0n : H0 n = none := by
    cases h0 : H0 n with
    | none => rfl
    | some o => rw [h.1 n o h0] at hn; cases hn
  have hall : ((avs ys).all fun y => y.length == sz) = true := by
    simp only [avs, List.all_map, List.all_eq_true, Function.comp, List.length_map, beq_iff_eq]
    exact hys
  have hl2 : ∀ c ∈ l ++ ys, c.length = sz := fun c hc => by
    rcases List.mem_append.1 hc with hc | hc
    · exact h.2.1 c hc
    · exact hys c hc
  simp only [apA, hx, hsz, hb, hall, and_self, if_true]
  have fresh : ∀ (k : List (List AV)), (nilS v && ys.isEmpty) = false → k = avs (l ++ ys) → ∀ m, m = (l ++ ys).length → K (.rs n 0 sz 0 m) (H.set n (.mem 0 0 sz k)) := by
    intro k hnn hk' m hm
    subst hk' hm
    refine hk _ _ (Own.rs (le_set h.1 hn) hl2 set_self (by rw [← avs_length]; exact List.take_length) (by rw [avs_length]; exact Nat.le_refl _) h0n) (fun i hi hne => ?_) (fun i hi => .inr (by cases hi; exact hn)) (by rw [hnn]; rfl)
    rw [set_ne]
    intro he
    subst he
    rw [hn] at hi
    cases hi
  rcases h.2.2 with ⟨rfl, rfl⟩ | rfl | ⟨i, ver, L, rfl, h1, h2, h3, h4⟩
  · simp only [List.length_nil, Nat.zero_add] at hlen
    cases hy : ys with
    | nil =>
      subst hy
      exact hk _ _ (Own.nil h.1) (fun _ _ _ => rfl) (fun i hi => .inl hi) rfl
    | cons y r =>
      rw [hy] at hlen fresh
      have e : avs (y :: r) = y.map AV.d :: avs r := rfl
      have hl' : (y.map AV.d :: avs r).length * bytes ≤ mostBytes := by rw [← e, avs_length]; exact hlen
      simp only [appA, e, hl', if_true, stepK, optA, AHeap.sets]
      exact fresh _ rfl rfl _ (by rw [← e, avs_length]; rfl)
  · cases hy : ys with
    | nil =>
      rw [hy] at hk hl2
      simp only [avs, List.map_nil, appA, stepK, optA, AHeap.sets]
      exact hk _ _ (by rw [List.append_nil]; exact Own.lit h.1 h.2.1) (fun _ _ _ => rfl) (fun i hi => .inl hi) rfl
    | cons y r =>
      rw [hy] at hlen fresh
      have e : avs (y :: r) = y.map AV.d :: avs r := rfl
      have hl' : (l.length + (y.map AV.d :: avs r).length) * bytes ≤ mostBytes := by rw [← e, avs_length]; exact hlen
      have ha : (l.all fun c => c.length == sz) = true := by simp only [List.all_eq_true, beq_iff_eq]; exact h.2.1
      simp only [appA, e, hl', ha, and_self, if_true, stepK, optA, AHeap.sets]
      exact fresh _ rfl (by rw [avs_append, e]; rfl) _ (by rw [← e, avs_length, List.length_append])
  · have hl' : (l.length + (avs ys).length) * bytes ≤ mostBytes := by rw [avs_length]; exact hlen
    by_cases hp : l.length + ys.length ≤ L.length
    · have e : appA sz bytes (.rs i ver sz 0 l.length) (avs ys) H n = some (.rs i ver sz 0 (l ++ ys).length, [(i, .mem ver 0 sz (avs l ++ avs ys ++ L.drop (l.length + ys.length)))]) := by
        simp only [appA, h1, Nat.zero_add, Nat.zero_le, and_self, true_and, avs_length, hp, if_true, h2]
        rw [List.length_append]
      rw [e]
      simp only [stepK, optA, AHeap.sets]
      refine hk _ _ (Own.rs (le_set_own h.1 h4) hl2 set_self ?_ ?_ h4) (fun j hj hne => ?_) (fun j hj => .inl hj) rfl
      · rw [← avs_append, ← avs_length]; exact List.take_left
      · simp only [List.length_append, avs_length]; omega
      · rw [set_ne]
        intro he
        exact hne (by rw [he]; rfl)
    have e : appA sz bytes (.rs i ver sz 0 l.length) (avs ys) H n = some (.rs i (ver + 1) sz 0 (l ++ ys).length, [(i, .mem (ver + 1) 0 sz (avs l ++ avs ys))]) := by
      simp only [appA, h1, Nat.zero_add, Nat.zero_le, h3, hl', and_self, true_and, if_true, List.drop_zero, h2, Nat.sub_self, avs_length, hp, if_false]
      rw [avs_length] at hl'
      rw [if_pos hl', List.length_append]
    rw [e]
    simp only [stepK, optA, AHeap.sets]
    refine hk _ _ (Own.rs (le_set_own h.1 h4) hl2 set_self ?_ ?_ h4) (fun j hj hne => ?_) (fun j hj => .inl hj) rfl
    · rw [← avs_append, ← avs_length]; exact List.take_length
    · rw [← avs_append, avs_length]; exact Nat.le_refl _
    · rw [set_ne]
      intro he
      exact hne (by rw [he]; rfl)
theorem apart_ptr {v : AV} {k a b c : Nat} (hj : v ≠ .junk) (h : ∀ i, idOf v = some i → i ≠ k) : apart v (.ptr k a b c) := by
  cases v <;> first | exact absurd rfl hj | (exact h _ rfl) | trivial
theorem Own.apart {H0 H : AHeap} {sz k a b c : Nat} {v : AV} {l : List (List Dat)} {o : AObj} (h : Own H0 sz H v l) (hk : H0 k = some o) : AM.apart v (.ptr k a b c) := by
  rcases h.2.2 with ⟨rfl, rfl⟩ | rfl | ⟨i, ver, L, rfl, _, _, _, h4⟩
  · trivial
  · trivial
  · intro he
    rw [he, hk] at h4
    cases h4
theorem Own.nilS {H0 H : AHeap} {sz : Nat} {v : AV} {l : List (List Dat)} (h : Own H0 sz H v l) (hn : nilS v = true) : l = [] := by
  rcases h.2.2 with ⟨rfl, rfl⟩ | rfl | ⟨i, ver, L, rfl, _⟩
  · rfl
  · cases hn
  · cases hn
/-- Given away. -/
theorem Own.frz {H0 H : AHeap} {sz : Nat} {v : AV} {l : List (List Dat)} (h : Own H0 sz H v l) : ∃ us, AM.frz v H = some (.d (.sl (AM.nilS v) l), us) ∧ AM.frzA v H = some (.d (.sl (AM.nilS v) l), us) ∧ AHeap.le H0 (H.sets us) ∧ (∀ i o, (i, o) ∈ us → idOf v = some i) := by
  rcases h.2.2 with ⟨rfl, rfl⟩ | rfl | ⟨i, ver, L, rfl, h1, h2, h3, h4⟩
  · exact ⟨[], rfl, rfl, h.1, by simp⟩
  · exact ⟨[], rfl, rfl, h.1, by simp⟩
  · have e : AM.frz (.rs i ver sz 0 l.length) H = some (.d (.sl false l), [(i, .mem ver (max 0 (0 + l.length)) sz L)]) := by
      simp only [AM.frz, h1, if_true, List.drop_zero, h2, toDatss_avs]
    refine ⟨[(i, .mem ver (max 0 (0 + l.length)) sz L)], e, e, ?_, by simp [idOf]⟩
    simp only [AHeap.sets]
    exact le_set_own h.1 h4
/-- It is the result. -/
theorem Own.ret {H1 H0 H : AHeap} {sz : Nat} {v : AV} {l : List (List Dat)} {K : AV → AHeap → Prop} (h : Own H0 sz H v l) (hle : AHeap.le H1 H0) (hk : K (.d (.sl (AM.nilS v) l)) H1) : retF [v] H K := by
  obtain ⟨us, _, h1, h4, _⟩ := h.frz
  simp only [retF, frzLK, frzAL, h1, optA, List.append_nil, one1]
  exact ⟨H1, le_trans' hle h4, hk⟩
/-- It is the first of two results. -/
theorem Own.ret_d {H1 H0 H : AHeap} {sz : Nat} {v : AV} {x : Dat} {l : List (List Dat)} {K : AV → AHeap → Prop} (h : Own H0 sz H v l) (hle : AHeap.le H1 H0) (hk : K (.tup [.d (.sl (AM.nilS v) l), .d x]) H1) : retF [v, .d x] H K := by
  obtain ⟨us, _, h1, h4, _⟩ := h.frz
  rw [ret2_of h1 frzA_d]
  exact ⟨H1, le_trans' hle h4, hk⟩

/-- A slice that can be read: its elements are l. -/
def Rd (H : AHeap) (v : AV) (l : List (List Dat)) : Prop := elemsA v H = some (avs l) ∧ lenSl v = some (.d (.int .i64 l.length)) ∧ ∀ i, idOf v = some i → (H i).isSome
theorem Own.rd {H0 H : AHeap} {sz : Nat} {v : AV} {l : List (List Dat)} (h : Own H0 sz H v l) : Rd H v l := by
  refine ⟨h.elems, h.len, fun i hi => ?_⟩
  rcases h.2.2 with ⟨rfl, rfl⟩ | rfl | ⟨j, ver, L, rfl, h1, _⟩
  · cases hi
  · cases hi
  · cases hi; rw [h1]; rfl
theorem Rd.frame {H H' : AHeap} {v : AV} {l : List (List Dat)} (h : Rd H v l) (hk : ∀ i, idOf v = some i → H' i = H i) : Rd H' v l := by
  refine ⟨?_, h.2.1, fun i hi => by rw [hk i hi]; exact h.2.2 i hi⟩
  have h1 := h.1
  cases v <;> simp only [elemsA] at h1 ⊢ <;> try exact h1
  · rename_i x; cases x <;> exact h1
  · rename_i i ver z o n
    rw [hk i rfl]; exact h1
theorem Own.frz_rd {H0 H : AHeap} {sz : Nat} {v : AV} {l : List (List Dat)} {w : AV} {us : Ups} (h : Own H0 sz H v l) (hf : AM.frz v H = some (w, us)) : Rd (H.sets us) v l := by
  rcases h.2.2 with ⟨rfl, rfl⟩ | rfl | ⟨i, ver, L, rfl, h1, h2, h3, h4⟩
  · simp only [AM.frz, Option.some.injEq, Prod.mk.injEq] at hf
    obtain ⟨_, rfl⟩ := hf
    exact h.rd
  · simp only [AM.frz, Option.some.injEq, Prod.mk.injEq] at hf
    obtain ⟨_, rfl⟩ := hf
    exact h.rd
  · simp only [AM.frz, h1, if_true, List.drop_zero, h2, toDatss_avs, Option.some.injEq, Prod.mk.injEq] at hf
    obtain ⟨_, rfl⟩ := hf
    simp only [AHeap.sets]
    refine ⟨?_, rfl, fun j hj => by cases hj; rw [set_self]; rfl⟩
    simp only [elemsA, set_self, if_true, List.drop_zero, h2, avs_length]
/-- Given away once more. -/
theorem Own.frz2 {H0 H : AHeap} {sz : Nat} {v : AV} {l : List (List Dat)} {w : AV} {us : Ups} (h : Own H0 sz H v l) (hf : AM.frz v H = some (w, us)) : ∃ us', AM.frz v (H.sets us) = some (w, us') ∧ AHeap.le H0 ((H.sets us).sets us') := by
  rcases h.2.2 with ⟨rfl, rfl⟩ | rfl | ⟨i, ver, L, rfl, h1, h2, h3, h4⟩
  · simp only [AM.frz, Option.some.injEq, Prod.mk.injEq] at hf
    obtain ⟨rfl, rfl⟩ := hf
    exact ⟨[], rfl, h.1⟩
  · simp only [AM.frz, Option.some.injEq, Prod.mk.injEq] at hf
    obtain ⟨rfl, rfl⟩ := hf
    exact ⟨[], rfl, h.1⟩
  · simp only [AM.frz, h1, if_true, List.drop_zero, h2, toDatss_avs, Option.some.injEq, Prod.mk.injEq] at hf
    obtain ⟨rfl, rfl⟩ := hf
    simp only [AHeap.sets]
    refine ⟨[(i, .mem ver (max (max 0 (0 + l.length)) (0 + l.length)) sz L)], ?_, ?_⟩
    · simp only [AM.frz, set_self, if_true, List.drop_zero, h2, toDatss_avs]
    · simp only [AHeap.sets]
      exact le_set_own (le_set_own h.1 h4) h4
/-- Another object of the base is rewritten. -/
theorem Own.upd {H0 H : AHeap} {sz k : Nat} {v : AV} {l : List (List Dat)} {o o' : AObj} (h : Own H0 sz H v l) (hk : H0 k = some o) : Own (H0.set k o') sz (H.set k o') v l := by
  obtain ⟨h1, h2, h3⟩ := h
  have hle : AHeap.le (H0.set k o') (H.set k o') := fun i x hi => by
    by_cases he : i = k
    · subst he; rw [set_self] at hi ⊢; exact hi
    · rw [set_ne he] at hi ⊢; exact h1 i x hi
  refine ⟨hle, h2, ?_⟩
  rcases h3 with h3 | h3 | ⟨i, ver, L, rfl, h4, h5, h6, h7⟩
  · exact .inl h3
  · exact .inr (.inl h3)
  · have hne : i ≠ k := by intro he; rw [he, hk] at h7; cases h7
    exact .inr (.inr ⟨i, ver, L, rfl, by rw [set_ne hne]; exact h4, h5, h6, by rw [set_ne hne]; exact h7⟩)

/-! ### writing into objects of one's own -/
def stoM (size i ver fro esz : Nat) (l : List (List AV)) (e off : Nat) (v : AV) : Option (AV × Ups) :=
  if fro ≤ e ∧ v.storable = true ∧ v.cells.length = size then (match l[e]? with
    | some cs => if off + size ≤ cs.length then some (.junk, [(i, .mem ver fro esz (l.set e (setCells cs off v.cells)))]) else none
    | none => none) else none
theorem stoA_of {size i ver fro esz e off : Nat} {l : List (List AV)} {v : AV} {H : AHeap} (h : H i = some (.mem ver fro esz l)) : stoA false size (.ptr i ver e off) v H = stoM size i ver fro esz l e off v := by
  simp only [stoA, stA, h, stoM, true_and, Bool.false_eq_true, if_false]
  by_cases hc : fro ≤ e ∧ v.storable = true ∧ v.cells.length = size
  · simp only [if_pos hc]
    cases l[e]? with
    | none => rfl
    | some cs =>
      by_cases ho : off + size ≤ cs.length
      · simp only [if_pos ho]
      · simp only [if_neg ho]
  · simp only [if_neg hc]
theorem stoA_agg {size : Nat} {p : AV} {c : List AV} {H : AHeap} : stoA true size p (.agg c) H = match frzL c H with
    | some (c', us) => (match stoA false size p (.agg c') (H.sets us) with | some (x, us') => some (x, us ++ us') | none => none)
    | none => none := by
  simp only [stoA, if_true]
  cases frzL c H with
  | none => rfl
  | some r =>
    obtain ⟨c', us⟩ := r
    simp only [Bool.false_eq_true, if_false]
    cases stA size p (.agg c') (H.sets us) with
    | none => rfl
    | some u => rfl
theorem set_set {H : AHeap} {i : Nat} {o o' : AObj} : (H.set i o).set i o' = H.set i o' := by
  funext j
  unfold AHeap.set
  split <;> rfl
theorem le_none {H H' : AHeap} {k : Nat} (h : AHeap.le H H') (hk : H' k = none) : H k = none := by
  cases hh : H k with
  | none => rfl
  | some o => rw [h k o hh] at hk; cases hk
theorem le_ne {H : AHeap} {i k : Nat} {o : AObj} (hi : H i = some o) (hk : H k = none) : i ≠ k := by
  intro he; rw [he, hk] at hi; cases hi
def getM (H : AHeap) (i ver : Nat) : Option (Nat × Nat × List (List AV)) := match H i with | some (.mem ver' fro esz l) => if ver = ver' then some (fro, esz, l) else none | _ => none
theorem getM_of {i ver fro esz : Nat} {l : List (List AV)} {H : AHeap} (h : H i = some (.mem ver fro esz l)) : getM H i ver = some (fro, esz, l) := by simp only [getM, h, if_true]
theorem getM_set {i ver fro esz : Nat} {l : List (List AV)} {H : AHeap} : getM (H.set i (.mem ver fro esz l)) i ver = some (fro, esz, l) := getM_of set_self
theorem getM_ne {i j ver : Nat} {o : AObj} {H : AHeap} (h : i ≠ j) : getM (H.set j o) i ver = getM H i ver := by unfold getM; rw [set_ne h]
theorem ldV_get {agg : Bool} {size i ver e off : Nat} {H : AHeap} : ldV agg size (.ptr i ver e off) H = match getM H i ver with | some r => ldM agg size r.2.2 e off | none => none := by
  unfold getM
  cases h : H i with
  | none => simp only [ldV, h]
  | some o =>
    cases o with
    | mem ver' fro esz l =>
      by_cases hv : ver = ver'
      · subst hv; simp only [if_true]; exact ldV_of h
      · simp only [ldV, h, if_neg hv]
    | map es c => simp only [ldV, h]
    | iter a b c d => simp only [ldV, h]
    | iter0 => simp only [ldV, h]
theorem stoA_get {size i ver e off : Nat} {v : AV} {H : AHeap} : stoA false size (.ptr i ver e off) v H = match getM H i ver with | some r => stoM size i ver r.1 r.2.1 r.2.2 e off v | none => none := by
  unfold getM
  cases h : H i with
  | none => simp only [stoA, stA, h, Bool.false_eq_true, if_false]
  | some o =>
    cases o with
    | mem ver' fro esz l =>
      by_cases hv : ver = ver'
      · subst hv; simp only [if_true]; exact stoA_of h
      · simp only [stoA, stA, h, Bool.false_eq_true, if_false, hv, false_and]
    | map es c => simp only [stoA, stA, h, Bool.false_eq_true, if_false]
    | iter a b c d => simp only [stoA, stA, h, Bool.false_eq_true, if_false]
    | iter0 => simp only [stoA, stA, h, Bool.false_eq_true, if_false]
theorem stoA_set {size i ver fro esz e off : Nat} {l : List (List AV)} {v : AV} {H : AHeap} : stoA false size (.ptr i ver e off) v (H.set i (.mem ver fro esz l)) = stoM size i ver fro esz l e off v := stoA_of set_self
theorem set_le {H H' : AHeap} {k : Nat} {o : AObj} (h : AHeap.le H H') (hk : H k = none) : AHeap.le H (H'.set k o) := le_set_own h hk

/-! ### bytes out of numbers -/
def b8 (n : Int) : UInt8 := UInt8.ofNat (n % 256).toNat
theorem wrap_u8 (n : Int) : IntKind.u8.wrap n = ((b8 n).toNat : Int) := by
  unfold b8
  rw [UInt8.toNat_ofNat']
  simp [IntKind.wrap, IntKind.signed, IntKind.bits]
  omega
theorem b8_toNat (n : Int) : ((b8 n).toNat : Int) = n % 256 := by
  unfold b8
  rw [UInt8.toNat_ofNat']
  omega
theorem wrap_i64 {n : Int} (h1 : -9223372036854775808 ≤ n) (h2 : n ≤ 9223372036854775807) : IntKind.i64.wrap n = n := by
  simp [IntKind.wrap, IntKind.signed, IntKind.bits]
  split <;> omega
theorem bs_sz {l : List UInt8} : ∀ c ∈ bs l, c.length = 1 := by
  intro c hc
  simp only [bs, List.mem_map] at hc
  obtain ⟨b, _, rfl⟩ := hc
  rfl
theorem sl_get {nl : Bool} {l : List (List Dat)} {ti : TI} {e esz : Nat} {i : Int} {c : List Dat} (hk : ti.k = .slice e) (h0 : 0 ≤ i) (h : l[i.toNat]? = some c) (hc : c.length = esz) : indexAddrA ti esz (.d (.sl nl l)) (.d (.int .i64 i)) = some (.vptr c 0) := by
  simp only [indexAddrA, hk, h0, if_true, h, hc]
end Go.AM

/- The law of how a list grows. -/
import Derived.Test.YtlaojbclmcageaaM15m
set_option autoImplicit false
set_option maxRecDepth 100000
set_option linter.unusedVariables false
set_option linter.unusedSimpArgs false
namespace Go.Proofs.Ytlaojbclmcageaa
open Go Go.AM Go.Proofs
/-- Where a list ends. -/
def endOf (l : List Ext) : Int := match l[l.length - 1]? with
  | some x => x.1 + x.2
  | none => 0
def extn (m : List Bool) (l : List Ext) (n : Int) : List Int := if l = [] then [] else part (endOf l, 0) (min n.toNat (lead (m.drop (endOf l).toNat)))
def growE (m : List Bool) (l : List Ext) (n : Int) : Int := if Val m.length l ∧ 0 ≤ n then (if n ≤ (fr m).length then 0 else 150) else 2
def growR (m : List Bool) (l : List Ext) (n : Int) : List Int := pick (mk m (extn m l n) true) (n - (extn m l n).length)
def growL (m : List Bool) (l : List Ext) (n : Int) : List Ext := if growE m l n = 0 then short l (extn m l n ++ growR m l n) else []
def growM (m : List Bool) (l : List Ext) (n : Int) : List Bool := if growE m l n = 0 then mk (mk m (extn m l n) true) (growR m l n) true else []
theorem extn_len {m : List Bool} {l : List Ext} {n : Int} (h0 : 0 ≤ n) : ((extn m l n).length : Int) ≤ n := by
  unfold extn
  split
  · simpa using h0
  · rw [part_len]; omega
theorem endOf_bd {n : Int} {l : List Ext} (hv : Val n l) (hn : 0 ≤ n) : 0 ≤ endOf l ∧ endOf l ≤ n := by
  unfold endOf
  split
  · rename_i x hx
    have := hv.2.1 x (List.mem_of_getElem? hx)
    unfold Ok1 at this
    omega
  · omega
theorem lead_drop {m : List Bool} {a : Nat} : lead (m.drop a) ≤ m.length - a := by
  have := lead_le (m.drop a)
  simpa using this
theorem extn_mem {m : List Bool} {l : List Ext} {n b : Int} (hv : Val m.length l) (h : b ∈ extn m l n) : 0 ≤ b ∧ b < m.length := by
  unfold extn at h
  split at h
  · simp at h
  · have h1 := part_mem h
    have h2 := endOf_bd hv (by omega)
    have h3 := lead_drop (m := m) (a := (endOf l).toNat)
    simp only at h1
    omega
theorem frFrom_count : ∀ {m : List Bool} {i : Int}, (frFrom m i).length = m.countP (fun b => !b)
  | [], i => by simp [frFrom]
  | x :: r, i => by
    simp only [frFrom]
    cases x <;> simp [frFrom_count (m := r) (i := i + 1)]
theorem fr_set {m : List Bool} {j : Nat} {u : Bool} : (fr m).length ≤ (fr (m.set j u)).length + 1 := by
  unfold fr
  rw [frFrom_count, frFrom_count]
  by_cases h : j < m.length
  · rw [List.countP_set h]
    split <;> split <;> omega
  · rw [List.set_eq_of_length_le (by omega)]; omega
theorem fr_mk {u : Bool} : ∀ {l : List Int} {m : List Bool}, (fr m).length ≤ (fr (mk m l u)).length + l.length
  | [], m => by simp [mk]
  | b :: r, m => by
    have ih := fr_mk (u := u) (l := r) (m := m.set b.toNat u)
    have h1 := fr_set (m := m) (j := b.toNat) (u := u)
    have e : mk m (b :: r) u = mk (m.set b.toNat u) r u := rfl
    rw [e, List.length_cons]
    omega
theorem growR_mem {m : List Bool} {l : List Ext} {n b : Int} (h0 : 0 ≤ n) (h : b ∈ growR m l n) : 0 ≤ b ∧ b < m.length := by
  have h1 := extn_len (m := m) (l := l) h0
  have := pick_mem (by omega) h
  rwa [mk_len] at this
theorem growR_len {m : List Bool} {l : List Ext} {n : Int} : (growR m l n).length ≤ (n - (extn m l n).length).toNat := pick_len
theorem val_bd {n c : Int} {l : List Ext} (hv : Val n l) (hc : 300 ≤ c) : Bd c l := fun x hx => by
  have := hv.2.1 x hx
  have := hv.1
  unfold Ok1 at *
  omega
/-- The end of Grow. -/
def tail25 (γ : Calld) (a0 a1 a2 v : AV) (H : AHeap) (K : AV → AHeap → Prop) : Prop :=
  frzLK [a0, v, .d (.bool true)] H fun l42 H43 => γ 49 l42 H43 fun v40 H41 => optA (lenSl v) fun v44 => optA (intA .sub a2 v44) fun v45 => frzLK [v40, v45] H41 fun l48 H49 => γ 47 l48 H49 fun v46 H47 => newK H47 (fun n52 => apA 1 8 v v46 H47 n52) fun v50 H51 => frzLK [v50] H51 fun l55 H56 => γ 48 l55 H56 fun v53 H54 => frzLK [a1, v53] H54 fun l59 H60 => γ 57 l59 H60 fun v57 H58 => frzLK [v40, v46, .d (.bool true)] H58 fun l63 H64 => γ 49 l63 H64 fun v61 H62 => retF [v57, v61, .d (.int .i64 0)] H62 K
section
variable {n1 n2 : Bool} {m : List Bool} {l : List Ext} {n : Int}
theorem grow_tail (hv : Val m.length l) (h0 : 0 ≤ n) (hn : n ≤ (fr m).length) (hl : l.length ≤ 400) (hn1 : n1 = true → m = []) (hn2 : n2 = true → l = []) {H G : AHeap} {v : AV} {K : AV → AHeap → Prop} (h : ∀ n3 n4, (n3 = true → growL m l n = []) → (n4 = true → growM m l n = []) → K (.tup [.d (.sl n3 (es (growL m l n))), .d (.sl n4 (bls (growM m l n))), .d (.int .i64 0)]) H)
    (hG : Gr H 1 G v (ints (extn m l n))) : tail25 (CallsA Try.prog) (.d (.sl n1 (bls m))) (.d (.sl n2 (es l))) (.d (.int .i64 n)) v G K := by
  have hE : growE m l n = 0 := by unfold growE; rw [if_pos ⟨hv, h0⟩, if_pos hn]
  have hm := hv.1
  have hfl := fr_len (m := m)
  have hxl := extn_len (m := m) (l := l) h0
  have hrl := growR_len (m := m) (l := l) (n := n)
  have hxm : ∀ b ∈ extn m l n, 0 ≤ b ∧ b < m.length := fun b hb => extn_mem hv hb
  have hrm : ∀ b ∈ growR m l n, 0 ≤ b ∧ b < m.length := fun b hb => growR_mem h0 hb
  have eL : growL m l n = short l (extn m l n ++ growR m l n) := by unfold growL; rw [if_pos hE]
  have eM : growM m l n = mk (mk m (extn m l n) true) (growR m l n) true := by unfold growM; rw [if_pos hE]
  rw [eL, eM] at h
  unfold growR at hrl hrm h
  generalize hX : extn m l n = B at *
  obtain ⟨us, f2, f3⟩ := frz_ints hG
  unfold tail25
  rw [frzLK_d, frzLK_of f2]
  simp only [go_sem]
  refine marked_c (by omega) (by omega) hn1 hxm fun n3 hn3 => ?_
  have hlen : (mk m B true).length = m.length := mk_len
  generalize hM : mk m B true = M at *
  simp only [hG.len, ints_len, go_sem]
  rw [wrap_i64 (n := n - (B.length : Int)) (by omega) (by omega)]
  refine allot_c (by omega) (by omega) (by omega) fun n4 hn4 => ?_
  generalize hP : pick M (n - (B.length : Int)) = P at *
  have hBP : ∀ b ∈ B ++ P, 0 ≤ b ∧ b ≤ 300 := fun b hb => by
    rcases List.mem_append.1 hb with hb | hb
    · have := hxm b hb; omega
    · have := hrm b hb; omega
  refine hG.frz_app f2 (ys := ints P) (x := .d (.sl n4 (ints P))) rfl (by decide) (by decide) ints_1 (by rw [ints_len, ints_len]; simp [mostBytes]; omega) fun v' H' hv' => ?_
  obtain ⟨us', nl', g1, g2, g3⟩ := hv'
  rw [← ints_app] at g1
  rw [frzLK_of g1]
  simp only [go_sem]
  refine of_c hBP (by rw [List.length_append]; omega) fun n5 hn5 => ?_
  simp only [go_sem]
  have hsl := short_len (l := []) (bs := B ++ P)
  simp only [List.length_nil, List.length_append] at hsl
  have hsb := short_bd (c := 0) (l := []) (bs := B ++ P) (by simp [Bd]) (by omega) hBP
  refine join_c (by omega) (by omega) (val_bd hv (by omega)) (fun x hx => ?_) hn2 hn5 fun n6 hn6 => ?_
  · have := hsb x hx
    rw [List.length_append] at this
    omega
  rw [join_short] at hn6 ⊢
  simp only [go_sem]
  refine marked_c (by omega) (by omega) (fun hh => hn3 hh) (fun b hb => by rw [hlen]; exact hrm b hb) fun n7 hn7 => ?_
  simp only [go_sem]
  exact ⟨H, g2, h n6 n7 hn6 hn7⟩
theorem Grow_c (hw : Wide l) (hl : l.length ≤ 400) (hn1 : n1 = true → m = []) (hn2 : n2 = true → l = []) {H : AHeap} {K : AV → AHeap → Prop} (h : ∀ n3 n4, (n3 = true → growL m l n = []) → (n4 = true → growM m l n = []) → K (.tup [.d (.sl n3 (es (growL m l n))), .d (.sl n4 (bls (growM m l n))), .d (.int .i64 (growE m l n))]) H) : CallsA Try.prog 25 [.d (.sl n1 (bls m)), .d (.sl n2 (es l)), .d (.int .i64 n)] H K := by
  have no : ∀ e : Int, e ≠ 0 → growE m l n = e → finA (.tup [.d (.sl true []), .d (.sl true []), .d (.int .i64 e)]) H K := fun e h0 he => by
    have := h true true (fun _ => by unfold growL; rw [he, if_neg h0]) (fun _ => by unfold growM; rw [he, if_neg h0])
    unfold growL growM at this
    rw [he, if_neg h0, if_neg h0] at this
    exact ⟨H, le_refl', this⟩
  apply C25
  unfold S25
  simp only [go_sem]
  refine isMap_c hw (by omega) ?_
  simp only [go_sem]
  split
  · rename_i hv
    exact no 2 (by decide) (by unfold growE; rw [if_neg (fun hh => hv hh.1)])
  rename_i hv
  have hv := Classical.not_not.1 hv
  try simp only [go_sem]
  split
  · exact no 2 (by decide) (by unfold growE; rw [if_neg (by omega)])
  rename_i h2
  have hm := hv.1
  try simp only [go_sem]
  refine count_c (by omega) ?_
  simp only [go_sem]
  split
  · exact no 150 (by decide) (by unfold growE; rw [if_pos ⟨hv, by omega⟩, if_neg (by omega)])
  rename_i h3
  have hE : growE m l n = 0 := by unfold growE; rw [if_pos ⟨hv, by omega⟩, if_pos (by omega)]
  rw [hE] at h
  have tail : ∀ v G, Gr H 1 G v (ints (extn m l n)) → tail25 (CallsA Try.prog) (.d (.sl n1 (bls m))) (.d (.sl n2 (es l))) (.d (.int .i64 n)) v G K := fun v G hG => grow_tail hv (by omega) (by omega) hl hn1 hn2 h hG
  unfold tail25 at tail
  simp only [es_len, go_sem] at tail ⊢
  split
  · rename_i h4
    have hne : l ≠ [] := by rintro rfl; simp at h4
    obtain ⟨x, hx⟩ : ∃ x, l[l.length - 1]? = some x := ⟨_, List.getElem?_eq_getElem (by omega)⟩
    have hxb := hv.2.1 x (List.mem_of_getElem? hx)
    unfold Ok1 at hxb
    have ht : ((l.length : Int) - 1).toNat = l.length - 1 := by omega
    have hix : indexAddrA ti23 2 (.d (.sl n2 (es l))) (.d (.int .i64 ((l.length : Int) - 1))) = some (.vptr (ex x) 0) := sl_get (e := 66) rfl (by omega) (by rw [ht, es, List.getElem?_map, hx]; rfl) rfl
    rw [wrap_i64 (n := (l.length : Int) - 1) (by omega) (by omega)]
    simp only [hix, ex, List.map_cons, List.map_nil, ti66_v0, ti66_v1, go_sem]
    rw [wrap_i64 (n := x.1 + x.2) (by omega) (by omega)]
    have he : endOf l = x.1 + x.2 := by unfold endOf; rw [hx]
    have hex : extn m l n = part (x.1 + x.2, 0) (min n.toNat (lead (m.drop (x.1 + x.2).toNat))) := by unfold extn; rw [if_neg hne, he]
    rw [hex] at tail
    generalize hat : x.1 + x.2 = a at *
    have hld := lead_drop (m := m) (a := a.toNat)
    refine loop_ind (fun r vs G => ∃ (k : Nat) (v : AV), (k : Int) ≤ n ∧ r = (n - (k : Int)).toNat ∧ lead (m.drop a.toNat) = k + lead (m.drop (a.toNat + k)) ∧ Gr H 1 G v (ints (part (a, 0) k)) ∧ vs = [.d (.sl n1 (bls m)), .d (.sl n2 (es l)), .d (.int .i64 n), v, .d (.int .i64 (a + (k : Int)))]) (n := n.toNat)
      ⟨0, _, by omega, by omega, by simp, Gr.nil le_refl', by simp⟩ ?_
    rintro X r vs G ⟨k, v, hk, rfl, hle, hG, rfl⟩ hX
    have hend : k = min n.toNat (lead (m.drop a.toNat)) → Gr H 1 G v (ints (part (a, 0) (min n.toNat (lead (m.drop a.toNat))))) := fun he => by rw [← he]; exact hG
    have t := tail v G
    simp only [List.getD_cons_succ, List.getD_cons_zero, hG.len, ints_len, part_len, bls_len, go_sem] at t ⊢
    split
    · rename_i hlt
      split
      · rename_i hlt2
        have hk' : a.toNat + k < m.length := by omega
        have hd : m.drop (a.toNat + k) = m[a.toNat + k] :: m.drop (a.toNat + k + 1) := List.drop_eq_getElem_cons hk'
        have e : (a + (k : Int)).toNat = a.toNat + k := by omega
        simp only [sl_get (ti := ti22) (e := 4) (esz := 1) rfl (by omega : (0 : Int) ≤ a + (k : Int)) (by rw [e]; exact bls_get hk') rfl, List.map_cons, List.map_nil, go_sem]
        split
        · rename_i hb
          rw [hd, hb] at hle
          simp only [lead] at hle
          intro n35 _
          simp only [bs3_1, go_sem]
          refine one_more hG (by rw [part_len]; omega) fun v4 G4 hG4 _ _ => ?_
          rw [wrap_i64 (by omega) (by omega)]
          refine hX (n - ((k + 1 : Nat) : Int)).toNat _ _ (by omega) ⟨k + 1, v4, by omega, rfl, by rw [← Nat.add_assoc]; omega, by rw [part_succ]; exact hG4, ?_⟩
          simp only [List.cons.injEq, AV.d.injEq, Dat.int.injEq, true_and, and_true]; omega
        · rename_i hb
          rw [Bool.not_eq_false] at hb
          rw [hd, hb] at hle
          simp only [lead, Nat.add_zero] at hle
          exact t (hend (by omega))
      · rename_i hge
        rw [List.drop_eq_nil_of_le (by omega : m.length ≤ a.toNat + k)] at hle
        simp only [lead, Nat.add_zero] at hle
        exact t (hend (by omega))
    · rename_i hge
      exact t (hend (by omega))
  · rename_i h4
    obtain rfl : l = [] := by
      cases l with
      | nil => rfl
      | cons z r => simp at h4
    have t := tail (.d (.sl true [])) H (by
      have e : extn m [] n = [] := by unfold extn; rw [if_pos rfl]
      rw [e]
      exact Gr.nil le_refl')
    simp only [es_nil, ints, List.map_nil, lenSl_d, List.length_nil, go_sem] at t ⊢
    exact t
end
end Go.Proofs.Ytlaojbclmcageaa

/- The law of how a list grows. -/
import Derived.Test.YtlaojbclmcageaaM15n
set_option autoImplicit false
set_option maxRecDepth 100000
set_option linter.unusedVariables false
set_option linter.unusedSimpArgs false
namespace Go.Proofs.Ytlaojbclmcageaa
open Go Go.AM Go.Proofs
theorem blk_end {l : List Ext} {x : Ext} (hx : l[l.length - 1]? = some x) (h1 : 1 ≤ x.2) : (blk l)[(blk l).length - 1]? = some (x.1 + x.2 - 1) := by
  rcases List.eq_nil_or_concat l with rfl | ⟨o, y, rfl⟩
  · simp at hx
  · rw [List.concat_eq_append] at hx ⊢
    have : y = x := by simpa using hx
    subst this
    obtain ⟨k, hk⟩ : ∃ k : Nat, y.2.toNat = k + 1 := ⟨y.2.toNat - 1, by omega⟩
    rw [blk_snoc, blk1, hk, part_succ, ← List.append_assoc]
    simp only [List.length_append, List.length_singleton, Nat.add_sub_cancel]
    rw [List.getElem?_append_right (by simp)]
    simp
    omega
def tail26 (γ : Calld) (a0 a1 a2 v : AV) (H : AHeap) (K : AV → AHeap → Prop) : Prop :=
  frzLK [a0, v, .d (.bool true)] H fun l44 H45 => γ 53 l44 H45 fun v42 H43 => optA (lenSl v) fun v46 => optA (intA .sub a2 v46) fun v47 => frzLK [v42, v47] H43 fun l50 H51 => γ 51 l50 H51 fun v48 H49 => newK H49 (fun n54 => apA 1 8 v v48 H49 n54) fun v52 H53 => frzLK [a1, v52] H53 fun l57 H58 => γ 52 l57 H58 fun v55 H56 => frzLK [v42, v48, .d (.bool true)] H56 fun l61 H62 => γ 53 l61 H62 fun v59 H60 => retF [v55, v59, .d (.int .i64 0)] H60 K
section
variable {n1 n2 : Bool} {m : List Bool} {l : List Ext} {n : Int}
theorem rgrow_tail (hv : Val m.length l) (h0 : 0 ≤ n) (hn : n ≤ (fr m).length) (hl : l.length ≤ 400) {H G : AHeap} {v : AV} {K : AV → AHeap → Prop} (h : ∀ n3 n4, (n3 = true → growL m l n = []) → (n4 = true → growM m l n = []) → K (.tup [.d (.sl n3 (es (growL m l n))), .d (.sl n4 (bls (growM m l n))), .d (.int .i64 0)]) H)
    (hG : Gr H 1 G v (ints (extn m l n))) : tail26 (CallsA Try.prog) (.d (.sl n1 (bls m))) (.d (.sl n2 (es l))) (.d (.int .i64 n)) v G K := by
  have hE : growE m l n = 0 := by unfold growE; rw [if_pos ⟨hv, h0⟩, if_pos hn]
  have hm := hv.1
  have hfl := fr_len (m := m)
  have hxl := extn_len (m := m) (l := l) h0
  have hrl := growR_len (m := m) (l := l) (n := n)
  have hxm : ∀ b ∈ extn m l n, 0 ≤ b ∧ b < m.length := fun b hb => extn_mem hv hb
  have hrm : ∀ b ∈ growR m l n, 0 ≤ b ∧ b < m.length := fun b hb => growR_mem h0 hb
  have hfm := fr_mk (u := true) (l := extn m l n) (m := m)
  have eL : growL m l n = short l (extn m l n ++ growR m l n) := by unfold growL; rw [if_pos hE]
  have eM : growM m l n = mk (mk m (extn m l n) true) (growR m l n) true := by unfold growM; rw [if_pos hE]
  rw [eL, eM] at h
  unfold growR at hrl hrm h
  generalize hX : extn m l n = B at *
  obtain ⟨us, f2, f3⟩ := frz_ints hG
  unfold tail26
  rw [frzLK_d, frzLK_of f2]
  simp only [go_sem]
  refine rmarked_c (by omega) (by omega) hxm fun n3 hn3 => ?_
  have hlen : (mk m B true).length = m.length := mk_len
  generalize hM : mk m B true = M at *
  simp only [hG.len, ints_len, go_sem]
  rw [wrap_i64 (n := n - (B.length : Int)) (by omega) (by omega)]
  refine picks_c (by omega) (by omega) (by omega) fun n4 hn4 => ?_
  generalize hP : pick M (n - (B.length : Int)) = P at *
  have hBP : ∀ b ∈ B ++ P, 0 ≤ b ∧ b ≤ 300 := fun b hb => by
    rcases List.mem_append.1 hb with hb | hb
    · have := hxm b hb; omega
    · have := hrm b hb; omega
  refine hG.frz_app f2 (ys := ints P) (x := .d (.sl n4 (ints P))) rfl (by decide) (by decide) ints_1 (by rw [ints_len, ints_len]; simp [mostBytes]; omega) fun v' H' hv' => ?_
  obtain ⟨us', nl', g1, g2, g3⟩ := hv'
  rw [← ints_app] at g1
  rw [frzLK_of g1]
  simp only [go_sem]
  refine short_c (by omega) (val_bd hv (by omega)) hBP (by rw [List.length_append]; omega) fun n6 hn6 => ?_
  simp only [go_sem]
  refine rmarked_c (by omega) (by omega) (fun b hb => by rw [hlen]; exact hrm b hb) fun n7 hn7 => ?_
  simp only [go_sem]
  exact ⟨H, g2, h n6 n7 hn6 hn7⟩
theorem rGrow_c (hw : Wide l) (hl : l.length ≤ 400) {H : AHeap} {K : AV → AHeap → Prop} (h : ∀ n3 n4, (n3 = true → growL m l n = []) → (n4 = true → growM m l n = []) → K (.tup [.d (.sl n3 (es (growL m l n))), .d (.sl n4 (bls (growM m l n))), .d (.int .i64 (growE m l n))]) H) : CallsA Try.prog 26 [.d (.sl n1 (bls m)), .d (.sl n2 (es l)), .d (.int .i64 n)] H K := by
  have no : ∀ e : Int, e ≠ 0 → growE m l n = e → finA (.tup [.d (.sl true []), .d (.sl true []), .d (.int .i64 e)]) H K := fun e h0 he => by
    have := h true true (fun _ => by unfold growL; rw [he, if_neg h0]) (fun _ => by unfold growM; rw [he, if_neg h0])
    unfold growL growM at this
    rw [he, if_neg h0, if_neg h0] at this
    exact ⟨H, le_refl', this⟩
  apply C26
  unfold S26
  simp only [bls_len, go_sem]
  refine rvalid_c hw (by omega) ?_
  simp only [go_sem]
  split
  · rename_i hv
    exact no 2 (by decide) (by unfold growE; rw [if_neg (fun hh => hv hh.1)])
  rename_i hv
  have hv := Classical.not_not.1 hv
  try simp only [go_sem]
  split
  · exact no 2 (by decide) (by unfold growE; rw [if_neg (by omega)])
  rename_i h2
  have hm := hv.1
  have hfl := fr_len (m := m)
  try simp only [go_sem]
  refine rfree_c (by omega) fun n3 hn3 => ?_
  simp only [ints_len, go_sem]
  split
  · exact no 150 (by decide) (by unfold growE; rw [if_pos ⟨hv, by omega⟩, if_neg (by omega)])
  rename_i h3
  have hE : growE m l n = 0 := by unfold growE; rw [if_pos ⟨hv, by omega⟩, if_pos (by omega)]
  rw [hE] at h
  have tail : ∀ v G, Gr H 1 G v (ints (extn m l n)) → tail26 (CallsA Try.prog) (.d (.sl n1 (bls m))) (.d (.sl n2 (es l))) (.d (.int .i64 n)) v G K := fun v G hG => rgrow_tail hv (by omega) (by omega) hl h hG
  unfold tail26 at tail
  have hval3 : ∀ x ∈ l, Ok1 300 x := val_ok hv
  try simp only [go_sem]
  refine rblocks_c hval3 (by omega) fun n4 hn4 => ?_
  simp only [ints_len, go_sem] at tail ⊢
  have hbl := blk_len hval3
  split
  · rename_i h4
    have hne : l ≠ [] := by rintro rfl; simp [blk] at h4
    have hpos : 0 < l.length := List.length_pos_iff.2 hne
    obtain ⟨x, hx⟩ : ∃ x, l[l.length - 1]? = some x := ⟨_, List.getElem?_eq_getElem (by omega)⟩
    have hxb := hv.2.1 x (List.mem_of_getElem? hx)
    unfold Ok1 at hxb
    have hbe := blk_end hx (by omega)
    have ht : (((blk l).length : Int) - 1).toNat = (blk l).length - 1 := by omega
    have hix : indexAddrA ti33 1 (.d (.sl n4 (ints (blk l)))) (.d (.int .i64 (((blk l).length : Int) - 1))) = some (.vptr [.int .i64 (x.1 + x.2 - 1)] 0) := sl_get (e := 3) rfl (by omega) (by rw [ht, ints, List.getElem?_map, hbe]; rfl) rfl
    rw [wrap_i64 (n := ((blk l).length : Int) - 1) (by omega) (by omega)]
    simp only [hix, List.map_cons, List.map_nil, go_sem]
    rw [wrap_i64 (n := x.1 + x.2 - 1 + 1) (by omega) (by omega)]
    have he : endOf l = x.1 + x.2 := by unfold endOf; rw [hx]
    have hex : extn m l n = part (x.1 + x.2, 0) (min n.toNat (lead (m.drop (x.1 + x.2).toNat))) := by unfold extn; rw [if_neg hne, he]
    rw [hex] at tail
    rw [show x.1 + x.2 - 1 + 1 = x.1 + x.2 by omega]
    generalize hat : x.1 + x.2 = a at *
    have hld := lead_drop (m := m) (a := a.toNat)
    refine loop_ind (fun r vs G => ∃ (k : Nat) (v : AV), (k : Int) ≤ n ∧ r = (n - (k : Int)).toNat ∧ lead (m.drop a.toNat) = k + lead (m.drop (a.toNat + k)) ∧ Gr H 1 G v (ints (part (a, 0) k)) ∧ vs = [.d (.sl n1 (bls m)), .d (.sl n2 (es l)), .d (.int .i64 n), v, .d (.int .i64 (a + (k : Int)))]) (n := n.toNat)
      ⟨0, _, by omega, by omega, by simp, Gr.nil le_refl', by simp⟩ ?_
    rintro X r vs G ⟨k, v, hk, rfl, hle, hG, rfl⟩ hX
    have hend : k = min n.toNat (lead (m.drop a.toNat)) → Gr H 1 G v (ints (part (a, 0) (min n.toNat (lead (m.drop a.toNat))))) := fun he => by rw [← he]; exact hG
    have t := tail v G
    simp only [List.getD_cons_succ, List.getD_cons_zero, hG.len, ints_len, part_len, bls_len, go_sem] at t ⊢
    split
    · rename_i hlt2
      have hk' : a.toNat + k < m.length := by omega
      have hd : m.drop (a.toNat + k) = m[a.toNat + k] :: m.drop (a.toNat + k + 1) := List.drop_eq_getElem_cons hk'
      have e : (a + (k : Int)).toNat = a.toNat + k := by omega
      simp only [sl_get (ti := ti22) (e := 4) (esz := 1) rfl (by omega : (0 : Int) ≤ a + (k : Int)) (by rw [e]; exact bls_get hk') rfl, List.map_cons, List.map_nil, go_sem]
      split
      · rename_i hb
        rw [hd, hb] at hle
        simp only [lead] at hle
        try simp only [hG.len, ints_len, part_len, go_sem]
        split
        · rename_i hlt
          intro n35 _
          simp only [bs3_1, go_sem]
          refine one_more hG (by rw [part_len]; omega) fun v4 G4 hG4 _ _ => ?_
          rw [wrap_i64 (by omega) (by omega)]
          refine hX (n - ((k + 1 : Nat) : Int)).toNat _ _ (by omega) ⟨k + 1, v4, by omega, rfl, by rw [← Nat.add_assoc]; omega, by rw [part_succ]; exact hG4, ?_⟩
          simp only [List.cons.injEq, AV.d.injEq, Dat.int.injEq, true_and, and_true]; omega
        · rename_i hge
          exact t (hend (by omega))
      · rename_i hb
        rw [Bool.not_eq_false] at hb
        rw [hd, hb] at hle
        simp only [lead, Nat.add_zero] at hle
        exact t (hend (by omega))
    · rename_i hge
      rw [List.drop_eq_nil_of_le (by omega : m.length ≤ a.toNat + k)] at hle
      simp only [lead, Nat.add_zero] at hle
      exact t (hend (by omega))
  · rename_i h4
    obtain rfl : l = [] := by
      refine blk_nil (fun x hx => by have := hval3 x hx; unfold Ok1 at this; omega) ?_
      cases hb : blk l with
      | nil => rfl
      | cons z r => rw [hb] at h4; simp at h4
    have t := tail (.d (.sl true [])) H (by
      have e : extn m [] n = [] := by unfold extn; rw [if_pos rfl]
      rw [e]
      exact Gr.nil le_refl')
    simp only [es_nil, ints, List.map_nil, lenSl_d, List.length_nil, go_sem] at t ⊢
    exact t
theorem grows_law (hn1 : n1 = true → m = []) (hn2 : n2 = true → l = []) (hw : Wide l) : CallsA Try.prog 6 [.d (.sl n1 (bls m)), .d (.sl n2 (es l)), .d (.int .i64 n)] noHeap fun v _ => v = .d (.bool true) := by
  apply C6
  unfold S6
  simp only [es_len, go_sem]
  split
  · exact first_end
  rename_i h1
  try simp only [go_sem]
  refine Grow_c hw (by omega) hn1 hn2 fun n3 n4 _ _ => ?_
  simp only [go_sem]
  refine rGrow_c hw (by omega) fun n5 n6 _ _ => ?_
  simp only [go_sem]
  have b1 : (growL m l n).length < 2 ^ 62 ∧ (growM m l n).length < 2 ^ 62 := by
    unfold growL growM
    by_cases hE : growE m l n = 0
    · rw [if_pos hE, if_pos hE]
      have hv : Val m.length l ∧ 0 ≤ n := by
        unfold growE at hE
        split at hE
        · assumption
        · cases hE
      have hn : n ≤ (fr m).length := by
        unfold growE at hE
        rw [if_pos hv] at hE
        split at hE
        · assumption
        · cases hE
      have hm := hv.1.1
      have hfl := fr_len (m := m)
      have hsl := short_len (l := l) (bs := extn m l n ++ growR m l n)
      have hxl := extn_len (m := m) (l := l) hv.2
      have hrl := growR_len (m := m) (l := l) (n := n)
      rw [mk_len, mk_len]
      rw [List.length_append] at hsl
      omega
    · rw [if_neg hE, if_neg hE]; simp
  refine same_c b1.1 ?_
  simp only [decide_true, if_true, go_sem]
  refine sameMaps_c b1.2 ?_
  simp only [decide_true, if_true, go_sem]
  exact first_end
end
theorem grows_row (xs : List Dat) (h : DatOk Try.prog 9 22 xs) (ys : List Dat) (h2 : DatOk Try.prog 9 23 ys) (zs : List Dat) (h3 : DatOk Try.prog 9 3 zs) : CallsA Try.prog 6 [argAV (aggT Try.prog 22) xs, argAV (aggT Try.prog 23) ys, argAV (aggT Try.prog 3) zs] noHeap fun v _ => v = .d (.bool true) := by
  obtain ⟨nl, m, hm, hnl, _⟩ := bools_open h
  obtain ⟨n2, l, hl, hn2, hw, _⟩ := exts_open h2
  obtain ⟨n, hn, _⟩ := int_open h3
  rw [hm, hl, hn]
  exact grows_law hnl hn2 hw
end Go.Proofs.Ytlaojbclmcageaa

/- DesktopLatest: the walk. -/
import Derived.Test.YtmciomkibklokaaM23d
set_option autoImplicit false
set_option maxRecDepth 100000
set_option linter.unusedVariables false
set_option linter.unusedSimpArgs false
set_option linter.unnecessarySimpa false
namespace Go.Proofs.Ytmciomkibklokaa
open Go Go.AM Go.Proofs Go.RowKit
theorem ite_of {c : Prop} [Decidable c] {A B : Prop} (h1 : c → A) (h2 : ¬ c → B) : if c then A else B := by
  split
  · exact h1 ‹_›
  · exact h2 ‹_›
section
variable {H G : AHeap} {k m : Nat} {pv : AV} {zs : List Prg} {K : AV → AHeap → Prop}
abbrev abcd : ByteArray := ⟨#[65, 66, 67, 68]⟩
theorem First_c (hk : ∀ H', K (.d (.bool true)) H') : CallsA Try.prog 6 [] H K := by
  apply C6
  unfold S6
  simp only [frzLK_nil]
  refine New_c fun k m H1 hB hle => ?_
  simp only [nilA, isNil, optA_some, ifA_f, frzLK_ptr, frzLK_d, frzLK_nil]
  refine Put_c hB (by decide) rfl (by decide) fun pv1 H2 hB2 hF => ?_
  simp only [intA_neq, optA_some, ifA_bool', not_true_eq_false, decide_false, Bool.false_eq_true, if_false, frzLK_ptr, frzLK_d, frzLK_nil, ne_eq]
  have e1 : putP abcd 1 5 [] = [(abcd, 1, 5)] := rfl
  rw [e1] at hB2
  refine Put_c hB2 (by decide) rfl (by decide) fun pv2 H3 hB3 hF => ?_
  have e2 : putP abcd 2 6 [(abcd, 1, 5)] = [(abcd, 1, 5), (abcd, 2, 6)] := by
    have : [((abcd, 1, 5) : Prg)].findIdx? (isP abcd 6) = none := by simp [List.findIdx?_cons, isP]
    simp only [putP, this]; rfl
  rw [e2] at hB3
  simp only [intA_neq, optA_some, ifA_bool', not_true_eq_false, decide_false, Bool.false_eq_true, if_false, frzLK_ptr, frzLK_d, frzLK_nil, ne_eq]
  refine Program_c hB3 (by simp) ?_
  have e3 : look abcd [((abcd, 1, 5) : Prg), (abcd, 2, 6)].reverse 1 = some (abcd, 2, 6) := by
    have := look_all (c := abcd) (l := [((abcd, 1, 5) : Prg), (abcd, 2, 6)].reverse) (s := 0) (by simp) (by decide)
    simpa using this
  rw [e3]
  simp only [foundA, go_sem, Int.reduceEq, Int.reduceNe, Int.reduceLT, Int.reduceLE, not_true_eq_false, not_false_eq_true, decide_true, decide_false, Int.reduceAdd, Int.reduceSub, Int.reduceMul]
  exact ⟨_, le_refl', hk _⟩
theorem first_end {H : AHeap} : CallsA Try.prog 6 [] H fun v H => retF [v] H fun v _ => v = .d (.bool true) := First_c fun H' => by simp only [ret1_d]; exact ⟨_, le_refl', rfl⟩
/-- A list of one's own, of which nothing else is known. -/
abbrev Mine (H : AHeap) (v : AV) (l : List (List Dat)) : Prop := Go.AM.Own noHeap 1 H v l
theorem no_le {H : AHeap} : AHeap.le noHeap H := fun i o h => by cases h
theorem Mine.keep {H H' : AHeap} {v : AV} {l : List (List Dat)} (h : Mine H v l) (hk : ∀ i, idOf v = some i → H' i = H i) : Mine H' v l := by
  refine ⟨no_le, h.2.1, ?_⟩
  rcases h.2.2 with h1 | h1 | ⟨i, ver, L, rfl, h2, h3⟩
  · exact .inl h1
  · exact .inr (.inl h1)
  · exact .inr (.inr ⟨i, ver, L, rfl, by rw [hk i rfl]; exact h2, h3⟩)
theorem Mine.of {H0 H : AHeap} {v : AV} {l : List (List Dat)} (h : Go.AM.Own H0 1 H v l) : Mine H v l := by
  refine ⟨no_le, h.2.1, ?_⟩
  rcases h.2.2 with h1 | h1 | ⟨i, ver, L, rfl, h2, h3, h4, _⟩
  · exact .inl h1
  · exact .inr (.inl h1)
  · exact .inr (.inr ⟨i, ver, L, rfl, h2, h3, h4, rfl⟩)
theorem Mine.obj {H : AHeap} {v : AV} {l : List (List Dat)} (h : Mine H v l) {i : Nat} (hi : idOf v = some i) : ∃ ver L, H i = some (.mem ver 0 1 L) := by
  rcases h.2.2 with ⟨rfl, _⟩ | rfl | ⟨j, ver, L, rfl, h1, _⟩
  · cases hi
  · cases hi
  · cases hi; exact ⟨ver, L, h1⟩
theorem Mine.ix {H : AHeap} {v : AV} {l : List (List Dat)} (h : Mine H v l) {ti : TI} {e j : Nat} {x : Dat} (hk : ti.k = .slice e) (hx : l[j]? = some [x]) : ∃ p, indexAddrA ti 1 v (.d (.int .i64 j)) = some p ∧ ldV false 1 p H = some (.d x) := by
  have hj : j < l.length := (List.getElem?_eq_some_iff.1 hx).1
  rcases h.2.2 with ⟨rfl, rfl⟩ | rfl | ⟨i, ver, L, rfl, h1, h2, h3, _⟩
  · simp at hj
  · exact ⟨.vptr [x] 0, by simp only [indexAddrA, hk, show (0 : Int) ≤ j by omega, if_true, Int.toNat_natCast, hx, List.length_cons, List.length_nil], rfl⟩
  · refine ⟨.ptr i ver j 0, by rw [idx_rs hk (by omega) (by omega)]; rfl, ?_⟩
    have : L[j]? = some [.d x] := by
      have h4 : (L.take l.length)[j]? = L[j]? := List.getElem?_take_of_lt hj
      rw [← h4, h2]
      simp only [avs, List.getElem?_map, hx, Option.map_some, List.map_cons, List.map_nil]
    exact ldV_at h1 this rfl
theorem Mine.fr {S : List Nat} {H H' : AHeap} {v : AV} {l : List (List Dat)} (h : Mine H v l) (hF : Fr S H H') (hS : 2 ∉ S) : Mine H' v l := h.keep fun i hi => by
  obtain ⟨ver, L, h1⟩ := h.obj hi
  rw [h1]; exact hF i _ h1 hS
def ints (l : List Int) : List (List Dat) := l.map fun n => [.int .i64 n]
theorem ints_length {l : List Int} : (ints l).length = l.length := by simp [ints]
theorem ints_get {l : List Int} {j : Nat} {x : Int} (h : l[j]? = some x) : (ints l)[j]? = some [.int .i64 x] := by simp [ints, h]
theorem bs3_1 {x : Dat} {H : AHeap} {n : Nat} : bsA ti3 1 [0] [.d x] H n = some (.lit [[x]], []) := rfl
theorem latest_law {c : ByteArray} {nl : Bool} {fs : List UInt8} : CallsA Try.prog 3 [.d (.str c), .d (.sl nl (bs fs))] noHeap fun v _ => v = .d (.bool true) := by
  apply C3
  unfold S3
  simp only [lenStr_d, optA_some, intA_neq, ifA_ite, frzLK_nil]
  refine ite_of (fun h1 => first_end) fun h1 => ?_
  have hc : c.size = 4 := by have : ¬ (c.size : Int) ≠ 4 := h1; omega
  simp only [lenSl_d, bs_length, optA_some, intA_gtr, ifA_ite]
  refine ite_of (fun h2 => first_end) fun h2 => ?_
  have hn : fs.length ≤ 100 := by omega
  refine New_c fun k m H1 hB hle => ?_
  simp only [nilA, isNil, optA_some, ifA_f]
  refine loop_ind (fun r vs G => ∃ (i : Nat) (wv pv : AV) (zs : List Prg) (x5 x6 x7 x8 : AV), i ≤ fs.length ∧ r = fs.length - i ∧ zs.length ≤ i ∧ Nice c zs ∧ DB G k m pv zs ∧ Mine G wv (ints (files zs).reverse) ∧ vs = [.d (.str c), .d (.sl nl (bs fs)), .ptr k 0 0 0, wv, .d (.int .i64 i), x5, x6, x7, x8]) (n := fs.length)
    ⟨0, _, _, [], _, _, _, _, Nat.zero_le _, rfl, Nat.le_refl _, ⟨by simp, by simp [files]⟩, hB, Go.AM.Own.nil no_le, rfl⟩ ?_
  rintro X r vs G ⟨i, wv, pv, zs, x5, x6, x7, x8, hi, rfl, hz, hN, hB, hW, rfl⟩ hX
  simp only [List.getD_cons_succ, List.getD_cons_zero, lenSl_d, bs_length, optA_some, intA_lss, ifA_ite]
  have hfl : (files zs).length = zs.length := by simp [files]
  refine ite_of (fun hlt => ?_) fun hlt => ?_
  · have hi' : i < fs.length := by omega
    have hcb := fs[i].toNat_lt
    have hix : indexAddrA ti22 1 (.d (.sl nl (bs fs))) (.d (.int .i64 i)) = some (.vptr [.int .u8 fs[i].toNat] 0) := sl_get (e := 5) rfl (by omega) (by simp [bs, hi']) rfl
    simp only [hix, optA_some, ldV_v, ldM, partV, List.drop_zero, List.take_succ_cons, List.take_zero, List.map_cons, List.map_nil, List.length_cons, List.length_nil, if_true, Bool.false_eq_true, if_false, Nat.zero_add, cvI_int, intA_add]
    rw [wrap_i64 (n := (fs[i].toNat : Int)) (by omega) (by omega), wrap_i64 (n := 1 + (fs[i].toNat : Int)) (by omega) (by omega)]
    generalize hf : 1 + (fs[i].toNat : Int) = f
    simp only [frzLK_d, frzLK_ptr, frzLK_nil]
    refine Put_c hB (by omega) hc (by omega) fun pv1 G1 hB1 hF1 => ?_
    simp only [intA_neq, optA_some, ifA_bool', not_true_eq_false, decide_false, Bool.false_eq_true, if_false, ne_eq]
    intro n0 _
    simp only [bs3_1, stepK_some, AHeap.sets]
    have hW1 : Mine G1 wv (ints (files zs).reverse) := hW.fr hF1 (by decide)
    -- the list of now
    refine loop_ind (fun r vs G2 => ∃ (j : Nat) (nv : AV), j ≤ zs.length ∧ r = zs.length - j ∧ Go.AM.Own G1 1 G2 nv (ints (f :: ((files zs).reverse.take j).filter (fun y => y != f))) ∧ vs = [.d (.str c), .d (.sl nl (bs fs)), .ptr k 0 0 0, wv, .d (.int .i64 i), .d (.int .i64 f), nv, .d (.int .i64 j), x8]) (n := zs.length)
      ⟨0, _, Nat.zero_le _, rfl, Go.AM.Own.lit le_refl' (by simp [ints]), rfl⟩ ?_
    rintro X2 r2 vs2 G2 ⟨j, nv, hj, rfl, hO, rfl⟩ hX2
    have hW2 : Mine G2 wv (ints (files zs).reverse) := hW1.fr (.of_le hO.le) (S := []) (by simp)
    simp only [List.getD_cons_succ, List.getD_cons_zero, hW2.len, ints_length, List.length_reverse, hfl, optA_some, intA_lss, ifA_ite]
    refine ite_of (fun hlt2 => ?_) fun hlt2 => ?_
    · have hj' : j < (files zs).reverse.length := by rw [List.length_reverse, hfl]; omega
      have hx : (files zs).reverse[j]? = some (files zs).reverse[j] := List.getElem?_eq_getElem hj'
      have htk : (files zs).reverse.take (j + 1) = (files zs).reverse.take j ++ [(files zs).reverse[j]] := by rw [List.take_add_one, hx]; rfl
      obtain ⟨p, e1, e2⟩ := hW2.ix (ti := ti26) rfl (ints_get hx)
      generalize hy : (files zs).reverse[j] = y at e2 htk hx
      simp only [e1, e2, optA_some, intA_neq, ifA_ite]
      refine ite_of (fun hne => ?_) fun hne => ?_
      · intro n1 _
        simp only [bs3_1, stepK_some, AHeap.sets]
        refine hO.app (ys := [[.int .i64 y]]) rfl (by decide) (by decide) (by simp) (by
          rw [ints_length]
          have : (((files zs).reverse.take j).filter (fun y => y != f)).length ≤ j := Nat.le_trans (List.length_filter_le _ _) (List.length_take_le _ _)
          simp only [List.length_cons, List.length_nil, mostBytes]; omega) fun v' H' hO' _ _ _ => ?_
        simp only [intA_add, optA_some]
        rw [wrap_i64 (by omega) (by omega)]
        refine hX2 (zs.length - (j + 1)) _ _ (by omega) ⟨j + 1, v', by omega, rfl, ?_, rfl⟩
        rw [htk, List.filter_append, List.filter_cons_of_pos (by simpa using hne), List.filter_nil]
        have : ints (f :: (((files zs).reverse.take j).filter (fun y => y != f) ++ [y])) = ints (f :: ((files zs).reverse.take j).filter (fun y => y != f)) ++ [[.int .i64 y]] := by simp [ints]
        rw [this]; exact hO'
      · simp only [intA_add, optA_some]
        rw [wrap_i64 (by omega) (by omega)]
        refine hX2 (zs.length - (j + 1)) _ _ (by omega) ⟨j + 1, nv, by omega, rfl, ?_, rfl⟩
        rw [htk, List.filter_append, List.filter_cons_of_neg (by simpa using hne), List.filter_nil, List.append_nil]
        exact hO
    · have hj' : j = zs.length := by omega
      subst hj'
      simp only [intA_add, optA_some]
      rw [wrap_i64 (by omega) (by omega)]
      have hz1 : (putP c (i : Int) f zs).length ≤ i + 1 := by have := put_len (c := c) (n := (i : Int)) (f := f) (zs := zs); omega
      have e : (files (putP c (i : Int) f zs)).reverse = f :: ((files zs).reverse.take zs.length).filter (fun y => y != f) := by
        rw [files_put hN, List.take_of_length_le (by rw [List.length_reverse, hfl]; exact Nat.le_refl _), List.filter_reverse]
        simp
      refine hX (fs.length - (i + 1)) _ _ (by omega) ⟨i + 1, nv, pv1, putP c (i : Int) f zs, _, _, _, _, by omega, rfl, hz1, hN.put, hB1.le hO.le, ?_, rfl⟩
      rw [e]; exact Mine.of hO
  · -- what is found
    have hrl : (ints (files zs).reverse).length = zs.length := by simp [ints, files]
    refine loop_ind (fun r vs G2 => ∃ (j : Nat), j ≤ zs.length ∧ r = zs.length - j ∧ G2 = G ∧ vs = [.d (.str c), .d (.sl nl (bs fs)), .ptr k 0 0 0, wv, .d (.int .i64 i), x5, x6, x7, .d (.int .i64 j)]) (n := zs.length)
      ⟨0, Nat.zero_le _, rfl, rfl, rfl⟩ ?_
    rintro X2 r2 vs2 G2 ⟨j, hj, rfl, rfl, rfl⟩ hX2
    simp only [List.getD_cons_succ, List.getD_cons_zero, hW.len, hrl, optA_some, intA_lss, ifA_ite]
    have hall : ∀ x ∈ zs.reverse, x.1 = c := fun x hx => hN.all x (List.mem_reverse.1 hx)
    refine ite_of (fun hlt2 => ?_) fun hlt2 => ?_
    · have hj' : j < zs.reverse.length := by rw [List.length_reverse]; omega
      simp only [intA_add, optA_some, frzLK_d, frzLK_ptr, frzLK_nil]
      rw [wrap_i64 (by omega) (by omega)]
      refine Program_c hB (by omega) ?_
      rw [look_all hall (by omega), List.getElem?_eq_getElem hj']
      have hx : (files zs).reverse[j]? = some zs.reverse[j].2.2 := by
        rw [files, ← List.map_reverse, List.getElem?_map, List.getElem?_eq_getElem hj']; rfl
      obtain ⟨p, e1, e2⟩ := hW.ix (ti := ti26) rfl (ints_get hx)
      simp only [foundA, extractA_0, extractA_1, extractA_2, optA_some, intA_neq, ifA_bool', not_true_eq_false, decide_false, Bool.false_eq_true, if_false, ne_eq, e1, e2]
      exact hX2 (zs.length - (j + 1)) _ _ (by omega) ⟨j + 1, by omega, rfl, rfl, rfl⟩
    · simp only [intA_add, optA_some, frzLK_d, frzLK_ptr, frzLK_nil]
      rw [wrap_i64 (by omega) (by omega)]
      refine Program_c hB (by omega) ?_
      rw [look_all hall (by omega), List.getElem?_eq_none (by simp)]
      simp only [foundA, extractA_0, extractA_1, extractA_2, optA_some, intA_eql, ifA_bool', decide_true, if_true, frzLK_nil]
      exact first_end
end
theorem bytes_open {xs : List Dat} (h : DatOk Try.prog 9 22 xs) : ∃ nl bl, argAV (aggT Try.prog 22) xs = .d (.sl nl (bs bl)) ∧ (nl = true → bl = []) ∧ bl.length ≤ 2 ^ 47 := by
  rw [datOk_slice Try.underlying22] at h
  obtain ⟨nl, l, rfl, hnl, hl, hlen⟩ := h
  obtain ⟨bl, rfl⟩ := DatOk_bytes Try.underlying5 hl
  refine ⟨nl, bl, ?_, fun h => ?_, ?_⟩
  · rw [show aggT Try.prog 22 = false by kernel_rfl]
    rfl
  · have := hnl h
    cases bl with
    | nil => rfl
    | cons b r => cases this
  · rw [show Try.prog.bytesOf 5 = 1 by kernel_rfl, bs_length] at hlen
    unfold reachBytes at hlen
    omega
theorem latest_row (xs : List Dat) (h : DatOk Try.prog 9 9 xs) (ys : List Dat) (h2 : DatOk Try.prog 9 22 ys) : CallsA Try.prog 3 [argAV (aggT Try.prog 9) xs, argAV (aggT Try.prog 22) ys] noHeap fun v _ => v = .d (.bool true) := by
  rw [datOk_str Try.underlying9] at h
  obtain ⟨s, rfl, _⟩ := h
  obtain ⟨nl, bl, hb, _⟩ := bytes_open h2
  rw [hb, show aggT Try.prog 9 = false by kernel_rfl]
  rw [show argAV false [.str s] = .d (.str s) from rfl]
  exact latest_law
end Go.Proofs.Ytmciomkibklokaa

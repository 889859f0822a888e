/- Long datagrams' bytes that can be written, and the law of sums. -/
import Derived.Test.YtkpogkmnfakciaaT4m
set_option autoImplicit false
set_option linter.unusedVariables false
set_option linter.unusedSimpArgs false
namespace Go.Proofs.Ytkpogkmnfakciaa
open Go Go.AM Go.Proofs
/-- slices.Grow of nil. -/
theorem grow_m {n : Int} {H : AHeap} {K : AV → AHeap → Prop} (h0 : 0 < n) (h1 : n < 2 ^ 46) (h : ∀ v H', Own H 1 H' v [] → isRs v = true → K v H') : CallsA Try.prog 45 [.d (.sl true []), .d (.int .i64 n)] H K := by
  apply C45
  simp only [S45, go_sem]
  rw [if_neg (by omega)]
  simp only [capA, go_sem]
  have e1 : IntKind.i64.wrap (0 - ((0 : Nat) : Int)) = 0 := rfl
  simp only [List.length_nil, e1]
  rw [wrap_i64 (by omega) (by omega)]
  split
  · rename_i hn
    have e2 : sliceA 1 (.d (.sl true [])) none (some (.d (.int .i64 0))) none H = some (.d (.sl true [])) := rfl
    simp only [e2, go_sem]
    intro m hm
    have e3 : apzA ti5 (.d (.sl true [])) (.d (.int .i64 (n - 0))) H m = some (.rs m 0 1 0 n.toNat, [(m, .mem 0 0 1 (repl n.toNat [.d (.int .u8 0)]))]) := by
      simp only [apzA, appA, Int.sub_zero]
      have hc : n.toNat * 1 ≤ mostBytes := by unfold mostBytes; omega
      rw [if_pos ⟨by omega, by decide, by decide, hc⟩]
      cases hk : repl n.toNat ti5.zero with
      | nil => simp [repl] at hk; omega
      | cons y r =>
        have hl : (y :: r).length = n.toNat := by rw [← hk]; simp [repl]
        simp only [hl]
        have hk2 : y :: r = repl n.toNat [.d (.int .u8 0)] := hk.symm
        rw [hk2]
        exact if_pos hc
    simp only [e3, go_sem]
    have e4 : sliceA 1 (.rs m 0 1 0 n.toNat) none (some (.d (.int .i64 ((0 : Nat) : Int)))) none (H.set m (.mem 0 0 1 (repl n.toNat [.d (.int .u8 0)]))) = some (.rs m 0 1 0 0) := by
      simp [sliceA, set_self, bnd]
    simp only [e4, go_sem]
    refine ⟨_, le_refl', h _ _ (Own.rs (l := []) (le_set le_refl' hm) (by simp) set_self (by simp [avs]) (by simp) hm) rfl⟩
  · omega

theorem concat_m {nl : Bool} {xs : List (Bool × List UInt8)} {H : AHeap} {K : AV → AHeap → Prop} (hn : xs.length < 2 ^ 40) (hc : (cat xs).length < 2 ^ 40) (hne : cat xs ≠ []) (h : ∀ i ver H', OwnM H 1 H' i ver (bs (cat xs)) → K (.rs i ver 1 0 (bs (cat xs)).length) H') :
    CallsA Try.prog 31 [.d (.sl nl (slls xs))] H K := by
  apply C31m
  simp only [S31m, go_sem]
  have hl : (slls xs).length = xs.length := by simp [slls]
  refine loop_ind (fun m vs H' => H' = H ∧ ∃ i : Nat, i ≤ xs.length ∧ m = xs.length - i ∧ vs = [.d (.sl nl (slls xs)), .d (.int .i64 (cat (xs.take i)).length), .junk, .d (.sl nl (slls xs)), .d (.int .i64 xs.length), .d (.int .i64 i), .junk, .junk, .junk])
    (n := xs.length) ⟨rfl, 0, by omega, by omega, by rw [hl]; rfl⟩ ?_
  rintro X m vs H' ⟨rfl, i, hi, rfl, rfl⟩ hX
  have hle := cat_take_le (xs := xs) i
  simp only [List.getD_cons_succ, List.getD_cons_zero, go_sem]
  split
  · rename_i hlt
    have hi' : i < xs.length := by omega
    have hle2 := cat_take_le (xs := xs) (i + 1)
    rw [cat_take_succ hi', List.length_append] at hle2
    simp only [sl_get (ti := ti55) (e := 24) (esz := 1) rfl (by omega : (0 : Int) ≤ i) (by simpa using slls_get hi') rfl, List.map_cons, List.map_nil, bs_length, go_sem]
    rw [wrap_i64 (by omega) (by omega), if_neg (by omega), wrap_i64 (by omega) (by omega)]
    refine hX (xs.length - (i + 1)) _ _ (by omega) ⟨rfl, i + 1, by omega, rfl, ?_⟩
    rw [cat_take_succ hi', List.length_append]
    simp
  · rename_i hlt
    have hi' : i = xs.length := by omega
    subst hi'
    rw [List.take_length]
    have hpos : 0 < (cat xs).length := List.length_pos_iff.2 hne
    refine grow_m (by omega) (by omega) fun v H1 hv hrs => ?_
    simp only [hl]
    refine loop_ind (fun m vs H2 => ∃ (i : Nat) (v : AV), i ≤ xs.length ∧ m = xs.length - i ∧ Own H' 1 H2 v (bs (cat (xs.take i))) ∧ isRs v = true ∧
        vs = [.d (.sl nl (slls xs)), .d (.int .i64 (cat xs).length), v, .d (.sl nl (slls xs)), .d (.int .i64 xs.length), .d (.int .i64 xs.length), .d (.sl nl (slls xs)), .d (.int .i64 xs.length), .d (.int .i64 i)])
      (n := xs.length) ⟨0, v, by omega, by omega, hv, hrs, rfl⟩ ?_
    rintro X2 m2 vs2 H2 ⟨i, v, hi, rfl, hv, hrs, rfl⟩ hX2
    simp only [List.getD_cons_succ, List.getD_cons_zero, go_sem]
    split
    · rename_i hlt
      have hi' : i < xs.length := by omega
      have hle2 := cat_take_le (xs := xs) (i + 1)
      rw [cat_take_succ hi', List.length_append] at hle2
      simp only [sl_get (ti := ti55) (e := 24) (esz := 1) rfl (by omega : (0 : Int) ≤ i) (by simpa using slls_get hi') rfl, List.map_cons, List.map_nil, go_sem]
      refine newK_and (q := fun v => isRs v = true) ?_ fun n v' us hf => app_rs hrs hf
      refine hv.app (by rw [elemsA_sl]) (by decide) (by decide) bs_sz (by rw [bs_length, bs_length]; unfold mostBytes; omega) fun v' H3 hv' _ _ _ hrs' => ?_
      try simp only [go_sem]
      rw [wrap_i64 (by omega) (by omega)]
      exact hX2 (xs.length - (i + 1)) _ _ (by omega) ⟨i + 1, v', by omega, rfl, by rw [cat_take_succ hi', bs_append]; exact hv', hrs', by simp⟩
    · rename_i hlt
      have hi' : i = xs.length := by omega
      subst hi'
      rw [List.take_length] at hv
      obtain ⟨j, ver, rfl, hm⟩ := hv.toM hrs
      exact ⟨H2, le_refl', h j ver H2 hm⟩
theorem long_m {p : Pk} (hv : p.Valid) {H : AHeap} {K : AV → AHeap → Prop} (h : ∀ i ver H', OwnM H 1 H' i ver (bs p.long) → K (.tup [.rs i ver 1 0 (bs p.long).length, .d (.int .i64 0)]) H') : CallsA Try.prog 22 [p.av] H K := by
  apply C22m
  unfold S22m
  have hv0 := hv
  refine box_open rfl fun k G hG hle hk => ?_
  simp only [Pk.av, AV.cells] at hG
  simp only [getM_of hG, ti26_f0, ti26_f1, ti26_f2, ti26_f3, ti26_f4, ti26_f5, ti26_f6, ti26_f7, ti23_f0, ti23_f1, go_sem]
  refine valid_c (p := p) ?_
  simp only [hv0, not_true_eq_false, if_false, go_sem]
  unfold Pk.Valid at hv
  simp only [getM_of hG, ti26_f0, ti26_f1, ti26_f2, ti26_f3, ti26_f4, ti26_f5, ti26_f6, ti26_f7, ti23_f0, ti23_f1, go_sem]
  refine ⟨_, two_c ⟨rfl, le_refl'⟩, ?_⟩
  refine ⟨_, two_c ⟨rfl, le_refl'⟩, ?_⟩
  simp only [go_sem]
  intro n hn
  simp only [getM_of hG, bsA, bsl5_5, toDatss, toDats, AV.toDat, ti26_f0, ti26_f1, ti26_f2, ti26_f3, ti26_f4, ti26_f5, ti26_f6, ti26_f7, ti23_f0, ti23_f1, go_sem]
  intro n2 hn2
  simp only [getM_of hG, bsA, bsl24_4, toDatss, toDats, AV.toDat, ti26_f0, ti26_f1, ti26_f2, ti26_f3, ti26_f4, ti26_f5, ti26_f6, ti26_f7, ti23_f0, ti23_f1, go_sem]
  have hx : [[Dat.sl false (bs [b8 (p.dn / 256), b8 p.dn])], [Dat.sl false (bs [b8 (p.sn / 256), b8 p.sn])], [Dat.sl false [[Dat.int IntKind.u8 (IntKind.u8.wrap p.dd)], [Dat.int IntKind.u8 (IntKind.u8.wrap p.sd)], [Dat.int IntKind.u8 (IntKind.u8.wrap p.ds)], [Dat.int IntKind.u8 (IntKind.u8.wrap p.ss)], [Dat.int IntKind.u8 (IntKind.u8.wrap p.ty)]]], [Dat.sl p.nl (bs p.data)]] =
      slls [(false, [b8 (p.dn / 256), b8 p.dn]), (false, [b8 (p.sn / 256), b8 p.sn]), (false, [b8 p.dd, b8 p.sd, b8 p.ds, b8 p.ss, b8 p.ty]), (p.nl, p.data)] := by
    simp [slls, bs, wrap_u8]
  rw [hx]
  refine ⟨_, concat_c (by simp) (by simp [cat]; omega) ⟨rfl, le_refl'⟩, ?_⟩
  have hc : cat [(false, [b8 (p.dn / 256), b8 p.dn]), (false, [b8 (p.sn / 256), b8 p.sn]), (false, [b8 p.dd, b8 p.sd, b8 p.ds, b8 p.ss, b8 p.ty]), (p.nl, p.data)] = p.tail := by simp [cat, Pk.tail]
  rw [hc]
  have he : p.tail.isEmpty = false := by simp [Pk.tail]
  rw [he]
  have hl := tail_len (p := p)
  have ht := tsum_bd (p := p)
  have hhead : IntKind.i64.wrap (IntKind.i64.wrap (IntKind.i64.wrap (p.hops * 2 ^ min (10 : Int).toNat 64) + 4) + p.tail.length) = p.head := by
    rw [show (2 : Int) ^ min (10 : Int).toNat 64 = 1024 from rfl]
    rw [wrap_i64 (n := p.hops * 1024) (by omega) (by omega), wrap_i64 (n := p.hops * 1024 + 4) (by omega) (by omega), wrap_i64 (by omega) (by omega)]
    unfold Pk.head
    omega
  have hhead2 : IntKind.i64.wrap (IntKind.i64.wrap (IntKind.i64.wrap (p.hops * 2 ^ min (10 : Int).toNat 64) + 4) + p.tail.length) = p.head := hhead
  have fin : ∀ G', AHeap.le H G' → ∀ s : Int, s = p.tsum → newK G' (fun n72 => bsA ti24 3 [0, 1, 2] [.d (.sl false (bs [b8 (p.head / 256), b8 p.head])), .d (.sl false (bs [b8 (s / 256), b8 s])), .d (.sl false (bs p.tail))] G' n72) (fun v70 H71 => frzLK [v70] H71 fun l75 H76 => CallsA Try.prog 31 l75 H76 fun v73 H74 => finA (.tup [v73, .d (.int .i64 0)]) H74 K) := by
    intro G' hG' s hs n hn
    subst hs
    have hx : [[Dat.sl false (bs [b8 (p.head / 256), b8 p.head])], [Dat.sl false (bs [b8 (p.tsum / 256), b8 p.tsum])], [Dat.sl false (bs p.tail)]] = slls [(false, [b8 (p.head / 256), b8 p.head]), (false, [b8 (p.tsum / 256), b8 p.tsum]), (false, p.tail)] := rfl
    simp only [bsA, bsl24_3, toDatss, toDats, AV.toDat, hx, go_sem]
    have hcat : cat [(false, [b8 (p.head / 256), b8 p.head]), (false, [b8 (p.tsum / 256), b8 p.tsum]), (false, p.tail)] = p.long := by
      unfold Pk.long
      rw [if_pos hv0]
      simp [cat]
    refine concat_m (by simp) (by simp [cat]; omega) (by simp [cat]) fun i ver H' hm => ?_
    rw [hcat] at hm ⊢
    refine ⟨H', le_refl', h i ver H' ⟨?_, ?_⟩⟩
    · obtain ⟨g1, g2, g3⟩ := hm.own
      exact ⟨le_trans' hG' g1, g2, by
        rcases g3 with g3 | g3 | ⟨i', ver', L, e1, e2, e3, e4, e5⟩
        · exact .inl g3
        · exact .inr (.inl g3)
        · exact .inr (.inr ⟨i', ver', L, e1, e2, e3, e4, le_none hG' e5⟩)⟩
    · exact le_none hG' hm.fresh
  simp only [getM_of hG, bs_length, intA_shl (b := 10) (by decide), hhead, hhead2, ti26_f0, ti26_f1, ti26_f2, ti26_f3, ti26_f4, ti26_f5, ti26_f6, ti26_f7, ti23_f0, ti23_f1, go_sem]
  split
  · rename_i hs
    refine sum_c (by omega) ?_
    simp only [getM_of hG, bs_length, intA_shl (b := 10) (by decide), hhead, hhead2, ti26_f0, ti26_f1, ti26_f2, ti26_f3, ti26_f4, ti26_f5, ti26_f6, ti26_f7, ti23_f0, ti23_f1, go_sem]
    refine two_c ?_
    simp only [go_sem]
    refine two_c ?_
    exact fin G hle _ (by unfold Pk.tsum; rw [if_pos hs])
  · rename_i hs
    refine two_c ?_
    simp only [go_sem]
    refine two_c ?_
    exact fin G hle _ (by unfold Pk.tsum; rw [if_neg hs])
end Go.Proofs.Ytkpogkmnfakciaa

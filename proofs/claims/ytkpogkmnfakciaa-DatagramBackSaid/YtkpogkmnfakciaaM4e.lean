/- What more functions compute: long datagrams' bytes. -/
import Derived.Test.YtkpogkmnfakciaaM4d
set_option autoImplicit false
set_option linter.unusedVariables false
set_option linter.unusedSimpArgs false
namespace Go.Proofs.Ytkpogkmnfakciaa
open Go Go.AM Go.Proofs
def Pk.tail (p : Pk) : List UInt8 := [b8 (p.dn / 256), b8 p.dn, b8 (p.sn / 256), b8 p.sn, b8 p.dd, b8 p.sd, b8 p.ds, b8 p.ss, b8 p.ty] ++ p.data
def Pk.tsum (p : Pk) : Int := if p.sum then osum p.tail else 0
def Pk.head (p : Pk) : Int := p.hops * 1024 + (p.tail.length + 4 : Nat)
def Pk.long (p : Pk) : List UInt8 := if p.Valid then [b8 (p.head / 256), b8 p.head, b8 (p.tsum / 256), b8 p.tsum] ++ p.tail else []
def Pk.longE (p : Pk) : Int := if p.Valid then 0 else 2
theorem bsl5_5 {a b c d e : Dat} : buildSlA ti5 5 (List.zip [0, 1, 2, 3, 4] [.d a, .d b, .d c, .d d, .d e]) = some [[.d a], [.d b], [.d c], [.d d], [.d e]] := rfl
theorem bsl24_4 {a b c d : Dat} : buildSlA ti24 4 (List.zip [0, 1, 2, 3] [.d a, .d b, .d c, .d d]) = some [[.d a], [.d b], [.d c], [.d d]] := rfl
theorem tail_len {p : Pk} : p.tail.length = 9 + p.data.length := by simp [Pk.tail]; omega
theorem tsum_bd {p : Pk} : 0 ≤ p.tsum ∧ p.tsum ≤ 65535 := by
  unfold Pk.tsum
  split
  · have := osum_bd p.tail; omega
  · omega
theorem long_c {p : Pk} {H : AHeap} {K : AV → AHeap → Prop} (h : ∀ nl, (nl = true → p.long = []) → K (.tup [.d (.sl nl (bs p.long)), .d (.int .i64 p.longE)]) H) : CallsA Try.prog 22 [p.av] H K := by
  apply C22
  unfold S22
  refine box_open rfl fun k G hG hle hk => ?_
  simp only [Pk.av, AV.cells] at hG
  simp only [getM_of hG, ti26_f0, ti26_f1, ti26_f2, ti26_f3, ti26_f4, ti26_f5, ti26_f6, ti26_f7, ti23_f0, ti23_f1, go_sem]
  refine valid_c (p := p) ?_
  simp only [go_sem]
  unfold Pk.long Pk.longE at h
  split
  · rename_i hv
    rw [if_neg hv, if_neg hv] at h
    exact ⟨H, hle, h true fun _ => rfl⟩
  · rename_i hv
    have hv := Classical.not_not.1 hv
    rw [if_pos hv, if_pos hv] at h
    unfold Pk.Valid at hv
    simp only [getM_of hG, ti26_f0, ti26_f1, ti26_f2, ti26_f3, ti26_f4, ti26_f5, ti26_f6, ti26_f7, ti23_f0, ti23_f1, go_sem]
    refine ⟨_, two_c ⟨rfl, le_refl'⟩, ?_⟩
    refine ⟨_, two_c ⟨rfl, le_refl'⟩, ?_⟩
    simp only [go_sem]
    intro n hn
    simp only [getM_of hG, bsA, bsl5_5, toDatss, toDats, AV.toDat, ti26_f0, ti26_f1, ti26_f2, ti26_f3, ti26_f4, ti26_f5, ti26_f6, ti26_f7, ti23_f0, ti23_f1, go_sem]
    intro n2 hn2
    simp only [getM_of hG, bsA, bsl24_4, toDatss, toDats, AV.toDat, ti26_f0, ti26_f1, ti26_f2, ti26_f3, ti26_f4, ti26_f5, ti26_f6, ti26_f7, ti23_f0, ti23_f1, go_sem]
    have hx : [[Dat.sl false (bs [b8 (p.dn / 256), b8 p.dn])], [Dat.sl false (bs [b8 (p.sn / 256), b8 p.sn])], [Dat.sl false [[Dat.int IntKind.u8 (IntKind.u8.wrap p.dd)], [Dat.int IntKind.u8 (IntKind.u8.wrap p.sd)], [Dat.int IntKind.u8 (IntKind.u8.wrap p.ds)], [Dat.int IntKind.u8 (IntKind.u8.wrap p.ss)], [Dat.int IntKind.u8 (IntKind.u8.wrap p.ty)]]], [Dat.sl p.nl (bs p.data)]] =
        slls [(false, [b8 (p.dn / 256), b8 p.dn]), (false, [b8 (p.sn / 256), b8 p.sn]), (false, [b8 p.dd, b8 p.sd, b8 p.ds, b8 p.ss, b8 p.ty]), (p.nl, p.data)] := by
      simp [slls, bs, wrap_u8]
    rw [hx]
    refine ⟨_, concat_c (by simp) (by simp [cat]; omega) ⟨rfl, le_refl'⟩, ?_⟩
    have hc : cat [(false, [b8 (p.dn / 256), b8 p.dn]), (false, [b8 (p.sn / 256), b8 p.sn]), (false, [b8 p.dd, b8 p.sd, b8 p.ds, b8 p.ss, b8 p.ty]), (p.nl, p.data)] = p.tail := by simp [cat, Pk.tail]
    rw [hc]
    have he : p.tail.isEmpty = false := by simp [Pk.tail]
    rw [he]
    have hl := tail_len (p := p)
    have ht := tsum_bd (p := p)
    have hhead : IntKind.i64.wrap (IntKind.i64.wrap (IntKind.i64.wrap (p.hops * 2 ^ min (10 : Int).toNat 64) + 4) + p.tail.length) = p.head := by
      rw [show (2 : Int) ^ min (10 : Int).toNat 64 = 1024 from rfl]
      rw [wrap_i64 (n := p.hops * 1024) (by omega) (by omega), wrap_i64 (n := p.hops * 1024 + 4) (by omega) (by omega), wrap_i64 (by omega) (by omega)]
      unfold Pk.head
      omega
    have fin : ∀ G', AHeap.le H G' → ∀ s : Int, s = p.tsum → newK G' (fun n72 => bsA ti24 3 [0, 1, 2] [.d (.sl false (bs [b8 (p.head / 256), b8 p.head])), .d (.sl false (bs [b8 (s / 256), b8 s])), .d (.sl false (bs p.tail))] G' n72) (fun v70 H71 => frzLK [v70] H71 fun l75 H76 => CallsA Try.prog 31 l75 H76 fun v73 H74 => retF [v73, .d (.int .i64 0)] H74 K) := by
      intro G' hG' s hs n hn
      subst hs
      have hx : [[Dat.sl false (bs [b8 (p.head / 256), b8 p.head])], [Dat.sl false (bs [b8 (p.tsum / 256), b8 p.tsum])], [Dat.sl false (bs p.tail)]] = slls [(false, [b8 (p.head / 256), b8 p.head]), (false, [b8 (p.tsum / 256), b8 p.tsum]), (false, p.tail)] := rfl
      simp only [bsA, bsl24_3, toDatss, toDats, AV.toDat, hx, go_sem]
      refine concat_c (by simp) (by simp [cat]; omega) ?_
      simp only [go_sem]
      refine ⟨H, hG', ?_⟩
      have := h false (by simp)
      simpa [cat] using this
    simp only [getM_of hG, bs_length, intA_shl (b := 10) (by decide), hhead, ti26_f0, ti26_f1, ti26_f2, ti26_f3, ti26_f4, ti26_f5, ti26_f6, ti26_f7, ti23_f0, ti23_f1, go_sem]
    split
    · rename_i hs
      refine sum_c (by omega) ?_
      simp only [getM_of hG, bs_length, intA_shl (b := 10) (by decide), hhead, ti26_f0, ti26_f1, ti26_f2, ti26_f3, ti26_f4, ti26_f5, ti26_f6, ti26_f7, ti23_f0, ti23_f1, go_sem]
      refine two_c ?_
      simp only [go_sem]
      refine two_c ?_
      exact fin G hle _ (by unfold Pk.tsum; rw [if_pos hs])
    · rename_i hs
      refine two_c ?_
      simp only [go_sem]
      refine two_c ?_
      exact fin G hle _ (by unfold Pk.tsum; rw [if_neg hs])
theorem rlong_c {p : Pk} {H : AHeap} {K : AV → AHeap → Prop} (h : ∀ nl, K (.tup [.d (.sl nl (bs p.long)), .d (.int .i64 p.longE)]) H) : CallsA Try.prog 23 [p.av] H K := by
  apply C23
  unfold S23
  refine box_open rfl fun k G hG hle hk => ?_
  simp only [Pk.av, AV.cells] at hG
  simp only [getM_of hG, ti26_f0, ti26_f1, ti26_f2, ti26_f3, ti26_f4, ti26_f5, ti26_f6, ti26_f7, ti23_f0, ti23_f1, go_sem]
  refine rvalid_c (p := p) ?_
  simp only [go_sem]
  unfold Pk.long Pk.longE at h
  split
  · rename_i hv
    rw [if_neg hv, if_neg hv] at h
    exact ⟨H, hle, h true⟩
  · rename_i hv
    have hv := Classical.not_not.1 hv
    rw [if_pos hv, if_pos hv] at h
    unfold Pk.Valid at hv
    simp only [getM_of hG, ti26_f0, ti26_f1, ti26_f2, ti26_f3, ti26_f4, ti26_f5, ti26_f6, ti26_f7, ti23_f0, ti23_f1, go_sem]
    refine ⟨_, rtwo_c (by omega) (by omega) ⟨rfl, le_refl'⟩, ?_⟩
    refine ⟨_, rtwo_c (by omega) (by omega) ⟨rfl, le_refl'⟩, ?_⟩
    refine (Own.lit (sz := 1) le_refl' bs_sz).app (ys := bs [b8 (p.sn / 256), b8 p.sn]) (by rw [elemsA_lit]) (by decide) (by decide) bs_sz (by simp [bs, mostBytes]) fun v1 H1 hv1 _ _ _ => ?_
    simp only [getM_of (hv1.le _ _ hG), ti26_f0, ti26_f1, ti26_f2, ti26_f3, ti26_f4, ti26_f5, ti26_f6, ti26_f7, ti23_f0, ti23_f1, go_sem]
    intro n hn
    simp only [bsA, bsl5_5, toDatss, toDats, AV.toDat, ti26_f0, ti26_f1, ti26_f2, ti26_f3, ti26_f4, ti26_f5, ti26_f6, ti26_f7, ti23_f0, ti23_f1, go_sem]
    refine hv1.app (ys := bs [b8 p.dd, b8 p.sd, b8 p.ds, b8 p.ss, b8 p.ty]) (by rw [elemsA_lit]; simp only [wrap_u8]; rfl) (by decide) (by decide) bs_sz (by simp [bs, mostBytes]) fun v2 H2 hv2 _ _ _ => ?_
    simp only [getM_of (hv2.le _ _ hG), ti26_f0, ti26_f1, ti26_f2, ti26_f3, ti26_f4, ti26_f5, ti26_f6, ti26_f7, ti23_f0, ti23_f1, go_sem]
    refine hv2.app (ys := bs p.data) rfl (by decide) (by decide) bs_sz (by simp [bs, mostBytes]; omega) fun v3 H3 hv3 _ _ _ => ?_
    have htl : bs [b8 (p.dn / 256), b8 p.dn] ++ bs [b8 (p.sn / 256), b8 p.sn] ++ bs [b8 p.dd, b8 p.sd, b8 p.ds, b8 p.ss, b8 p.ty] ++ bs p.data = bs p.tail := by simp [bs, Pk.tail]
    rw [htl] at hv3
    have hl := tail_len (p := p)
    have ht := tsum_bd (p := p)
    have hhead : IntKind.i64.wrap (IntKind.i64.wrap (IntKind.i64.wrap (p.hops * 1024) + p.tail.length) + 4) = p.head := by
      rw [wrap_i64 (n := p.hops * 1024) (by omega) (by omega), wrap_i64 (n := p.hops * 1024 + p.tail.length) (by omega) (by omega), wrap_i64 (by omega) (by omega)]
      unfold Pk.head
      omega
    have fin : ∀ G', AHeap.le G G' → Rd G' v3 (bs p.tail) → newK G' (fun n75 => apA 1 1 (.lit (bs [b8 (p.head / 256), b8 p.head])) (.lit (bs [b8 (p.tsum / 256), b8 p.tsum])) G' n75) (fun v73 H74 => newK H74 (fun n78 => apA 1 1 v73 v3 H74 n78) fun v76 H77 => retF [v76, .d (.int .i64 0)] H77 K) := by
      intro G' hG' hr
      refine (Own.lit (sz := 1) hG' bs_sz).app (ys := bs [b8 (p.tsum / 256), b8 p.tsum]) (by rw [elemsA_lit]) (by decide) (by decide) bs_sz (by simp [bs, mostBytes]) fun v4 H4 hv4 hfr _ _ => ?_
      have hr4 : Rd H4 v3 (bs p.tail) := hr.frame fun i hi => hfr i (hr.2.2 i hi) (by simp [idOf])
      refine hv4.app (ys := bs p.tail) hr4.1 (by decide) (by decide) bs_sz (by simp [bs, mostBytes]; omega) fun v5 H5 hv5 _ _ _ => ?_
      refine hv5.ret_d hle ?_
      have := h (nilS v5)
      simpa [bs_append, bs] using this
    simp only [getM_of (hv3.le _ _ hG), ti26_f0, ti26_f1, ti26_f2, ti26_f3, ti26_f4, ti26_f5, ti26_f6, ti26_f7, ti23_f0, ti23_f1, go_sem]
    split
    · rename_i hs
      obtain ⟨us, e1, e2, hle', _⟩ := hv3.frz
      have hr := hv3.frz_rd e1
      rw [frzLK_of e2]
      simp only [go_sem]
      refine rsum_c (by omega) ?_
      have hlen := hv3.len
      rw [bs_length] at hlen
      simp only [getM_of (hle' _ _ hG), hlen, hhead, ti26_f0, ti26_f1, ti26_f2, ti26_f3, ti26_f4, ti26_f5, ti26_f6, ti26_f7, ti23_f0, ti23_f1, go_sem]
      have hts : osum p.tail = p.tsum := by unfold Pk.tsum; rw [if_pos hs]
      rw [hts]
      refine rtwo_c (by unfold Pk.head; omega) (by unfold Pk.head; omega) ?_
      try simp only [go_sem]
      refine rtwo_c (by omega) (by omega) ?_
      exact fin _ hle' hr
    · rename_i hs
      have hlen := hv3.len
      rw [bs_length] at hlen
      simp only [getM_of (hv3.le _ _ hG), hlen, hhead, ti26_f0, ti26_f1, ti26_f2, ti26_f3, ti26_f4, ti26_f5, ti26_f6, ti26_f7, ti23_f0, ti23_f1, go_sem]
      have hts : p.tsum = 0 := by unfold Pk.tsum; rw [if_neg hs]
      refine rtwo_c (by unfold Pk.head; omega) (by unfold Pk.head; omega) ?_
      try simp only [go_sem]
      refine rtwo_c (by omega) (by omega) ?_
      have := fin H3 hv3.le hv3.rd
      rw [hts] at this
      exact this
theorem longs_law {p : Pk} : CallsA Try.prog 7 [p.av] noHeap fun v _ => v = .d (.bool true) := by
  apply C7
  unfold S7
  refine box_open rfl fun k G hG hle hk => ?_
  simp only [Pk.av, AV.cells] at hG
  simp only [getM_of hG, bs_length, ti26_f0, ti26_f1, ti26_f2, ti26_f3, ti26_f4, ti26_f5, ti26_f6, ti26_f7, ti23_f0, ti23_f1, go_sem]
  split
  · exact awake_end
  refine long_c (p := p) fun nl _ => ?_
  simp only [getM_of hG, ti26_f0, ti26_f1, ti26_f2, ti26_f3, ti26_f4, ti26_f5, ti26_f6, ti26_f7, ti23_f0, ti23_f1, go_sem]
  refine rlong_c (p := p) fun nl2 => ?_
  simp only [getM_of hG, bytes_toList, beq_self_eq_true, ti26_f0, ti26_f1, ti26_f2, ti26_f3, ti26_f4, ti26_f5, ti26_f6, ti26_f7, ti23_f0, ti23_f1, go_sem]
  refine ⟨rfl, _, valid_c (p := p) ⟨rfl, le_refl'⟩, rfl, _, rvalid_c (p := p) ⟨rfl, le_refl'⟩, ?_⟩
  simp only [beq_self_eq_true, go_sem]
  refine ⟨_, awake_c ⟨rfl, le_refl'⟩, ?_⟩
  simp only [go_sem]
  exact ⟨_, le_refl', rfl⟩
end Go.Proofs.Ytkpogkmnfakciaa

/- The bytes of maps. -/
import Derived.Test.YtlaojbclmcageaaM15o
set_option autoImplicit false
set_option maxRecDepth 100000
set_option linter.unusedVariables false
set_option linter.unusedSimpArgs false
namespace Go.Proofs.Ytlaojbclmcageaa
open Go Go.AM Go.Proofs
theorem bv8 (x : UInt8) : BitVec.ofInt IntKind.u8.bits (x.toNat : Int) = x.toBitVec := by
  apply BitVec.eq_of_toNat_eq
  rw [BitVec.toNat_ofInt]
  have := x.toNat_lt
  show ((x.toNat : Int) % (2 ^ 8 : Nat)).toNat = x.toNat
  omega
theorem wrap8 (n : Nat) (h : n < 256) : IntKind.u8.wrap (n : Int) = n := by
  simp [IntKind.wrap, IntKind.signed, IntKind.bits]; omega
theorem intA_or8 {x y : UInt8} : intA .or (.d (.int .u8 x.toNat)) (.d (.int .u8 y.toNat)) = some (.d (.int .u8 (x ||| y).toNat)) := by
  rw [intA_or, bv8, bv8, wrap8 _ (by exact (x.toBitVec ||| y.toBitVec).isLt)]
  rfl
theorem intA_and8 {x y : UInt8} : intA .and (.d (.int .u8 x.toNat)) (.d (.int .u8 y.toNat)) = some (.d (.int .u8 (x &&& y).toNat)) := by
  rw [intA_and, bv8, bv8, wrap8 _ (by exact (x.toBitVec &&& y.toBitVec).isLt)]
  rfl
def one8 (k : Nat) : UInt8 := UInt8.ofNat (128 >>> k)
theorem shr8a : ∀ k : Fin 8, (128 : Int).fdiv (2 ^ (min ((k.val : Nat) : Int).toNat IntKind.u8.bits)) = ((one8 k.val).toNat : Int) := by decide +kernel
theorem shr8 {k : Nat} (h : k < 8) : intA .shr (.d (.int .u8 128)) (.d (.int .i64 (k : Int))) = some (.d (.int .u8 (one8 k).toNat)) := by
  rw [intA_shr (by omega), shr8a ⟨k, h⟩]
theorem quo8 {j : Nat} (h : j < 2 ^ 62) : intA .quo (.d (.int .i64 (j : Int))) (.d (.int .i64 8)) = some (.d (.int .i64 ((j / 8 : Nat) : Int))) := by
  have e : (j : Int).tdiv 8 = ((j / 8 : Nat) : Int) := rfl
  rw [intA_quo (by omega), e, wrap_i64 (by omega) (by omega)]
theorem rem8 {j : Nat} : intA .rem (.d (.int .i64 (j : Int))) (.d (.int .i64 8)) = some (.d (.int .i64 ((j % 8 : Nat) : Int))) := by
  rw [intA_rem (by omega)]
  congr 3
def bitAt (b : UInt8) (k : Nat) : Bool := b.toNat.testBit (7 - k)
theorem bit_and : ∀ (x : Fin 256) (k : Fin 8), decide (((UInt8.ofNat x.val &&& one8 k.val).toNat : Int) ≠ 0) = bitAt (UInt8.ofNat x.val) k.val := by decide +kernel
theorem bit_and' {x : UInt8} {k : Nat} (h : k < 8) : decide (((x &&& one8 k).toNat : Int) ≠ 0) = bitAt x k := by
  have := bit_and ⟨x.toNat, x.toNat_lt⟩ ⟨k, h⟩
  simpa using this
theorem bit_or : ∀ (x : Fin 256) (k j : Fin 8), bitAt (UInt8.ofNat x.val ||| one8 k.val) j.val = (decide (k.val = j.val) || bitAt (UInt8.ofNat x.val) j.val) := by decide +kernel
theorem bit_or' {x : UInt8} {k j : Nat} (h : k < 8) (h2 : j < 8) : bitAt (x ||| one8 k) j = (decide (k = j) || bitAt x j) := by
  have := bit_or ⟨x.toNat, x.toNat_lt⟩ ⟨k, h⟩ ⟨j, h2⟩
  simpa using this
theorem bit_shr : ∀ (x : Fin 256) (k : Fin 8), decide ((((UInt8.ofNat ((UInt8.ofNat x.val).toNat >>> (7 - k.val))) &&& 1).toNat : Int) = 1) = bitAt (UInt8.ofNat x.val) k.val := by decide +kernel
theorem bit_shr' {x : UInt8} {k : Nat} (h : k < 8) : decide ((((UInt8.ofNat (x.toNat >>> (7 - k))) &&& 1).toNat : Int) = 1) = bitAt x k := by
  have := bit_shr ⟨x.toNat, x.toNat_lt⟩ ⟨k, h⟩
  simpa using this
theorem shrx : ∀ (x : Fin 256) (k : Fin 8), (x.val : Int).fdiv (2 ^ (min ((7 : Int) - ((k.val : Nat) : Int)).toNat IntKind.u8.bits)) = ((UInt8.ofNat (x.val >>> (7 - k.val))).toNat : Int) := by decide +kernel
theorem shrx' {x : UInt8} {k : Nat} (h : k < 8) : intA .shr (.d (.int .u8 x.toNat)) (.d (.int .i64 ((7 : Int) - (k : Int)))) = some (.d (.int .u8 (UInt8.ofNat (x.toNat >>> (7 - k))).toNat)) := by
  rw [intA_shr (by omega), shrx ⟨x.toNat, x.toNat_lt⟩ ⟨k, h⟩]
theorem makeb_c {n : Nat} (h1 : n ≤ 300) {H : AHeap} {K : AV → AHeap → Prop} (h : ∀ v H', Gr H 1 H' v (bs (List.replicate n 0)) → K v H') : newK H (fun n5 => mkSlA ti5 (.d (.int .i64 n)) (.d (.int .i64 n)) n5) K := by
  intro m hm
  have e : mkSlA ti5 (.d (.int .i64 n)) (.d (.int .i64 n)) m = some (.rs m 0 1 0 n, [(m, .mem 0 0 1 (repl n [.d (.int .u8 0)]))]) := by
    have e1 : ti5.bytes = 1 := by kernel_rfl
    have e2 : ti5.size = 1 := rfl
    have e3 : ti5.zero = [.d (.int .u8 0)] := rfl
    simp only [mkSlA, e1, e2, e3]
    rw [if_pos (by unfold mostBytes; omega)]
    simp
  simp only [e, stepK, optA, AHeap.sets]
  have hr : repl n [AV.d (.int .u8 0)] = avs (bs (List.replicate n 0)) := by simp [repl, avs, bs]
  rw [hr]
  have hl : n = (bs (List.replicate n 0)).length := by simp [bs]
  conv => arg 1; rw [hl]
  exact h _ _ (Gr.rs (le_set le_refl' hm) bs_sz set_self (by rw [← avs_length]; exact List.take_length) (by rw [avs_length]; exact Nat.le_refl _) hm)
theorem makeg_c {n : Nat} (h1 : n ≤ 300) {H : AHeap} {K : AV → AHeap → Prop} (h : ∀ v H', Gr H 1 H' v (bls (List.replicate n false)) → K v H') : newK H (fun n5 => mkSlA ti4 (.d (.int .i64 n)) (.d (.int .i64 n)) n5) K := by
  refine make_c (by omega) (by omega) fun i ver H' hO => ?_
  rw [Int.toNat_natCast] at hO ⊢
  obtain ⟨L, g1, g2, g3⟩ := hO.mem
  exact h _ _ (Gr.rs hO.own.1 bls_1 g1 g2 g3 hO.fresh)
theorem bs_getn {l : List UInt8} {j : Nat} (h : j < l.length) : (bs l)[j]? = some [.int .u8 (l.getD j 0).toNat] := by
  simp [bs, List.getD_eq_getElem?_getD, h]
theorem bs_put {H0 H : AHeap} {v : AV} {B : List UInt8} {j : Nat} (h : Gr H0 1 H v (bs B)) (hj : j < B.length) {ti : TI} {e : Nat} (hk : ti.k = .slice e) :
    ∃ i ver, v = .rs i ver 1 0 (bs B).length ∧ indexAddrA ti 1 v (.d (.int .i64 (j : Int))) = some (.ptr i ver j 0) ∧ ldV false 1 (.ptr i ver j 0) H = some (.d (.int .u8 (B.getD j 0).toNat)) ∧ ∀ y : UInt8, ∃ o, stoA false 1 (.ptr i ver j 0) (.d (.int .u8 y.toNat)) H = some (.junk, [(i, o)]) ∧ Gr H0 1 (H.set i o) v (bs (B.set j y)) := by
  have hc := bs_getn hj
  obtain ⟨i, ver, L, rfl, g1, g2, g3⟩ := h.ix (j := (j : Int)) hk (by omega) (by rw [Int.toNat_natCast]; exact hc)
  rw [Int.toNat_natCast] at g1 g3
  refine ⟨i, ver, rfl, g1, ?_, fun y => ?_⟩
  · simp only [ldV_get, g2, ldM, g3, partV, List.map_cons, List.map_nil, List.drop_zero, List.take_succ_cons, List.take_zero, List.length_cons, List.length_nil, if_true, Bool.false_eq_true, if_false]
  · obtain ⟨o, g4, g5⟩ := h.put (off := 0) (y := .int .u8 y.toNat) hc (by simp)
    refine ⟨o, g4, ?_⟩
    have e : (bs B).set j ([Dat.int .u8 (B.getD j 0).toNat].set 0 (.int .u8 y.toNat)) = bs (B.set j y) := by
      simp [bs, List.map_set]
    rw [e] at g5
    exact g5
/-- The bytes behind j bits. -/
def packJ (m : List Bool) : Nat → List UInt8
  | 0 => List.replicate ((m.length + 7) / 8) 0
  | j + 1 => if m.getD j false then (packJ m j).set (j / 8) ((packJ m j).getD (j / 8) 0 ||| one8 (j % 8)) else packJ m j
theorem packJ_len {m : List Bool} : ∀ {j : Nat}, (packJ m j).length = (m.length + 7) / 8
  | 0 => by simp [packJ]
  | j + 1 => by
    unfold packJ
    split
    · rw [List.length_set]; exact packJ_len
    · exact packJ_len
def packP (m : List Bool) : List UInt8 := if m.length ≤ 300 then packJ m m.length else []
def packE (m : List Bool) : Int := if m.length ≤ 300 then 0 else 2
theorem Pack_c {nl : Bool} {m : List Bool} {H : AHeap} {K : AV → AHeap → Prop} (h : ∀ n1, K (.tup [.d (.sl n1 (bs (packP m))), .d (.int .i64 (packE m))]) H) : CallsA Try.prog 37 [.d (.sl nl (bls m))] H K := by
  apply C37
  unfold S37
  simp only [go_sem]
  refine isMap_c (l := []) (by simp [Wide]) (by simp) ?_
  simp only [val0, go_sem]
  unfold packP packE at h
  split
  · rename_i h1
    rw [if_neg (by omega), if_neg (by omega)] at h
    exact ⟨H, le_refl', h true⟩
  rename_i h1
  have hl : m.length ≤ 300 := by omega
  rw [if_pos hl, if_pos hl] at h
  try simp only [bls_len, go_sem]
  rw [wrap_i64 (n := (m.length : Int) + 7) (by omega) (by omega), show (m.length : Int) + 7 = ((m.length + 7 : Nat) : Int) by omega]
  simp only [quo8 (j := m.length + 7) (by omega), go_sem]
  refine makeb_c (by omega) fun v0 G0 hG0 => ?_
  refine loop_ind (fun r vs G => ∃ (j : Nat) (v : AV), j ≤ m.length ∧ r = m.length - j ∧ Gr H 1 G v (bs (packJ m j)) ∧ vs = [v, .d (.sl nl (bls m)), .d (.int .i64 m.length), .d (.int .i64 j)]) (n := m.length) ⟨0, _, by omega, by omega, hG0, rfl⟩ ?_
  rintro X r vs G ⟨j, v, hj, rfl, hG, rfl⟩ hX
  simp only [List.getD_cons_succ, List.getD_cons_zero, go_sem]
  split
  · rename_i hlt
    have hj' : j < m.length := by omega
    have hgd : m.getD j false = m[j] := by simp [List.getD_eq_getElem?_getD, hj']
    simp only [sl_get (ti := ti22) (e := 4) (esz := 1) rfl (by omega : (0 : Int) ≤ j) (by simpa using bls_get hj') rfl, List.map_cons, List.map_nil, go_sem]
    split
    · rename_i hb
      obtain ⟨i, ver, hv, e1, e2, e3⟩ := bs_put hG (j := j / 8) (by rw [packJ_len]; omega) (ti := ti50) (e := 5) rfl
      obtain ⟨o, g1, g2⟩ := e3 ((packJ m j).getD (j / 8) 0 ||| one8 (j % 8))
      simp only [quo8 (j := j) (by omega), rem8 (j := j), shr8 (k := j % 8) (by omega), e1, e2, intA_or8, g1, go_sem]
      rw [wrap_i64 (by omega) (by omega)]
      refine hX (m.length - (j + 1)) _ _ (by omega) ⟨j + 1, v, by omega, rfl, ?_, rfl⟩
      unfold packJ
      rw [hgd, hb, if_pos rfl]
      exact g2
    · rename_i hb
      rw [wrap_i64 (by omega) (by omega)]
      refine hX (m.length - (j + 1)) _ _ (by omega) ⟨j + 1, v, by omega, rfl, ?_, rfl⟩
      unfold packJ
      rw [hgd, if_neg (by simpa using hb)]
      exact hG
  · rename_i hge
    have : j = m.length := by omega
    subst this
    exact hG.own.ret_d le_refl' (h _)
theorem rPack_c {nl : Bool} {m : List Bool} {H : AHeap} {K : AV → AHeap → Prop} (h : ∀ n1, K (.tup [.d (.sl n1 (bs (packP m))), .d (.int .i64 (packE m))]) H) : CallsA Try.prog 38 [.d (.sl nl (bls m))] H K := by
  apply C38
  unfold S38
  simp only [bls_len, go_sem]
  unfold packP packE at h
  split
  · rename_i h1
    rw [if_neg (by omega), if_neg (by omega)] at h
    exact ⟨H, le_refl', h true⟩
  rename_i h1
  have hl : m.length ≤ 300 := by omega
  rw [if_pos hl, if_pos hl] at h
  try simp only [bls_len, go_sem]
  rw [wrap_i64 (n := (m.length : Int) + 7) (by omega) (by omega), show (m.length : Int) + 7 = ((m.length + 7 : Nat) : Int) by omega]
  simp only [quo8 (j := m.length + 7) (by omega), go_sem]
  refine makeb_c (by omega) fun v0 G0 hG0 => ?_
  refine loop_ind (fun r vs G => ∃ (j : Nat) (v : AV), j ≤ m.length ∧ r = m.length - j ∧ Gr H 1 G v (bs (packJ m j)) ∧ vs = [.d (.sl nl (bls m)), v, .d (.int .i64 j)]) (n := m.length) ⟨0, _, by omega, by omega, hG0, rfl⟩ ?_
  rintro X r vs G ⟨j, v, hj, rfl, hG, rfl⟩ hX
  simp only [List.getD_cons_succ, List.getD_cons_zero, bls_len, go_sem]
  split
  · rename_i hlt
    have hj' : j < m.length := by omega
    have hgd : m.getD j false = m[j] := by simp [List.getD_eq_getElem?_getD, hj']
    simp only [sl_get (ti := ti22) (e := 4) (esz := 1) rfl (by omega : (0 : Int) ≤ j) (by simpa using bls_get hj') rfl, List.map_cons, List.map_nil, go_sem]
    split
    · rename_i hb
      obtain ⟨i, ver, hv, e1, e2, e3⟩ := bs_put hG (j := j / 8) (by rw [packJ_len]; omega) (ti := ti50) (e := 5) rfl
      obtain ⟨o, g1, g2⟩ := e3 ((packJ m j).getD (j / 8) 0 ||| one8 (j % 8))
      simp only [quo8 (j := j) (by omega), rem8 (j := j), shr8 (k := j % 8) (by omega), e1, e2, intA_or8, g1, go_sem]
      rw [wrap_i64 (by omega) (by omega)]
      refine hX (m.length - (j + 1)) _ _ (by omega) ⟨j + 1, v, by omega, rfl, ?_, rfl⟩
      unfold packJ
      rw [hgd, hb, if_pos rfl]
      exact g2
    · rename_i hb
      rw [wrap_i64 (by omega) (by omega)]
      refine hX (m.length - (j + 1)) _ _ (by omega) ⟨j + 1, v, by omega, rfl, ?_, rfl⟩
      unfold packJ
      rw [hgd, if_neg (by simpa using hb)]
      exact hG
  · rename_i hge
    have : j = m.length := by omega
    subst this
    exact hG.own.ret_d le_refl' (h _)
/-! what is read -/
def bitsOf (b : List UInt8) : List Bool := (List.range (8 * b.length)).map fun i => bitAt (b.getD (i / 8) 0) (i % 8)
theorem bitsOf_len {b : List UInt8} : (bitsOf b).length = 8 * b.length := by simp [bitsOf]
theorem bitsOf_get {b : List UInt8} {i : Nat} (h : i < (bitsOf b).length) : (bitsOf b)[i] = bitAt (b.getD (i / 8) 0) (i % 8) := by simp [bitsOf]
def UnOk (b : List UInt8) (n : Int) : Prop := (0 ≤ n ∧ n ≤ 300) ∧ (b.length : Int) = ((n.toNat + 7) / 8 : Nat)
instance (b : List UInt8) (n : Int) : Decidable (UnOk b n) := by unfold UnOk; exact inferInstance
def unM (b : List UInt8) (n : Int) : List Bool := if UnOk b n then (if true ∈ (bitsOf b).drop n.toNat then [] else (bitsOf b).take n.toNat) else []
def unE (b : List UInt8) (n : Int) : Int := if UnOk b n then (if true ∈ (bitsOf b).drop n.toNat then 3 else 0) else 2
theorem min_step {α : Type} {l : List α} {j n : Nat} (hj : j < l.length) (hn : j < n) : l.take (min (j + 1) n) = l.take (min j n) ++ [l[j]] := by
  rw [show min (j + 1) n = j + 1 by omega, show min j n = j by omega, List.take_add_one, List.getElem?_eq_getElem hj]; rfl
section
variable {nl : Bool} {b : List UInt8} {n : Int}
theorem Unpack_c {H : AHeap} {K : AV → AHeap → Prop} (h : ∀ n1, (n1 = true → unM b n = []) → K (.tup [.d (.sl n1 (bls (unM b n))), .d (.int .i64 (unE b n))]) H) : CallsA Try.prog 39 [.d (.sl nl (bs b)), .d (.int .i64 n)] H K := by
  apply C39
  unfold S39
  unfold unM unE at h
  have no : ¬ UnOk b n → finA (.tup [.d (.sl true []), .d (.int .i64 2)]) H K := fun hn => by
    simp only [hn, if_false] at h
    exact ⟨H, le_refl', h true fun _ => trivial⟩
  simp only [bs_length, go_sem]
  split
  · exact no (fun hh => by unfold UnOk at hh; omega)
  try simp only [bs_length, go_sem]
  split
  · exact no (fun hh => by unfold UnOk at hh; omega)
  rename_i h1 h2
  try simp only [bs_length, go_sem]
  rw [wrap_i64 (n := n + 7) (by omega) (by omega), show n + 7 = ((n.toNat + 7 : Nat) : Int) by omega]
  simp only [quo8 (j := n.toNat + 7) (by omega), go_sem]
  split
  · rename_i h3
    exact no (fun hh => h3 hh.2)
  rename_i h3
  have h3 := Classical.not_not.1 h3
  have hok : UnOk b n := ⟨by omega, h3⟩
  simp only [hok, if_true] at h
  try simp only [bs_length, go_sem]
  obtain ⟨N, rfl⟩ : ∃ N : Nat, n = N := ⟨n.toNat, by omega⟩
  rw [Int.toNat_natCast] at h h3
  refine makeg_c (by omega) fun v0 G0 hG0 => ?_
  try simp only [bs_length, go_sem]
  rw [wrap_i64 (n := 8 * (b.length : Int)) (by omega) (by omega)]
  refine loop_ind (fun r vs G => ∃ (j : Nat) (v : AV), j ≤ 8 * b.length ∧ r = 8 * b.length - j ∧ Gr H 1 G v (bls ((bitsOf b).take (min j N) ++ List.replicate (N - j) false)) ∧ true ∉ ((bitsOf b).take j).drop N ∧ vs = [.d (.sl nl (bs b)), .d (.int .i64 N), v, .d (.int .i64 (8 * (b.length : Int))), .d (.int .i64 j)]) (n := 8 * b.length) ⟨0, _, by omega, by omega, by simpa using hG0, by simp, rfl⟩ ?_
  rintro X r vs G ⟨j, v, hj, rfl, hG, hno, rfl⟩ hX
  simp only [List.getD_cons_succ, List.getD_cons_zero, go_sem]
  have hbl := bitsOf_len (b := b)
  split
  · rename_i hlt
    have hj8 : j / 8 < b.length := by omega
    have hjb : j < (bitsOf b).length := by omega
    have hb := bitsOf_get hjb
    have hsp : (bitsOf b).take (j + 1) = (bitsOf b).take j ++ [(bitsOf b)[j]] := by rw [List.take_add_one, List.getElem?_eq_getElem hjb]; rfl
    simp only [quo8 (j := j) (by omega), rem8 (j := j), shr8 (k := j % 8) (by omega), sl_get (ti := ti50) (e := 5) (esz := 1) rfl (by omega : (0 : Int) ≤ ((j / 8 : Nat) : Int)) (by rw [Int.toNat_natCast]; exact bs_getn hj8) rfl, List.map_cons, List.map_nil, intA_and8, go_sem]
    have hbit := bit_and' (x := b.getD (j / 8) 0) (k := j % 8) (by omega)
    have hx : (¬ ((b.getD (j / 8) 0 &&& one8 (j % 8)).toNat : Int) = 0) ↔ (bitsOf b)[j] = true := by
      rw [hb, ← hbit, decide_eq_true_eq]
    have set : j < N → ∃ i ver o, v = .rs i ver 1 0 (bls ((bitsOf b).take (min j N) ++ List.replicate (N - j) false)).length ∧ indexAddrA ti22 1 v (.d (.int .i64 (j : Int))) = some (.ptr i ver j 0) ∧ stoA false 1 (.ptr i ver j 0) (.d (.bool (bitsOf b)[j])) G = some (.junk, [(i, o)]) ∧ Gr H 1 (G.set i o) v (bls ((bitsOf b).take (min (j + 1) N) ++ List.replicate (N - (j + 1)) false)) := fun hjN => by
      have hlen : ((bitsOf b).take (min j N)).length = j := by rw [List.length_take]; omega
      obtain ⟨i, ver, o, f1, f2, f3, f4⟩ := bls_put (u := (bitsOf b)[j]) hG (b := (j : Int)) (by omega) (by rw [List.length_append, hlen, List.length_replicate]; omega) (ti := ti22) (e := 4) rfl
      rw [Int.toNat_natCast] at f2 f3 f4
      refine ⟨i, ver, o, f1, f2, f3, ?_⟩
      rw [min_step hjb hjN]
      have e : ((bitsOf b).take (min j N) ++ List.replicate (N - j) false).set j (bitsOf b)[j] = (bitsOf b).take (min j N) ++ [(bitsOf b)[j]] ++ List.replicate (N - (j + 1)) false := by
        rw [List.set_append_right _ _ (by omega), hlen, Nat.sub_self, show N - j = (N - (j + 1)) + 1 by omega, List.replicate_succ]
        simp
      rw [e] at f4
      exact f4
    have next : ∀ G', (N ≤ j → (bitsOf b)[j] = false) → Gr H 1 G' v (bls ((bitsOf b).take (min (j + 1) N) ++ List.replicate (N - (j + 1)) false)) → X [.d (.sl nl (bs b)), .d (.int .i64 N), v, .d (.int .i64 (8 * (b.length : Int))), .d (.int .i64 (IntKind.i64.wrap (j + 1)))] G' := fun G' hf hG' => by
      rw [wrap_i64 (by omega) (by omega)]
      refine hX (8 * b.length - (j + 1)) _ _ (by omega) ⟨j + 1, v, by omega, rfl, hG', ?_, rfl⟩
      rw [hsp]
      by_cases hjN : j < N
      · rw [List.drop_eq_nil_of_le (by simp; omega)]; simp
      · rw [List.drop_append_of_le_length (by rw [List.length_take]; omega), hf (by omega)]
        simp only [List.mem_append, List.mem_singleton, Bool.true_eq_false, or_false]
        exact hno
    have keep : ¬ j < N → Gr H 1 G v (bls ((bitsOf b).take (min (j + 1) N) ++ List.replicate (N - (j + 1)) false)) := fun hjN => by
      rw [show min (j + 1) N = min j N by omega, show N - (j + 1) = N - j by omega]
      exact hG
    have hd : decide (¬ ((b.getD (j / 8) 0 &&& one8 (j % 8)).toNat : Int) = 0) = (bitsOf b)[j] := by
      rw [Bool.eq_iff_iff, decide_eq_true_eq]; exact hx
    try simp only [hd]
    split
    · rename_i hge
      split
      · rename_i hbt
        have hm : true ∈ (bitsOf b).drop N := by
          have hbt' : (bitsOf b)[j] = true := by first | exact hx.1 hbt | exact hbt
          rw [← hbt', List.mem_iff_getElem]
          exact ⟨j - N, by rw [List.length_drop]; omega, by rw [List.getElem_drop]; congr 1; omega⟩
        simp only [hm, if_true] at h
        exact ⟨H, hG.1, h true fun _ => trivial⟩
      · rename_i hbf
        rw [if_neg (by omega)]
        try simp only [go_sem]
        refine next _ (fun _ => ?_) (keep (by omega))
        first | exact Bool.eq_false_iff.2 fun hh => hbf (hx.2 hh) | exact Bool.eq_false_iff.2 hbf
    · rename_i hlt2
      rw [if_pos (by omega)]
      obtain ⟨i, ver, o, f1, f2, f3, f4⟩ := set (by omega)
      simp only [f2, f3, hd, go_sem]
      exact next _ (fun _ => by omega) f4
  · rename_i hge
    have : j = 8 * b.length := by omega
    subst this
    rw [List.take_of_length_le (l := bitsOf b) (i := 8 * b.length) (by omega)] at hno
    simp only [hno, if_false] at h
    rw [show N - 8 * b.length = 0 by omega, List.replicate_zero, List.append_nil, show min (8 * b.length) N = N by omega] at hG
    refine hG.own.ret_d le_refl' (h _ fun hn => ?_)
    have := hG.own.nilS hn
    cases hl : (bitsOf b).take N with
    | nil => rfl
    | cons x r => rw [hl] at this; cases this
theorem rUnpack_c {H : AHeap} {K : AV → AHeap → Prop} (h : ∀ n1, (n1 = true → unM b n = []) → K (.tup [.d (.sl n1 (bls (unM b n))), .d (.int .i64 (unE b n))]) H) : CallsA Try.prog 40 [.d (.sl nl (bs b)), .d (.int .i64 n)] H K := by
  apply C40
  unfold S40
  unfold unM unE at h
  have no : ¬ UnOk b n → finA (.tup [.d (.sl true []), .d (.int .i64 2)]) H K := fun hn => by
    simp only [hn, if_false] at h
    exact ⟨H, le_refl', h true fun _ => trivial⟩
  simp only [bs_length, go_sem]
  split
  · exact no (fun hh => by unfold UnOk at hh; omega)
  try simp only [bs_length, go_sem]
  split
  · exact no (fun hh => by unfold UnOk at hh; omega)
  rename_i h1 h2
  try simp only [bs_length, go_sem]
  rw [wrap_i64 (n := n + 7) (by omega) (by omega), show n + 7 = ((n.toNat + 7 : Nat) : Int) by omega]
  simp only [quo8 (j := n.toNat + 7) (by omega), go_sem]
  split
  · rename_i h3
    exact no (fun hh => h3 hh.2)
  rename_i h3
  have h3 := Classical.not_not.1 h3
  have hok : UnOk b n := ⟨by omega, h3⟩
  simp only [hok, if_true] at h
  try simp only [bs_length, go_sem]
  obtain ⟨N, rfl⟩ : ∃ N : Nat, n = N := ⟨n.toNat, by omega⟩
  rw [Int.toNat_natCast] at h h3
  refine loop_ind (fun r vs G => ∃ (j : Nat) (v : AV), j ≤ 8 * b.length ∧ r = 8 * b.length - j ∧ Gr H 1 G v (bls ((bitsOf b).take (min j N))) ∧ true ∉ ((bitsOf b).take j).drop N ∧ vs = [.d (.sl nl (bs b)), .d (.int .i64 N), v, .d (.int .i64 j)]) (n := 8 * b.length) ⟨0, _, by omega, by omega, by simpa [bls] using Gr.nil le_refl', by simp, rfl⟩ ?_
  rintro X r vs G ⟨j, v, hj, rfl, hG, hno, rfl⟩ hX
  simp only [List.getD_cons_succ, List.getD_cons_zero, bs_length, go_sem]
  rw [wrap_i64 (n := 8 * (b.length : Int)) (by omega) (by omega)]
  have hbl := bitsOf_len (b := b)
  split
  · rename_i hlt
    have hj8 : j / 8 < b.length := by omega
    have hjb : j < (bitsOf b).length := by omega
    have hb := bitsOf_get hjb
    have hsp : (bitsOf b).take (j + 1) = (bitsOf b).take j ++ [(bitsOf b)[j]] := by rw [List.take_add_one, List.getElem?_eq_getElem hjb]; rfl
    have hone : intA .and (.d (.int .u8 (UInt8.ofNat ((b.getD (j / 8) 0).toNat >>> (7 - j % 8))).toNat)) (.d (.int .u8 1)) = some (.d (.int .u8 (UInt8.ofNat ((b.getD (j / 8) 0).toNat >>> (7 - j % 8)) &&& 1).toNat)) := intA_and8 (y := 1)
    simp only [quo8 (j := j) (by omega), rem8 (j := j), sl_get (ti := ti50) (e := 5) (esz := 1) rfl (by omega : (0 : Int) ≤ ((j / 8 : Nat) : Int)) (by rw [Int.toNat_natCast]; exact bs_getn hj8) rfl, List.map_cons, List.map_nil, go_sem]
    rw [wrap_i64 (n := 7 - ((j % 8 : Nat) : Int)) (by omega) (by omega)]
    simp only [shrx' (x := b.getD (j / 8) 0) (k := j % 8) (by omega), hone, go_sem]
    have hd : decide (((UInt8.ofNat ((b.getD (j / 8) 0).toNat >>> (7 - j % 8)) &&& 1).toNat : Int) = 1) = (bitsOf b)[j] := by
      rw [hb]; exact bit_shr' (by omega)
    have hx : ((UInt8.ofNat ((b.getD (j / 8) 0).toNat >>> (7 - j % 8)) &&& 1).toNat : Int) = 1 ↔ (bitsOf b)[j] = true := by
      rw [← hd, decide_eq_true_eq]
    have next : ∀ v' G', (N ≤ j → (bitsOf b)[j] = false) → Gr H 1 G' v' (bls ((bitsOf b).take (min (j + 1) N))) → X [.d (.sl nl (bs b)), .d (.int .i64 N), v', .d (.int .i64 (IntKind.i64.wrap (j + 1)))] G' := fun v' G' hf hG' => by
      rw [wrap_i64 (by omega) (by omega)]
      refine hX (8 * b.length - (j + 1)) _ _ (by omega) ⟨j + 1, v', by omega, rfl, hG', ?_, rfl⟩
      rw [hsp]
      by_cases hjN : j < N
      · rw [List.drop_eq_nil_of_le (by simp; omega)]; simp
      · rw [List.drop_append_of_le_length (by rw [List.length_take]; omega), hf (by omega)]
        simp only [List.mem_append, List.mem_singleton, Bool.true_eq_false, or_false]
        exact hno
    try simp only [hd]
    split
    · rename_i hlt2
      have hjN : j < N := by omega
      intro n24 _
      have bs4_1 : ∀ {x : Dat} {H : AHeap} {n : Nat}, bsA ti4 1 [0] [.d x] H n = some (.lit [[x]], []) := rfl
      simp only [bs4_1, hd, go_sem]
      refine hG.app (ys := [[.bool (bitsOf b)[j]]]) rfl (by decide) (by decide) (by simp) (by rw [bls_len, List.length_take]; simp [mostBytes]; omega) fun v' H3 hv' _ _ _ => ?_
      refine next _ _ (fun _ => by omega) ?_
      rw [min_step hjb hjN, bls_app]
      exact hv'
    · rename_i hge
      split
      · rename_i hbt
        have hm : true ∈ (bitsOf b).drop N := by
          have hbt' : (bitsOf b)[j] = true := by first | exact hx.1 hbt | exact hbt
          rw [← hbt', List.mem_iff_getElem]
          exact ⟨j - N, by rw [List.length_drop]; omega, by rw [List.getElem_drop]; congr 1; omega⟩
        simp only [hm, if_true] at h
        exact ⟨H, hG.1, h true fun _ => trivial⟩
      · rename_i hbf
        try simp only [go_sem]
        refine next _ _ (fun _ => ?_) (by rw [show min (j + 1) N = min j N by omega]; exact hG)
        first | exact Bool.eq_false_iff.2 fun hh => hbf (hx.2 hh) | exact Bool.eq_false_iff.2 hbf
  · rename_i hge
    have : j = 8 * b.length := by omega
    subst this
    rw [List.take_of_length_le (l := bitsOf b) (i := 8 * b.length) (by omega)] at hno
    simp only [hno, if_false] at h
    rw [show min (8 * b.length) N = N by omega] at hG
    refine hG.own.ret_d le_refl' (h _ fun hn => ?_)
    have := hG.own.nilS hn
    cases hl : (bitsOf b).take N with
    | nil => rfl
    | cons x r => rw [hl] at this; cases this
end
theorem unM_len {b : List UInt8} {n : Int} : (unM b n).length ≤ 300 := by
  unfold unM
  split
  · rename_i h
    split
    · simp
    · rw [List.length_take]; have := h.1; omega
  · simp
theorem packs_law {n1 n2 : Bool} {m : List Bool} {b : List UInt8} {n : Int} : CallsA Try.prog 9 [.d (.sl n1 (bls m)), .d (.sl n2 (bs b)), .d (.int .i64 n)] noHeap fun v _ => v = .d (.bool true) := by
  apply C9
  unfold S9
  simp only [go_sem]
  refine Pack_c fun n3 => ?_
  simp only [go_sem]
  refine rPack_c fun n4 => ?_
  simp only [go_sem]
  refine Unpack_c fun n5 _ => ?_
  simp only [go_sem]
  refine rUnpack_c fun n6 _ => ?_
  have hul := unM_len (b := b) (n := n)
  simp only [BEq.rfl, if_true, go_sem]
  refine sameMaps_c (by omega) ?_
  simp only [decide_true, if_true, go_sem]
  exact first_end
theorem bytes_open {xs : List Dat} (h : DatOk Try.prog 9 50 xs) : ∃ nl b, argAV (aggT Try.prog 50) xs = .d (.sl nl (bs b)) := by
  rw [datOk_slice (show Try.prog.underlying 50 = some (.slice 5) from Try.underlying50)] at h
  obtain ⟨nl, l, rfl, _, hl, _⟩ := h
  obtain ⟨b, rfl⟩ := DatOk_bytes (show Try.prog.underlying 5 = some (.int .u8) from Try.underlying5) hl
  exact ⟨nl, b, rfl⟩
theorem packs_row (xs : List Dat) (h : DatOk Try.prog 9 22 xs) (ys : List Dat) (h2 : DatOk Try.prog 9 50 ys) (zs : List Dat) (h3 : DatOk Try.prog 9 3 zs) : CallsA Try.prog 9 [argAV (aggT Try.prog 22) xs, argAV (aggT Try.prog 50) ys, argAV (aggT Try.prog 3) zs] noHeap fun v _ => v = .d (.bool true) := by
  obtain ⟨nl, m, hm, hnl, _⟩ := bools_open h
  obtain ⟨n2, b, hb⟩ := bytes_open h2
  obtain ⟨n, hn, _⟩ := int_open h3
  rw [hm, hb, hn]
  exact packs_law
end Go.Proofs.Ytlaojbclmcageaa

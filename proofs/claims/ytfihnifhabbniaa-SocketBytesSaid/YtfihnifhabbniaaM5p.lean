/- What the functions of datagrams compute (carried over from another seat). -/
import Derived.Test.YtfihnifhabbniaaT5
set_option autoImplicit false
set_option maxRecDepth 100000
set_option linter.unusedVariables false
set_option linter.unusedSimpArgs false
namespace Go.Proofs.Ytfihnifhabbniaa.P4
open Go Go.AM Go.Proofs

theorem k_bool {K : AV → AHeap → Prop} {H : AHeap} {b c : Bool} (h : K (.d (.bool b)) H) (e : c = b) : K (.d (.bool c)) H := e ▸ h

/-- A datagram. -/
structure Pk where
  hops : Int
  dn : Int
  dd : Int
  sn : Int
  sd : Int
  ds : Int
  ss : Int
  ty : Int
  nl : Bool
  data : List UInt8
  sum : Bool
def Pk.av (p : Pk) : AV := .agg [.d (.int .i64 p.hops), .d (.int .i64 p.dn), .d (.int .i64 p.dd), .d (.int .i64 p.sn), .d (.int .i64 p.sd), .d (.int .i64 p.ds), .d (.int .i64 p.ss), .d (.int .i64 p.ty), .d (.sl p.nl (bs p.data)), .d (.bool p.sum)]
def Pk.Valid (p : Pk) : Prop := ((0 ≤ p.hops ∧ p.hops ≤ 15) ∧ (0 ≤ p.dn ∧ p.dn ≤ 65279) ∧ (0 ≤ p.dd ∧ p.dd ≤ 255) ∧ (0 ≤ p.sn ∧ p.sn ≤ 65279) ∧ (0 ≤ p.sd ∧ p.sd ≤ 255)) ∧ (0 ≤ p.ds ∧ p.ds ≤ 255) ∧ (0 ≤ p.ss ∧ p.ss ≤ 255) ∧ (1 ≤ p.ty ∧ p.ty ≤ 255) ∧ p.data.length ≤ 586
instance (p : Pk) : Decidable p.Valid := by unfold Pk.Valid; exact inferInstance

theorem within_c {n low high : Int} {H : AHeap} {K : AV → AHeap → Prop} (h : K (.d (.bool (decide (low ≤ n ∧ n ≤ high)))) H) : CallsA Try.prog 61 [.d (.int .i64 n), .d (.int .i64 low), .d (.int .i64 high)] H K := by
  apply C61
  simp only [S61, go_sem]
  split <;> (rename_i h1; exact ⟨H, le_refl', by simpa [h1] using h⟩)
theorem isNet_c {n : Int} {H : AHeap} {K : AV → AHeap → Prop} (h : K (.d (.bool (decide (0 ≤ n ∧ n ≤ 65279)))) H) : CallsA Try.prog 71 [.d (.int .i64 n)] H K := by
  apply C71
  simp only [S71, go_sem]
  split <;> (rename_i h1; exact ⟨H, le_refl', by simpa [h1] using h⟩)
theorem isByte_c {n : Int} {H : AHeap} {K : AV → AHeap → Prop} (h : K (.d (.bool (decide (0 ≤ n ∧ n ≤ 255)))) H) : CallsA Try.prog 72 [.d (.int .i64 n)] H K := by
  apply C72
  simp only [S72, go_sem]
  split <;> (rename_i h1; exact ⟨H, le_refl', by simpa [h1] using h⟩)
theorem isAddr_c {n d : Int} {H : AHeap} {K : AV → AHeap → Prop} (h : K (.d (.bool (decide ((0 ≤ n ∧ n ≤ 65279) ∧ (0 ≤ d ∧ d ≤ 255))))) H) : CallsA Try.prog 62 [.agg [.d (.int .i64 n), .d (.int .i64 d)]] H K := by
  apply C62
  unfold S62
  refine box_open rfl fun k G hG hle hk => ?_
  simp only [getM_of hG, ti36_f0, ti36_f1, ti36_f2, ti36_f3, ti36_f4, ti36_f5, ti36_f6, ti36_f7, ti28_f0, ti28_f1, go_sem]
  refine within_c ?_
  simp only [getM_of hG, ti36_f0, ti36_f1, ti36_f2, ti36_f3, ti36_f4, ti36_f5, ti36_f6, ti36_f7, ti28_f0, ti28_f1, go_sem]
  split
  · rename_i h1
    refine within_c ?_
    simp only [go_sem]
    exact ⟨H, hle, by simpa [h1] using h⟩
  · rename_i h1
    exact ⟨H, hle, by simpa [h1] using h⟩
theorem valid_c {p : Pk} {H : AHeap} {K : AV → AHeap → Prop} (h : K (.d (.bool (decide p.Valid))) H) : CallsA Try.prog 34 [p.av] H K := by
  apply C34
  unfold S34 Pk.av
  refine box_open rfl fun k G hG hle hk => ?_
  repeat' first
    | (refine within_c ?_; simp only [getM_of hG, bs_length, ti36_f0, ti36_f1, ti36_f2, ti36_f3, ti36_f4, ti36_f5, ti36_f6, ti36_f7, ti28_f0, ti28_f1, go_sem])
    | (refine isAddr_c ?_; simp only [getM_of hG, bs_length, ti36_f0, ti36_f1, ti36_f2, ti36_f3, ti36_f4, ti36_f5, ti36_f6, ti36_f7, ti28_f0, ti28_f1, go_sem])
    | (exact ⟨H, hle, k_bool h (by unfold Pk.Valid; first | (exact (decide_eq_false (by omega)).symm) | (exact decide_eq_decide.2 (by omega)))⟩)
    | split
    | simp only [getM_of hG, bs_length, ti36_f0, ti36_f1, ti36_f2, ti36_f3, ti36_f4, ti36_f5, ti36_f6, ti36_f7, ti28_f0, ti28_f1, go_sem]
theorem rvalid_c {p : Pk} {H : AHeap} {K : AV → AHeap → Prop} (h : K (.d (.bool (decide p.Valid))) H) : CallsA Try.prog 66 [p.av] H K := by
  apply C66
  unfold S66 Pk.av
  refine box_open rfl fun k G hG hle hk => ?_
  repeat' first
    | (refine isNet_c ?_; simp only [getM_of hG, bs_length, ti36_f0, ti36_f1, ti36_f2, ti36_f3, ti36_f4, ti36_f5, ti36_f6, ti36_f7, ti28_f0, ti28_f1, go_sem])
    | (refine isByte_c ?_; simp only [getM_of hG, bs_length, ti36_f0, ti36_f1, ti36_f2, ti36_f3, ti36_f4, ti36_f5, ti36_f6, ti36_f7, ti28_f0, ti28_f1, go_sem])
    | (exact ⟨H, hle, k_bool h (by unfold Pk.Valid; first | (exact (decide_eq_false (by omega)).symm) | (exact decide_eq_decide.2 (by omega)))⟩)
    | split
    | simp only [getM_of hG, bs_length, ti36_f0, ti36_f1, ti36_f2, ti36_f3, ti36_f4, ti36_f5, ti36_f6, ti36_f7, ti28_f0, ti28_f1, go_sem]
theorem bsl5_2 {x y : Dat} : buildSlA ti5 2 (List.zip [0, 1] [.d x, .d y]) = some [[.d x], [.d y]] := rfl
theorem two_c {n : Int} {H : AHeap} {K : AV → AHeap → Prop} (h : K (.d (.sl false (bs [b8 (n / 256), b8 n]))) H) : CallsA Try.prog 40 [.d (.int .i64 n)] H K := by
  apply C40
  simp only [S40, intA_shr (a := n) (b := 8) (k := .i64) (k' := .u64) (by decide), bsA, bsl5_2, toDatss, toDats, AV.toDat, go_sem]
  intro k hk
  refine ⟨H, le_refl', ?_⟩
  rw [wrap_u8, wrap_u8]
  have : n.fdiv (2 ^ min (8 : Int).toNat 64) = n / 256 := by
    rw [show (2 : Int) ^ min (8 : Int).toNat 64 = 256 from rfl]
    exact Int.fdiv_eq_ediv_of_nonneg _ (by decide)
  rw [this]
  exact h
/-- slices.Grow of nil. -/
theorem grow_c {n : Int} {H : AHeap} {K : AV → AHeap → Prop} (h0 : 0 ≤ n) (h1 : n < 2 ^ 46) (h : ∀ v H', Own H 1 H' v [] → (∀ i, (H i).isSome → H' i = H i) → (n = 0 → v = .d (.sl true [])) → K v H') : CallsA Try.prog 63 [.d (.sl true []), .d (.int .i64 n)] H K := by
  apply C63
  simp only [S63, go_sem]
  rw [if_neg (by omega)]
  simp only [capA, go_sem]
  have e1 : IntKind.i64.wrap (0 - ((0 : Nat) : Int)) = 0 := rfl
  simp only [List.length_nil, e1]
  rw [wrap_i64 (by omega) (by omega)]
  split
  · rename_i hn
    have e2 : sliceA 1 (.d (.sl true [])) none (some (.d (.int .i64 0))) none H = some (.d (.sl true [])) := rfl
    simp only [e2, go_sem]
    intro m hm
    have e3 : apzA ti5 (.d (.sl true [])) (.d (.int .i64 (n - 0))) H m = some (.rs m 0 1 0 n.toNat, [(m, .mem 0 0 1 (repl n.toNat [.d (.int .u8 0)]))]) := by
      simp only [apzA, appA, Int.sub_zero]
      have hc : n.toNat * 1 ≤ mostBytes := by unfold mostBytes; omega
      rw [if_pos ⟨h0, by decide, by decide, hc⟩]
      cases hk : repl n.toNat ti5.zero with
      | nil => simp [repl] at hk; omega
      | cons y r =>
        have hl : (y :: r).length = n.toNat := by rw [← hk]; simp [repl]
        simp only [hl]
        have hk2 : y :: r = repl n.toNat [.d (.int .u8 0)] := hk.symm
        rw [hk2]
        exact if_pos hc
    simp only [e3, go_sem]
    have e4 : sliceA 1 (.rs m 0 1 0 n.toNat) none (some (.d (.int .i64 ((0 : Nat) : Int)))) none (H.set m (.mem 0 0 1 (repl n.toNat [.d (.int .u8 0)]))) = some (.rs m 0 1 0 0) := by
      simp [sliceA, set_self, bnd]
    simp only [e4, go_sem]
    refine ⟨_, le_refl', h _ _ (Own.rs (l := []) (le_set le_refl' hm) (by simp) set_self (by simp [avs]) (by simp) hm) (fun i hi => ?_) (fun h => by omega)⟩
    rw [set_ne]
    intro he
    subst he
    rw [hm] at hi
    cases hi
  · exact ⟨H, le_refl', h _ _ (Own.nil le_refl') (fun _ _ => rfl) (fun _ => rfl)⟩

/-- Lists of bytes, as a slice of slices. -/
def slls (xs : List (Bool × List UInt8)) : List (List Dat) := xs.map fun x => [.sl x.1 (bs x.2)]
theorem slls_get {xs : List (Bool × List UInt8)} {i : Nat} (h : i < xs.length) : (slls xs)[i]? = some [.sl xs[i].1 (bs xs[i].2)] := by simp [slls, h]
def cat (xs : List (Bool × List UInt8)) : List UInt8 := xs.flatMap (·.2)
theorem cat_take_succ {xs : List (Bool × List UInt8)} {i : Nat} (h : i < xs.length) : cat (xs.take (i + 1)) = cat (xs.take i) ++ xs[i].2 := by
  rw [cat, cat, List.take_add_one, List.getElem?_eq_getElem h, List.flatMap_append]
  simp
theorem cat_take_le {xs : List (Bool × List UInt8)} (i : Nat) : (cat (xs.take i)).length ≤ (cat xs).length := by
  have : cat xs = cat (xs.take i) ++ cat (xs.drop i) := by
    rw [cat, cat, cat, ← List.flatMap_append, List.take_append_drop]
  rw [this, List.length_append]
  omega
theorem concat_c {nl : Bool} {xs : List (Bool × List UInt8)} {H : AHeap} {K : AV → AHeap → Prop} (hn : xs.length < 2 ^ 40) (hc : (cat xs).length < 2 ^ 40) (h : K (.d (.sl (cat xs).isEmpty (bs (cat xs)))) H) :
    CallsA Try.prog 39 [.d (.sl nl (slls xs))] H K := by
  apply C39
  simp only [S39, go_sem]
  have hl : (slls xs).length = xs.length := by simp [slls]
  refine loop_ind (fun m vs H' => H' = H ∧ ∃ i : Nat, i ≤ xs.length ∧ m = xs.length - i ∧ vs = [.d (.sl nl (slls xs)), .d (.int .i64 (cat (xs.take i)).length), .junk, .d (.sl nl (slls xs)), .d (.int .i64 xs.length), .d (.int .i64 i), .junk, .junk, .junk])
    (n := xs.length) ⟨rfl, 0, by omega, by omega, by rw [hl]; rfl⟩ ?_
  rintro X m vs H' ⟨rfl, i, hi, rfl, rfl⟩ hX
  have hle := cat_take_le (xs := xs) i
  simp only [List.getD_cons_succ, List.getD_cons_zero, go_sem]
  split
  · rename_i hlt
    have hi' : i < xs.length := by omega
    have hle2 := cat_take_le (xs := xs) (i + 1)
    rw [cat_take_succ hi', List.length_append] at hle2
    simp only [sl_get (ti := ti103) (e := 22) (esz := 1) rfl (by omega : (0 : Int) ≤ i) (by simpa using slls_get hi') rfl, List.map_cons, List.map_nil, bs_length, go_sem]
    rw [wrap_i64 (by omega) (by omega), if_neg (by omega), wrap_i64 (by omega) (by omega)]
    refine hX (xs.length - (i + 1)) _ _ (by omega) ⟨rfl, i + 1, by omega, rfl, ?_⟩
    rw [cat_take_succ hi', List.length_append]
    simp
  · rename_i hlt
    have hi' : i = xs.length := by omega
    subst hi'
    rw [List.take_length]
    refine grow_c (by omega) (by omega) fun v H1 hv hk hv0 => ?_
    simp only [hl]
    refine loop_ind (fun m vs H2 => ∃ (i : Nat) (v : AV), i ≤ xs.length ∧ m = xs.length - i ∧ Own H' 1 H2 v (bs (cat (xs.take i))) ∧ (cat xs = [] → nilS v = true) ∧
        vs = [.d (.sl nl (slls xs)), .d (.int .i64 (cat xs).length), v, .d (.sl nl (slls xs)), .d (.int .i64 xs.length), .d (.int .i64 xs.length), .d (.sl nl (slls xs)), .d (.int .i64 xs.length), .d (.int .i64 i)])
      (n := xs.length) ⟨0, v, by omega, by omega, hv, fun he => by rw [hv0 (by rw [he]; rfl)]; rfl, rfl⟩ ?_
    rintro X2 m2 vs2 H2 ⟨i, v, hi, rfl, hv, hvn, rfl⟩ hX2
    simp only [List.getD_cons_succ, List.getD_cons_zero, go_sem]
    split
    · rename_i hlt
      have hi' : i < xs.length := by omega
      have hle2 := cat_take_le (xs := xs) (i + 1)
      rw [cat_take_succ hi', List.length_append] at hle2
      simp only [sl_get (ti := ti103) (e := 22) (esz := 1) rfl (by omega : (0 : Int) ≤ i) (by simpa using slls_get hi') rfl, List.map_cons, List.map_nil, optA_some, ldV, partV, List.drop_zero, List.take_succ_cons, List.take_zero, List.length_cons, List.length_nil, if_true, Bool.false_eq_true, if_false]
      refine hv.app (by rw [elemsA_sl]) (by decide) (by decide) bs_sz (by rw [bs_length, bs_length]; unfold mostBytes; omega) fun v' H3 hv' _ _ hvn' => ?_
      try simp only [go_sem]
      rw [wrap_i64 (by omega) (by omega)]
      refine hX2 (xs.length - (i + 1)) _ _ (by omega) ⟨i + 1, v', by omega, rfl, by rw [cat_take_succ hi', bs_append]; exact hv', fun he => ?_, by simp⟩
      rw [hvn', hvn he]
      rw [he] at hle2
      cases hx : xs[i].2 with
      | nil => rfl
      | cons b r => rw [hx] at hle2; simp at hle2
    · rename_i hlt
      have hi' : i = xs.length := by omega
      subst hi'
      rw [List.take_length] at hv
      refine hv.ret le_refl' ?_
      have : nilS v = (cat xs).isEmpty := by
        cases hcx : cat xs with
        | nil => rw [hvn hcx]; rfl
        | cons b r =>
          cases hn : nilS v with
          | false => rfl
          | true => have := hv.nilS hn; rw [hcx] at this; cases this
      rw [this]
      exact h

theorem bsl5_3 {x y z : Dat} : buildSlA ti5 3 (List.zip [0, 1, 2] [.d x, .d y, .d z]) = some [[.d x], [.d y], [.d z]] := rfl
theorem bsl22_3 {x y z : Dat} : buildSlA ti22 3 (List.zip [0, 1, 2] [.d x, .d y, .d z]) = some [[.d x], [.d y], [.d z]] := rfl
def Pk.Shorts (p : Pk) : Prop := p.Valid ∧ p.hops = 0 ∧ p.dn = 0 ∧ p.sn = 0 ∧ p.sum = false
instance (p : Pk) : Decidable p.Shorts := by unfold Pk.Shorts; exact inferInstance
def Pk.short (p : Pk) : List UInt8 := if p.Shorts then [b8 ((5 + p.data.length : Nat) / 256 : Int), b8 (5 + p.data.length : Nat), b8 p.ds, b8 p.ss, b8 p.ty] ++ p.data else []
def Pk.shortE (p : Pk) : Int := if p.Shorts then 0 else 2
theorem no_short {p : Pk} {H G : AHeap} {K : AV → AHeap → Prop} (h : p.short = [] → K (.tup [.d (.sl true (bs p.short)), .d (.int .i64 p.shortE)]) H) (hle : AHeap.le H G) (hn : ¬ p.Shorts) : finA (.tup [.d (.sl true []), .d (.int .i64 2)]) G K := by
  have := h (by unfold Pk.short; rw [if_neg hn])
  unfold Pk.short Pk.shortE at this
  rw [if_neg hn, if_neg hn] at this
  exact ⟨H, hle, this⟩
def Pk.Wide (p : Pk) : Prop := ∀ n ∈ [p.hops, p.dn, p.dd, p.sn, p.sd, p.ds, p.ss, p.ty], -9223372036854775808 ≤ n ∧ n ≤ 9223372036854775807
theorem pk_open {xs : List Dat} (h : DatOk Try.prog 9 36 xs) : ∃ p : Pk, argAV (aggT Try.prog 36) xs = p.av ∧ p.Wide ∧ p.data.length ≤ 2 ^ 47 ∧ (p.nl = true → p.data = []) := by
  rw [datOk_struct Try.underlying36] at h
  simp only [datFs_cons, datFs_nil] at h
  obtain ⟨x0, y0, rfl, h0, x1, y1, rfl, h1, x2, y2, rfl, h2, x3, y3, rfl, h3, x4, y4, rfl, h4, x5, y5, rfl, h5, x6, y6, rfl, h6, x7, y7, rfl, h7, rfl⟩ := h
  simp only [datOk_int Try.underlying3, datOk_struct Try.underlying28, datOk_slice Try.underlying22, datOk_bool Try.underlying4, datFs_cons, datFs_nil] at h0 h1 h2 h3 h4 h5 h6 h7
  obtain ⟨a0, rfl, w0⟩ := h0
  obtain ⟨_, _, rfl, ⟨a1, rfl, w1⟩, _, _, rfl, ⟨a2, rfl, w2⟩, rfl⟩ := h1
  obtain ⟨_, _, rfl, ⟨a3, rfl, w3⟩, _, _, rfl, ⟨a4, rfl, w4⟩, rfl⟩ := h2
  obtain ⟨a5, rfl, w5⟩ := h3
  obtain ⟨a6, rfl, w6⟩ := h4
  obtain ⟨a7, rfl, w7⟩ := h5
  obtain ⟨nl, l, rfl, hnl, hl, hlen⟩ := h6
  obtain ⟨b, rfl⟩ := h7
  obtain ⟨bl, rfl⟩ := DatOk_bytes Try.underlying5 hl
  refine ⟨⟨a0, a1, a2, a3, a4, a5, a6, a7, nl, bl, b⟩, ?_, ?_, ?_, fun h => ?_⟩
  · rw [show aggT Try.prog 36 = true by kernel_rfl]
    rfl
  · have := bounds_i64 w0; have := bounds_i64 w1; have := bounds_i64 w2; have := bounds_i64 w3; have := bounds_i64 w4; have := bounds_i64 w5; have := bounds_i64 w6; have := bounds_i64 w7
    intro n hn
    simp only [List.mem_cons, List.not_mem_nil, or_false] at hn
    omega
  · rw [show Try.prog.bytesOf 5 = 1 by kernel_rfl, bs_length] at hlen
    unfold reachBytes at hlen
    show bl.length ≤ _
    omega
  · have := hnl h
    cases bl with
    | nil => rfl
    | cons b r => cases this

theorem bs_get {l : List UInt8} {i : Nat} (h : i < l.length) : (bs l)[i]? = some [.int .u8 l[i].toNat] := by simp [bs, h]
theorem u8_ne {a b : UInt8} : ((a.toNat : Int) ≠ (b.toNat : Int)) ↔ a ≠ b := by
  constructor
  · intro h he; exact h (by rw [he])
  · intro h he; exact h (UInt8.toNat_inj.1 (by omega))
theorem take_eq_succ {a b : List UInt8} {i : Nat} (ha : i < a.length) (hb : i < b.length) (h : a.take i = b.take i) (he : a[i] = b[i]) : a.take (i + 1) = b.take (i + 1) := by
  rw [List.take_add_one, List.take_add_one, h, List.getElem?_eq_getElem ha, List.getElem?_eq_getElem hb, he]
theorem sameBytes_c {n1 n2 : Bool} {a b : List UInt8} {H : AHeap} {K : AV → AHeap → Prop} (hl : a.length < 2 ^ 62) (h : K (.d (.bool (decide (a = b)))) H) : CallsA Try.prog 43 [.d (.sl n1 (bs a)), .d (.sl n2 (bs b))] H K := by
  apply C43
  unfold S43
  simp only [bs_length, go_sem]
  split
  · rename_i hne
    exact ⟨H, le_refl', k_bool h (by symm; apply decide_eq_false; intro he; apply hne; rw [he])⟩
  · rename_i hlen
    have hlen : a.length = b.length := by omega
    refine loop_ind (fun m vs H' => H' = H ∧ ∃ i : Nat, i ≤ a.length ∧ m = a.length - i ∧ a.take i = b.take i ∧ vs = [.d (.sl n1 (bs a)), .d (.sl n2 (bs b)), .d (.int .i64 i)]) (n := a.length) ⟨rfl, 0, by omega, by omega, rfl, rfl⟩ ?_
    rintro X m vs H' ⟨rfl, i, hi, rfl, ht, rfl⟩ hX
    simp only [List.getD_cons_succ, List.getD_cons_zero, bs_length, go_sem]
    split
    · rename_i hlt
      have h1 : i < a.length := by omega
      have h2 : i < b.length := by omega
      simp only [sl_get (ti := ti22) (e := 5) (esz := 1) rfl (by omega : (0 : Int) ≤ i) (by simpa using bs_get h1) rfl, sl_get (ti := ti22) (e := 5) (esz := 1) rfl (by omega : (0 : Int) ≤ i) (by simpa using bs_get h2) rfl, u8_ne, go_sem]
      split
      · rename_i hne
        exact ⟨H', le_refl', k_bool h (by symm; apply decide_eq_false; intro he; apply hne; subst he; rfl)⟩
      · rename_i he
        rw [wrap_i64 (by omega) (by omega)]
        exact hX (a.length - (i + 1)) _ _ (by omega) ⟨rfl, i + 1, by omega, rfl, take_eq_succ h1 h2 ht (Classical.not_not.1 he), by simp⟩
    · rename_i hlt
      have hi' : i = a.length := by omega
      subst hi'
      rw [List.take_length, hlen, List.take_length] at ht
      exact ⟨H', le_refl', k_bool h (by simp [ht])⟩
theorem equal_c {n1 n2 : Bool} {a b : List UInt8} {H : AHeap} {K : AV → AHeap → Prop} (hl : a.length < 2 ^ 62) (h : K (.d (.bool (decide (a = b)))) H) : CallsA Try.prog 38 [.d (.sl n1 (bs a)), .d (.sl n2 (bs b))] H K := by
  apply C38
  unfold S38
  simp only [bs_length, go_sem]
  split
  · rename_i hne
    exact ⟨H, le_refl', k_bool h (by symm; apply decide_eq_false; intro he; apply hne; rw [he])⟩
  · rename_i hlen
    have hlen : a.length = b.length := by omega
    refine loop_ind (fun m vs H' => H' = H ∧ ∃ i : Nat, i ≤ a.length ∧ m = a.length - i ∧ a.take i = b.take i ∧ vs = [.d (.sl n1 (bs a)), .d (.sl n2 (bs b)), .d (.int .i64 a.length), .d (.int .i64 i)]) (n := a.length) ⟨rfl, 0, by omega, by omega, rfl, rfl⟩ ?_
    rintro X m vs H' ⟨rfl, i, hi, rfl, ht, rfl⟩ hX
    simp only [List.getD_cons_succ, List.getD_cons_zero, bs_length, go_sem]
    split
    · rename_i hlt
      have h1 : i < a.length := by omega
      have h2 : i < b.length := by omega
      simp only [sl_get (ti := ti22) (e := 5) (esz := 1) rfl (by omega : (0 : Int) ≤ i) (by simpa using bs_get h1) rfl, sl_get (ti := ti22) (e := 5) (esz := 1) rfl (by omega : (0 : Int) ≤ i) (by simpa using bs_get h2) rfl, u8_ne, go_sem]
      split
      · rename_i hne
        exact ⟨H', le_refl', k_bool h (by symm; apply decide_eq_false; intro he; apply hne; subst he; rfl)⟩
      · rename_i he
        rw [wrap_i64 (by omega) (by omega)]
        exact hX (a.length - (i + 1)) _ _ (by omega) ⟨rfl, i + 1, by omega, rfl, take_eq_succ h1 h2 ht (Classical.not_not.1 he), by simp⟩
    · rename_i hlt
      have hi' : i = a.length := by omega
      subst hi'
      rw [List.take_length, hlen, List.take_length] at ht
      exact ⟨H', le_refl', k_bool h (by simp [ht])⟩
theorem nilA_eql {nl nl2 : Bool} {l l2 : List (List Dat)} : nilA 0 .eql (.d (.sl nl l)) (.d (.sl true l2)) = some (.d (.bool nl)) := by cases nl <;> rfl
theorem bs0 {H : AHeap} {n : Nat} : bsA ti5 0 [] [] H n = some (.lit [], []) := rfl
theorem clone_c {nl : Bool} {a : List UInt8} {H : AHeap} {K : AV → AHeap → Prop} (hl : a.length < 2 ^ 40) (hnl : nl = true → a = []) (h : K (.d (.sl nl (bs a))) H) : CallsA Try.prog 36 [.d (.sl nl (bs a))] H K := by
  apply C36
  unfold S36
  simp only [nilA_eql (nl2 := true), go_sem]
  cases nl with
  | true =>
    rw [hnl rfl] at h
    simp only [go_sem]
    exact ⟨H, le_refl', h⟩
  | false =>
    simp only [go_sem]
    intro n hn
    simp only [bs0, go_sem]
    refine (Own.lit (sz := 1) (l := []) le_refl' (by simp)).app (ys := bs a) rfl (by decide) (by decide) bs_sz (by rw [bs_length]; simp [mostBytes]; omega) fun v' H3 hv' _ _ hnl' => ?_
    refine hv'.ret le_refl' ?_
    rw [hnl']
    exact h
def sumStep (s : Int) (c : UInt8) : Int := ((s + c.toNat) % 65536) * 2 % 65536 + ((s + c.toNat) % 65536) / 32768
def sums (l : List UInt8) : Int := l.foldl sumStep 0
def osum (l : List UInt8) : Int := if sums l = 0 then 65535 else sums l
theorem sumStep_bd {s : Int} {c : UInt8} : 0 ≤ sumStep s c ∧ sumStep s c < 65536 := by unfold sumStep; omega
theorem sums_take {l : List UInt8} {i : Nat} (h : i < l.length) : sums (l.take (i + 1)) = sumStep (sums (l.take i)) l[i] := by
  unfold sums
  rw [List.take_add_one, List.getElem?_eq_getElem h, List.foldl_append]
  rfl
theorem sums_bd' : ∀ (l : List UInt8) (s : Int), 0 ≤ s ∧ s < 65536 → 0 ≤ l.foldl sumStep s ∧ l.foldl sumStep s < 65536
  | [], s, h => h
  | c :: l, s, h => sums_bd' l _ sumStep_bd
theorem sums_bd (l : List UInt8) : 0 ≤ sums l ∧ sums l < 65536 := sums_bd' l 0 (by omega)
theorem osum_bd (l : List UInt8) : 1 ≤ osum l ∧ osum l ≤ 65535 := by
  have := sums_bd l
  unfold osum
  split <;> omega
theorem wrap_u16 {n : Int} (h1 : 0 ≤ n) (h2 : n < 65536) : IntKind.u16.wrap n = n := by
  simp [IntKind.wrap, IntKind.signed, IntKind.bits]
  omega
theorem wrap_u16' (n : Int) : IntKind.u16.wrap n = n % 65536 := by simp [IntKind.wrap, IntKind.signed, IntKind.bits]
theorem or16 {a b : Int} (ha : 0 ≤ a) (ha2 : a < 32768) (hb : 0 ≤ b) (hb2 : b < 2) : IntKind.u16.wrap (BitVec.ofInt 16 (a * 2) ||| BitVec.ofInt 16 b).toNat = a * 2 + b := by
  obtain ⟨x, rfl⟩ := Int.eq_ofNat_of_zero_le ha
  obtain ⟨y, rfl⟩ := Int.eq_ofNat_of_zero_le hb
  have e1 : (BitVec.ofInt 16 ((x : Int) * 2)).toNat = x * 2 := by
    rw [BitVec.toNat_ofInt]; simp; omega
  have e2 : (BitVec.ofInt 16 (y : Int)).toNat = y := by
    rw [BitVec.toNat_ofInt]; simp; omega
  rw [BitVec.toNat_or, e1, e2]
  have e3 : x * 2 ||| y = x * 2 + y := by
    have := Nat.shiftLeft_add_eq_or_of_lt (b := y) (i := 1) (by omega) x
    rw [Nat.shiftLeft_eq, Nat.pow_one] at this
    omega
  rw [e3, wrap_u16 (by omega) (by omega)]
  omega
theorem sum_c {nl : Bool} {a : List UInt8} {H : AHeap} {K : AV → AHeap → Prop} (hl : a.length < 2 ^ 62) (h : K (.d (.int .i64 (osum a))) H) : CallsA Try.prog 41 [.d (.sl nl (bs a))] H K := by
  apply C41
  unfold S41
  simp only [bs_length, go_sem]
  refine loop_ind (fun m vs H' => H' = H ∧ ∃ i : Nat, i ≤ a.length ∧ m = a.length - i ∧ vs = [.d (.int .u16 (sums (a.take i))), .d (.sl nl (bs a)), .d (.int .i64 a.length), .d (.int .i64 i)]) (n := a.length) ⟨rfl, 0, by omega, by omega, rfl⟩ ?_
  rintro X m vs H' ⟨rfl, i, hi, rfl, rfl⟩ hX
  have hb := sums_bd (a.take i)
  simp only [List.getD_cons_succ, List.getD_cons_zero, bs_length, go_sem]
  split
  · rename_i hlt
    have h1 : i < a.length := by omega
    have hc := a[i].toNat_lt
    simp only [sl_get (ti := ti22) (e := 5) (esz := 1) rfl (by omega : (0 : Int) ≤ i) (by simpa using bs_get h1) rfl, intA_shl (b := 1) (by decide), intA_shr (b := 15) (by decide), intA_or, go_sem]
    rw [wrap_u16 (n := (a[i].toNat : Int)) (by omega) (by omega), wrap_u16' (sums (a.take i) + a[i].toNat)]
    rw [show (2 : Int) ^ min (1 : Int).toNat 16 = 2 from rfl, show (2 : Int) ^ min (15 : Int).toNat 16 = 32768 from rfl, Int.fdiv_eq_ediv_of_nonneg _ (by decide)]
    rw [wrap_u16' ((sums (a.take i) + a[i].toNat) % 65536 * 2), show (sums (a.take i) + (a[i].toNat : Int)) % 65536 * 2 % 65536 = ((sums (a.take i) + (a[i].toNat : Int)) % 32768) * 2 by omega]
    erw [or16 (by omega) (by omega) (by omega) (by omega)]
    rw [wrap_i64 (by omega) (by omega)]
    refine hX (a.length - (i + 1)) _ _ (by omega) ⟨rfl, i + 1, by omega, rfl, ?_⟩
    rw [sums_take h1, show sumStep (sums (a.take i)) a[i] = (sums (a.take i) + a[i].toNat) % 32768 * 2 + (sums (a.take i) + a[i].toNat) % 65536 / 32768 by unfold sumStep; omega]
    simp
  · rename_i hlt
    have hi' : i = a.length := by omega
    subst hi'
    rw [List.take_length]
    rw [List.take_length] at hb
    unfold osum at h
    split
    · rename_i h0
      rw [if_pos h0] at h
      exact ⟨H', le_refl', h⟩
    · rename_i h0
      rw [if_neg h0] at h
      rw [wrap_i64 (by omega) (by omega)]
      exact ⟨H', le_refl', h⟩


theorem addr_eq {a b c d : Int} : aggA Try.prog .eql 28 (.agg [.d (.int .i64 a), .d (.int .i64 b)]) (.agg [.d (.int .i64 c), .d (.int .i64 d)]) = some (.d (.bool (a == c && (b == d && true)))) := by kernel_rfl
def Pk.Same (p q : Pk) : Prop := (p.hops = q.hops ∧ (p.dn = q.dn ∧ p.dd = q.dd) ∧ (p.sn = q.sn ∧ p.sd = q.sd) ∧ p.ds = q.ds ∧ p.ss = q.ss ∧ p.ty = q.ty) ∧ p.sum = q.sum ∧ p.data = q.data
instance (p q : Pk) : Decidable (p.Same q) := by unfold Pk.Same; exact inferInstance
theorem same_c {p q : Pk} {H : AHeap} {K : AV → AHeap → Prop} (hl : p.data.length < 2 ^ 62) (h : K (.d (.bool (decide (p.Same q)))) H) : CallsA Try.prog 18 [p.av, q.av] H K := by
  apply C18
  unfold S18
  refine box_open rfl fun k1 G1 hG1 hle1 hk1 => ?_
  refine box_open rfl fun k2 G2 hG2 hle2 hk2 => ?_
  have hG1' := hle2 _ _ hG1
  have hle := le_trans' hle1 hle2
  simp only [Pk.av, AV.cells] at hG1' hG2
  simp only [getM_of hG1', getM_of hG2, ti36_f0, ti36_f1, ti36_f2, ti36_f3, ti36_f4, ti36_f5, ti36_f6, ti36_f7, ti28_f0, ti28_f1, go_sem]
  refine equal_c hl ?_
  simp only [getM_of hG1', getM_of hG2, addr_eq, Bool.and_true, Bool.and_eq_true, beq_iff_eq, ti36_f0, ti36_f1, ti36_f2, ti36_f3, ti36_f4, ti36_f5, ti36_f6, ti36_f7, ti28_f0, ti28_f1, go_sem]
  have fin : ∀ b : Bool, (b = true ↔ p.Same q) → finA (.d (.bool b)) G2 K := fun b hb => ⟨H, hle, k_bool h (by rw [Bool.eq_iff_iff]; simpa using hb)⟩
  repeat' first
    | (refine fin _ ?_; unfold Pk.Same; simp_all; done)
    | split
theorem rsame_c {p q : Pk} {H : AHeap} {K : AV → AHeap → Prop} (hl : p.data.length < 2 ^ 62) (h : K (.d (.bool (decide (p.Same q)))) H) : CallsA Try.prog 21 [p.av, q.av] H K := by
  apply C21
  unfold S21
  refine box_open rfl fun k1 G1 hG1 hle1 hk1 => ?_
  refine box_open rfl fun k2 G2 hG2 hle2 hk2 => ?_
  have hG1' := hle2 _ _ hG1
  have hle := le_trans' hle1 hle2
  simp only [Pk.av, AV.cells] at hG1' hG2
  have fin : ∀ b : Bool, (b = true ↔ p.Same q) → finA (.d (.bool b)) G2 K := fun b hb => ⟨H, hle, k_bool h (by rw [Bool.eq_iff_iff]; simpa using hb)⟩
  simp only [getM_of hG1', getM_of hG2, addr_eq, Bool.and_true, Bool.and_eq_true, beq_iff_eq, ti36_f0, ti36_f1, ti36_f2, ti36_f3, ti36_f4, ti36_f5, ti36_f6, ti36_f7, ti28_f0, ti28_f1, go_sem]
  repeat' first
    | (refine fin _ ?_; unfold Pk.Same; simp_all; done)
    | (refine sameBytes_c hl ?_; simp only [go_sem])
    | split
def Pk.zero : Pk := ⟨0, 0, 0, 0, 0, 0, 0, 0, true, [], false⟩
def Pk.hop (p : Pk) : Pk := if p.Valid then (if p.hops = 15 then .zero else { p with hops := p.hops + 1 }) else .zero
def Pk.hopE (p : Pk) : Int := if p.Valid then (if p.hops = 15 then 3 else 0) else 2
def Pk.wnl (p : Pk) (nl : Bool) : Pk := { p with nl := nl }

def Pk.back0 (p : Pk) (nl : Bool) (data : List UInt8) : Pk := ⟨0, p.sn, p.sd, p.dn, p.dd, p.ss, p.ds, p.ty, nl, data, p.sum⟩
def Pk.Backs (p : Pk) (data : List UInt8) : Prop := p.Valid ∧ (p.back0 true data).Valid
instance (p : Pk) (data : List UInt8) : Decidable (p.Backs data) := by unfold Pk.Backs; exact inferInstance
def Pk.back (p : Pk) (data : List UInt8) : Pk := if p.Backs data then p.back0 true data else .zero
def Pk.backE (p : Pk) (data : List UInt8) : Int := if p.Backs data then 0 else 2
theorem back_c {p : Pk} {nl : Bool} {data : List UInt8} (hl : data.length < 2 ^ 40) (hnl : nl = true → data = []) {H : AHeap} {K : AV → AHeap → Prop} (h : ∀ n2, (n2 = true → (p.back data).data = []) → K (.tup [((p.back data).wnl n2).av, .d (.int .i64 (p.backE data))]) H) : CallsA Try.prog 37 [p.av, .d (.sl nl (bs data))] H K := by
  apply C37
  unfold S37
  refine box_open rfl fun k1 G1 hG1 hle1 hk1 => ?_
  refine alloc_open fun k2 G2 hG2 hle2 hk2 => ?_
  have hG1' := hle2 _ _ hG1
  have hle := le_trans' hle1 hle2
  have hHk2 := le_none hle1 hk2
  have hne : k1 ≠ k2 := le_ne hG1 hk2
  simp only [Pk.av, AV.cells] at hG1'
  simp only [getM_of hG1', ti36_f0, ti36_f1, ti36_f2, ti36_f3, ti36_f4, ti36_f5, ti36_f6, ti36_f7, ti28_f0, ti28_f1, go_sem]
  refine ⟨_, clone_c hl hnl ⟨rfl, le_refl'⟩, ?_⟩
  simp only [getM_of hG1', bd36, cell3, cell4, cell28, cell22, stoA_agg, stoA_get, stoM, setCells, and_self, true_and, Nat.le_refl, Nat.reduceLeDiff, List.cons_append, List.set_cons_zero, List.getElem?_cons_zero, bdA, fillA, setCells, List.zip_cons_cons, List.zip_nil_right, List.zip_nil_left, Option.map_some, and_self, Nat.le_refl, Nat.reduceLeDiff, List.cons_append, ti36_f0, ti36_f1, ti36_f2, ti36_f3, ti36_f4, ti36_f5, ti36_f6, ti36_f7, ti28_f0, ti28_f1, go_sem]
  refine alloc_open fun k3 G3 hG3 hle3 hk3 => ?_
  have h31 := hle3 _ _ hG1'
  have h32 := hle3 _ _ hG2
  have hne13 : k1 ≠ k3 := le_ne hG1' hk3
  have hne23 : k2 ≠ k3 := le_ne hG2 hk3
  have hHk3 := le_none hle hk3
  have hleH := le_trans' hle hle3
  simp only [getM_of hG3, getM_of h31, hne13, bd36, cell3, cell4, cell28, cell22, stoA_agg, stoA_get, stoM, setCells, and_self, true_and, Nat.le_refl, Nat.reduceLeDiff, List.cons_append, List.set_cons_zero, List.getElem?_cons_zero, bdA, fillA, setCells, List.zip_cons_cons, List.zip_nil_right, List.zip_nil_left, Option.map_some, and_self, Nat.le_refl, Nat.reduceLeDiff, List.cons_append, ti36_f0, ti36_f1, ti36_f2, ti36_f3, ti36_f4, ti36_f5, ti36_f6, ti36_f7, ti28_f0, ti28_f1, go_sem]
  refine valid_c (p := p) ?_
  simp only [go_sem]
  unfold Pk.back Pk.backE at h
  split
  · rename_i hv
    have hb : ¬ p.Backs data := fun hb => hv hb.1
    rw [if_neg hb, if_neg hb] at h
    simp only [getM_of h32, hne23, bd36, cell3, cell4, cell28, cell22, stoA_agg, stoA_get, stoM, setCells, and_self, true_and, Nat.le_refl, Nat.reduceLeDiff, List.cons_append, List.set_cons_zero, List.getElem?_cons_zero, bdA, fillA, setCells, List.zip_cons_cons, List.zip_nil_right, List.zip_nil_left, Option.map_some, and_self, Nat.le_refl, Nat.reduceLeDiff, List.cons_append, ti36_f0, ti36_f1, ti36_f2, ti36_f3, ti36_f4, ti36_f5, ti36_f6, ti36_f7, ti28_f0, ti28_f1, go_sem]
    exact ⟨H, set_le (set_le hleH hHk3) hHk2, h true fun _ => rfl⟩
  · rename_i hv
    have hv := Classical.not_not.1 hv
    try simp only [go_sem]
    refine valid_c (p := p.back0 nl data) ?_
    simp only [go_sem]
    split
    · rename_i hv2
      have hb : ¬ p.Backs data := fun hb => hv2 hb.2
      rw [if_neg hb, if_neg hb] at h
      simp only [getM_of h32, hne23, bd36, cell3, cell4, cell28, cell22, stoA_agg, stoA_get, stoM, setCells, and_self, true_and, Nat.le_refl, Nat.reduceLeDiff, List.cons_append, List.set_cons_zero, List.getElem?_cons_zero, bdA, fillA, setCells, List.zip_cons_cons, List.zip_nil_right, List.zip_nil_left, Option.map_some, and_self, Nat.le_refl, Nat.reduceLeDiff, List.cons_append, ti36_f0, ti36_f1, ti36_f2, ti36_f3, ti36_f4, ti36_f5, ti36_f6, ti36_f7, ti28_f0, ti28_f1, go_sem]
      exact ⟨H, set_le (set_le hleH hHk3) hHk2, h true fun _ => rfl⟩
    · rename_i hv2
      have hv2 := Classical.not_not.1 hv2
      have hb : p.Backs data := ⟨hv, hv2⟩
      rw [if_pos hb, if_pos hb] at h
      simp only [getM_of h32, hne23, stoA_agg, stoA_get, stoM, setCells, and_self, true_and, Nat.le_refl, Nat.reduceLeDiff, List.cons_append, List.set_cons_zero, List.getElem?_cons_zero, ti36_f0, ti36_f1, ti36_f2, ti36_f3, ti36_f4, ti36_f5, ti36_f6, ti36_f7, ti28_f0, ti28_f1, go_sem]
      exact ⟨H, set_le (set_le hleH hHk3) hHk2, h nl hnl⟩
theorem rback_c {p : Pk} {nl : Bool} {data : List UInt8} (hl : data.length < 2 ^ 40) {H : AHeap} {K : AV → AHeap → Prop} (h : ∀ nl, K (.tup [((p.back data).wnl nl).av, .d (.int .i64 (p.backE data))]) H) : CallsA Try.prog 67 [p.av, .d (.sl nl (bs data))] H K := by
  apply C67
  unfold S67
  refine box_open rfl fun k1 G1 hG1 hle1 hk1 => ?_
  refine alloc_open fun k2 G2 hG2 hle2 hk2 => ?_
  have hG1' := hle2 _ _ hG1
  have hle := le_trans' hle1 hle2
  have hHk2 := le_none hle1 hk2
  have hne : k1 ≠ k2 := le_ne hG1 hk2
  simp only [Pk.av, AV.cells] at hG1'
  simp only [getM_of hG1', ti36_f0, ti36_f1, ti36_f2, ti36_f3, ti36_f4, ti36_f5, ti36_f6, ti36_f7, ti28_f0, ti28_f1, go_sem]
  intro n hn
  simp only [bs0, stoA_agg, stoA_get, stoM, setCells, and_self, true_and, Nat.le_refl, Nat.reduceLeDiff, List.cons_append, List.set_cons_zero, List.getElem?_cons_zero, ti36_f0, ti36_f1, ti36_f2, ti36_f3, ti36_f4, ti36_f5, ti36_f6, ti36_f7, ti28_f0, ti28_f1, go_sem]
  refine (Own.lit (sz := 1) (l := []) le_refl' (by simp)).app (ys := bs data) rfl (by decide) (by decide) bs_sz (by rw [bs_length]; simp [mostBytes]; omega) fun v H3 hv3 _ _ hnl3 => ?_
  have hag : aggL v = [] := by
    rcases hv3.2.2 with ⟨rfl, _⟩ | rfl | ⟨i, ver, L, rfl, _⟩ <;> rfl
  obtain ⟨us, e1, e2, hle', _⟩ := hv3.frz
  simp only [hag, e1, e2, bd36, cell3, cell4, cell28, cell22, stoA_agg, stoA_get, stoM, setCells, and_self, true_and, Nat.le_refl, Nat.reduceLeDiff, List.cons_append, List.set_cons_zero, List.getElem?_cons_zero, bdA, fillA, setCells, List.zip_cons_cons, List.zip_nil_right, List.zip_nil_left, Option.map_some, and_self, Nat.le_refl, Nat.reduceLeDiff, List.cons_append, ti36_f0, ti36_f1, ti36_f2, ti36_f3, ti36_f4, ti36_f5, ti36_f6, ti36_f7, ti28_f0, ti28_f1, go_sem]
  have hleB := le_trans' hle hle'
  have hU1 := hle' _ _ hG1'
  have hU2 := hle' _ _ hG2
  generalize hU : H3.sets us = U at *
  refine alloc_open fun k3 G3 hG3 hle3 hk3 => ?_
  have h31 := hle3 _ _ hU1
  have h32 := hle3 _ _ hU2
  have hne13 : k1 ≠ k3 := le_ne hU1 hk3
  have hne23 : k2 ≠ k3 := le_ne hU2 hk3
  have hHk3 := le_none hleB hk3
  have hleH := le_trans' hleB hle3
  simp only [getM_of hG3, getM_of h31, hne13, bd36, cell3, cell4, cell28, cell22, stoA_agg, stoA_get, stoM, setCells, and_self, true_and, Nat.le_refl, Nat.reduceLeDiff, List.cons_append, List.set_cons_zero, List.getElem?_cons_zero, bdA, fillA, setCells, List.zip_cons_cons, List.zip_nil_right, List.zip_nil_left, Option.map_some, and_self, Nat.le_refl, Nat.reduceLeDiff, List.cons_append, ti36_f0, ti36_f1, ti36_f2, ti36_f3, ti36_f4, ti36_f5, ti36_f6, ti36_f7, ti28_f0, ti28_f1, go_sem]
  refine rvalid_c (p := p) ?_
  simp only [go_sem]
  unfold Pk.back Pk.backE at h
  split
  · rename_i hv
    have hb : ¬ p.Backs data := fun hb => hv hb.1
    rw [if_neg hb, if_neg hb] at h
    simp only [getM_of h32, hne23, bd36, cell3, cell4, cell28, cell22, stoA_agg, stoA_get, stoM, setCells, and_self, true_and, Nat.le_refl, Nat.reduceLeDiff, List.cons_append, List.set_cons_zero, List.getElem?_cons_zero, bdA, fillA, setCells, List.zip_cons_cons, List.zip_nil_right, List.zip_nil_left, Option.map_some, and_self, Nat.le_refl, Nat.reduceLeDiff, List.cons_append, ti36_f0, ti36_f1, ti36_f2, ti36_f3, ti36_f4, ti36_f5, ti36_f6, ti36_f7, ti28_f0, ti28_f1, go_sem]
    exact ⟨H, set_le (set_le hleH hHk3) hHk2, h true⟩
  · rename_i hv
    have hv := Classical.not_not.1 hv
    try simp only [go_sem]
    refine rvalid_c (p := p.back0 (nilS v) data) ?_
    simp only [go_sem]
    split
    · rename_i hv2
      have hb : ¬ p.Backs data := fun hb => hv2 hb.2
      rw [if_neg hb, if_neg hb] at h
      simp only [getM_of h32, hne23, bd36, cell3, cell4, cell28, cell22, stoA_agg, stoA_get, stoM, setCells, and_self, true_and, Nat.le_refl, Nat.reduceLeDiff, List.cons_append, List.set_cons_zero, List.getElem?_cons_zero, bdA, fillA, setCells, List.zip_cons_cons, List.zip_nil_right, List.zip_nil_left, Option.map_some, and_self, Nat.le_refl, Nat.reduceLeDiff, List.cons_append, ti36_f0, ti36_f1, ti36_f2, ti36_f3, ti36_f4, ti36_f5, ti36_f6, ti36_f7, ti28_f0, ti28_f1, go_sem]
      exact ⟨H, set_le (set_le hleH hHk3) hHk2, h true⟩
    · rename_i hv2
      have hv2 := Classical.not_not.1 hv2
      have hb : p.Backs data := ⟨hv, hv2⟩
      rw [if_pos hb, if_pos hb] at h
      simp only [getM_of h32, hne23, stoA_agg, stoA_get, stoM, setCells, and_self, true_and, Nat.le_refl, Nat.reduceLeDiff, List.cons_append, List.set_cons_zero, List.getElem?_cons_zero, ti36_f0, ti36_f1, ti36_f2, ti36_f3, ti36_f4, ti36_f5, ti36_f6, ti36_f7, ti28_f0, ti28_f1, go_sem]
      exact ⟨H, set_le (set_le hleH hHk3) hHk2, h (nilS v)⟩
theorem same_wnl {p : Pk} {n1 n2 : Bool} : (p.wnl n1).Same (p.wnl n2) := ⟨⟨rfl, ⟨rfl, rfl⟩, ⟨rfl, rfl⟩, rfl, rfl, rfl⟩, rfl, rfl⟩

def Pk.tail (p : Pk) : List UInt8 := [b8 (p.dn / 256), b8 p.dn, b8 (p.sn / 256), b8 p.sn, b8 p.dd, b8 p.sd, b8 p.ds, b8 p.ss, b8 p.ty] ++ p.data
def Pk.tsum (p : Pk) : Int := if p.sum then osum p.tail else 0
def Pk.head (p : Pk) : Int := p.hops * 1024 + (p.tail.length + 4 : Nat)
def Pk.long (p : Pk) : List UInt8 := if p.Valid then [b8 (p.head / 256), b8 p.head, b8 (p.tsum / 256), b8 p.tsum] ++ p.tail else []
def Pk.longE (p : Pk) : Int := if p.Valid then 0 else 2
theorem bsl5_5 {a b c d e : Dat} : buildSlA ti5 5 (List.zip [0, 1, 2, 3, 4] [.d a, .d b, .d c, .d d, .d e]) = some [[.d a], [.d b], [.d c], [.d d], [.d e]] := rfl
theorem bsl22_4 {a b c d : Dat} : buildSlA ti22 4 (List.zip [0, 1, 2, 3] [.d a, .d b, .d c, .d d]) = some [[.d a], [.d b], [.d c], [.d d]] := rfl
theorem tail_len {p : Pk} : p.tail.length = 9 + p.data.length := by simp [Pk.tail]; omega
theorem tsum_bd {p : Pk} : 0 ≤ p.tsum ∧ p.tsum ≤ 65535 := by
  unfold Pk.tsum
  split
  · have := osum_bd p.tail; omega
  · omega
theorem long_c {p : Pk} {H : AHeap} {K : AV → AHeap → Prop} (h : ∀ nl, (nl = true → p.long = []) → K (.tup [.d (.sl nl (bs p.long)), .d (.int .i64 p.longE)]) H) : CallsA Try.prog 19 [p.av] H K := by
  apply C19
  unfold S19
  refine box_open rfl fun k G hG hle hk => ?_
  simp only [Pk.av, AV.cells] at hG
  simp only [getM_of hG, ti36_f0, ti36_f1, ti36_f2, ti36_f3, ti36_f4, ti36_f5, ti36_f6, ti36_f7, ti28_f0, ti28_f1, go_sem]
  refine valid_c (p := p) ?_
  simp only [go_sem]
  unfold Pk.long Pk.longE at h
  split
  · rename_i hv
    rw [if_neg hv, if_neg hv] at h
    exact ⟨H, hle, h true fun _ => rfl⟩
  · rename_i hv
    have hv := Classical.not_not.1 hv
    rw [if_pos hv, if_pos hv] at h
    unfold Pk.Valid at hv
    simp only [getM_of hG, ti36_f0, ti36_f1, ti36_f2, ti36_f3, ti36_f4, ti36_f5, ti36_f6, ti36_f7, ti28_f0, ti28_f1, go_sem]
    refine ⟨_, two_c ⟨rfl, le_refl'⟩, ?_⟩
    refine ⟨_, two_c ⟨rfl, le_refl'⟩, ?_⟩
    simp only [go_sem]
    intro n hn
    simp only [getM_of hG, bsA, bsl5_5, toDatss, toDats, AV.toDat, ti36_f0, ti36_f1, ti36_f2, ti36_f3, ti36_f4, ti36_f5, ti36_f6, ti36_f7, ti28_f0, ti28_f1, go_sem]
    intro n2 hn2
    simp only [getM_of hG, bsA, bsl22_4, toDatss, toDats, AV.toDat, ti36_f0, ti36_f1, ti36_f2, ti36_f3, ti36_f4, ti36_f5, ti36_f6, ti36_f7, ti28_f0, ti28_f1, go_sem]
    have hx : [[Dat.sl false (bs [b8 (p.dn / 256), b8 p.dn])], [Dat.sl false (bs [b8 (p.sn / 256), b8 p.sn])], [Dat.sl false [[Dat.int IntKind.u8 (IntKind.u8.wrap p.dd)], [Dat.int IntKind.u8 (IntKind.u8.wrap p.sd)], [Dat.int IntKind.u8 (IntKind.u8.wrap p.ds)], [Dat.int IntKind.u8 (IntKind.u8.wrap p.ss)], [Dat.int IntKind.u8 (IntKind.u8.wrap p.ty)]]], [Dat.sl p.nl (bs p.data)]] =
        slls [(false, [b8 (p.dn / 256), b8 p.dn]), (false, [b8 (p.sn / 256), b8 p.sn]), (false, [b8 p.dd, b8 p.sd, b8 p.ds, b8 p.ss, b8 p.ty]), (p.nl, p.data)] := by
      simp [slls, bs, wrap_u8]
    rw [hx]
    refine ⟨_, concat_c (by simp) (by simp [cat]; omega) ⟨rfl, le_refl'⟩, ?_⟩
    have hc : cat [(false, [b8 (p.dn / 256), b8 p.dn]), (false, [b8 (p.sn / 256), b8 p.sn]), (false, [b8 p.dd, b8 p.sd, b8 p.ds, b8 p.ss, b8 p.ty]), (p.nl, p.data)] = p.tail := by simp [cat, Pk.tail]
    rw [hc]
    have he : p.tail.isEmpty = false := by simp [Pk.tail]
    rw [he]
    have hl := tail_len (p := p)
    have ht := tsum_bd (p := p)
    have hhead : IntKind.i64.wrap (IntKind.i64.wrap (IntKind.i64.wrap (p.hops * 2 ^ min (10 : Int).toNat 64) + 4) + p.tail.length) = p.head := by
      rw [show (2 : Int) ^ min (10 : Int).toNat 64 = 1024 from rfl]
      rw [wrap_i64 (n := p.hops * 1024) (by omega) (by omega), wrap_i64 (n := p.hops * 1024 + 4) (by omega) (by omega), wrap_i64 (by omega) (by omega)]
      unfold Pk.head
      omega
    have fin : ∀ G', AHeap.le H G' → ∀ s : Int, s = p.tsum → newK G' (fun n72 => bsA ti22 3 [0, 1, 2] [.d (.sl false (bs [b8 (p.head / 256), b8 p.head])), .d (.sl false (bs [b8 (s / 256), b8 s])), .d (.sl false (bs p.tail))] G' n72) (fun v70 H71 => frzLK [v70] H71 fun l75 H76 => CallsA Try.prog 39 l75 H76 fun v73 H74 => retF [v73, .d (.int .i64 0)] H74 K) := by
      intro G' hG' s hs n hn
      subst hs
      have hx : [[Dat.sl false (bs [b8 (p.head / 256), b8 p.head])], [Dat.sl false (bs [b8 (p.tsum / 256), b8 p.tsum])], [Dat.sl false (bs p.tail)]] = slls [(false, [b8 (p.head / 256), b8 p.head]), (false, [b8 (p.tsum / 256), b8 p.tsum]), (false, p.tail)] := rfl
      simp only [bsA, bsl22_3, toDatss, toDats, AV.toDat, hx, go_sem]
      refine concat_c (by simp) (by simp [cat]; omega) ?_
      simp only [go_sem]
      refine ⟨H, hG', ?_⟩
      have := h false (by simp)
      simpa [cat] using this
    simp only [getM_of hG, bs_length, intA_shl (b := 10) (by decide), hhead, ti36_f0, ti36_f1, ti36_f2, ti36_f3, ti36_f4, ti36_f5, ti36_f6, ti36_f7, ti28_f0, ti28_f1, go_sem]
    split
    · rename_i hs
      refine sum_c (by omega) ?_
      simp only [getM_of hG, bs_length, intA_shl (b := 10) (by decide), hhead, ti36_f0, ti36_f1, ti36_f2, ti36_f3, ti36_f4, ti36_f5, ti36_f6, ti36_f7, ti28_f0, ti28_f1, go_sem]
      refine two_c ?_
      simp only [go_sem]
      refine two_c ?_
      exact fin G hle _ (by unfold Pk.tsum; rw [if_pos hs])
    · rename_i hs
      refine two_c ?_
      simp only [go_sem]
      refine two_c ?_
      exact fin G hle _ (by unfold Pk.tsum; rw [if_neg hs])

def bt (b : List UInt8) (i : Int) : Int := ((b.getD i.toNat 0).toNat : Int)
theorem bt_bd {b : List UInt8} {i : Int} : 0 ≤ bt b i ∧ bt b i ≤ 255 := by
  unfold bt
  have := (b.getD i.toNat 0).toNat_lt
  omega
def num (b : List UInt8) (i : Int) : Int := 256 * bt b i + bt b (i + 1)
theorem num_bd {b : List UInt8} {i : Int} : 0 ≤ num b i ∧ num b i ≤ 65535 := by
  unfold num
  have := bt_bd (b := b) (i := i)
  have := bt_bd (b := b) (i := i + 1)
  omega
theorem sl_at {nl : Bool} {b : List UInt8} {i : Int} (h0 : 0 ≤ i) (h : i < b.length) : indexAddrA ti22 1 (.d (.sl nl (bs b))) (.d (.int .i64 i)) = some (.vptr [.int .u8 (bt b i)] 0) := by
  have hi : i.toNat < b.length := by omega
  refine sl_get (e := 5) rfl h0 ?_ rfl
  rw [bs_get hi]
  unfold bt
  rw [List.getD_eq_getElem?_getD, List.getElem?_eq_getElem hi]
  rfl
theorem slice_lo {nl : Bool} {b : List UInt8} {k : Int} {H : AHeap} (h0 : 0 ≤ k) (h : k ≤ b.length) : sliceA 1 (.d (.sl nl (bs b))) (some (.d (.int .i64 k))) none none H = some (.d (.sl nl (bs (b.drop k.toNat)))) := by
  have hh : headLen 1 (bs b) = true := by cases b <;> rfl
  simp only [sliceA, bnd, h0, if_true, bs_length, hh, or_true, and_true, Nat.le_refl]
  rw [if_pos (by omega)]
  have : (List.drop k.toNat (bs b)).take (b.length - k.toNat) = bs (b.drop k.toNat) := by
    rw [List.take_of_length_le (by rw [List.length_drop, bs_length]; exact Nat.le_refl _)]
    simp [bs, List.map_drop]
  rw [this]
theorem or64 {a b : Int} (ha : 0 ≤ a) (ha2 : a < 256) (hb : 0 ≤ b) (hb2 : b < 256) : IntKind.i64.wrap (BitVec.ofInt 64 (a * 256) ||| BitVec.ofInt 64 b).toNat = 256 * a + b := by
  obtain ⟨x, rfl⟩ := Int.eq_ofNat_of_zero_le ha
  obtain ⟨y, rfl⟩ := Int.eq_ofNat_of_zero_le hb
  have e1 : (BitVec.ofInt 64 ((x : Int) * 256)).toNat = x * 256 := by
    rw [BitVec.toNat_ofInt]; simp; omega
  have e2 : (BitVec.ofInt 64 (y : Int)).toNat = y := by
    rw [BitVec.toNat_ofInt]; simp; omega
  rw [BitVec.toNat_or, e1, e2]
  have e3 : x * 256 ||| y = x * 256 + y := by
    have := Nat.shiftLeft_add_eq_or_of_lt (b := y) (i := 8) (by omega) x
    rw [Nat.shiftLeft_eq] at this
    simpa using this.symm
  rw [e3, wrap_i64 (by omega) (by omega)]
  omega
theorem shl8 {a : Int} : IntKind.i64.wrap (a * 2 ^ min (8 : Int).toNat 64) = IntKind.i64.wrap (a * 256) := rfl
theorem get_c {nl : Bool} {b : List UInt8} {i : Int} {k : Nat} (h0 : 0 ≤ i) (h : i + 1 < b.length) (hl : b.length < 2 ^ 40) {H : AHeap} {K : AV → AHeap → Prop} (hG : H k = some (.mem 0 0 1 [[.d (.sl nl (bs b))]])) (hk : K (.d (.int .i64 (num b i))) H) : CallsA Try.prog 42 [.d (.int .i64 i), .ptr k 0 0 0] H K := by
  apply C42
  unfold S42
  have h1 := bt_bd (b := b) (i := i)
  have h2 := bt_bd (b := b) (i := i + 1)
  have w1 : IntKind.i64.wrap (i + 1) = i + 1 := wrap_i64 (by omega) (by omega)
  try simp only [getM_of hG, sl_at (nl := nl) (b := b) (i := i) h0 (by omega), sl_at (nl := nl) (b := b) (i := i + 1) (by omega) (by omega), w1, intA_shl (b := 8) (by decide), intA_or, shl8, go_sem]
  rw [wrap_i64 (n := bt b i) (by omega) (by omega), wrap_i64 (n := bt b (i + 1)) (by omega) (by omega), wrap_i64 (n := bt b i * 256) (by omega) (by omega)]
  erw [or64 (by omega) (by omega) (by omega) (by omega)]
  exact ⟨H, le_refl', hk⟩

/-! short ones -/
def gs (b : List UInt8) (dst src : Int) : Pk := ⟨0, 0, dst, 0, src, bt b 2, bt b 3, bt b 4, true, b.drop 5, false⟩
def GsArg (dst src : Int) : Prop := (0 ≤ dst ∧ dst ≤ 255) ∧ (0 ≤ src ∧ src ≤ 255)
instance (d s : Int) : Decidable (GsArg d s) := by unfold GsArg; exact inferInstance
def gsE (b : List UInt8) (dst src : Int) : Int :=
  if GsArg dst src then (if b.length < 5 ∨ (b.length : Int) < num b 0 then 6 else if (b.length : Int) ≠ num b 0 ∨ ¬ (gs b dst src).Valid then 3 else 0) else 2
def gsP (b : List UInt8) (dst src : Int) : Pk := if gsE b dst src = 0 then gs b dst src else .zero
theorem zero_wnl {nl : Bool} : (Pk.zero.wnl true).av = .agg [.d (.int .i64 0), .d (.int .i64 0), .d (.int .i64 0), .d (.int .i64 0), .d (.int .i64 0), .d (.int .i64 0), .d (.int .i64 0), .d (.int .i64 0), .d (.sl true []), .d (.bool false)] := rfl
theorem gs_len {b : List UInt8} {d s : Int} {nl : Bool} : ((gsP b d s).wnl nl).data.length ≤ b.length := by
  show (gsP b d s).data.length ≤ _
  unfold gsP
  split
  · show (b.drop 5).length ≤ _
    rw [List.length_drop]
    omega
  · exact Nat.zero_le _

def gl (b : List UInt8) : Pk := ⟨num b 0 / 1024, num b 4, bt b 8, num b 6, bt b 9, bt b 10, bt b 11, bt b 12, true, b.drop 13, decide (num b 2 ≠ 0)⟩
def glE (b : List UInt8) : Int :=
  if b.length < 13 ∨ (b.length : Int) < num b 0 % 1024 then 6 else if (b.length : Int) ≠ num b 0 % 1024 ∨ ¬ (gl b).Valid then 3 else if num b 2 ≠ 0 ∧ num b 2 ≠ osum (b.drop 4) then 10 else 0
def glP (b : List UInt8) : Pk := if glE b = 0 then gl b else .zero
theorem and1023 {n : Int} (h0 : 0 ≤ n) (h1 : n < 65536) : IntKind.i64.wrap (BitVec.ofInt 64 n &&& BitVec.ofInt 64 1023).toNat = n % 1024 := by
  obtain ⟨x, rfl⟩ := Int.eq_ofNat_of_zero_le h0
  have e1 : (BitVec.ofInt 64 (x : Int)).toNat = x := by
    rw [BitVec.toNat_ofInt]; simp; omega
  have e2 : (BitVec.ofInt 64 (1023 : Int)).toNat = 1023 := by
    rw [BitVec.toNat_ofInt]; simp
  rw [BitVec.toNat_and, e1, e2]
  have e3 : x &&& 1023 = x % 1024 := Nat.and_two_pow_sub_one_eq_mod x 10
  rw [e3, wrap_i64 (by omega) (by omega)]
  omega
theorem shr10 {n : Int} : n.fdiv (2 ^ min (10 : Int).toNat 64) = n / 1024 := by
  rw [show (2 : Int) ^ min (10 : Int).toNat 64 = 1024 from rfl, Int.fdiv_eq_ediv_of_nonneg _ (by decide)]
theorem getLong_c {nl : Bool} {b : List UInt8} (hl : b.length < 2 ^ 40) (hnl : nl = true → b = []) {H : AHeap} {K : AV → AHeap → Prop} (h : ∀ n2, (n2 = true → (glP b).data = []) → K (.tup [((glP b).wnl n2).av, .d (.int .i64 (glE b))]) H) :
    CallsA Try.prog 20 [.d (.sl nl (bs b))] H K := by
  apply C20
  unfold S20
  refine box_open rfl fun k1 G1 hG1 hle1 hk1 => ?_
  refine alloc_open fun k G hG hle2 hk2 => ?_
  have hb1 : G k1 = some (.mem 0 0 1 [[.d (.sl nl (bs b))]]) := hle2 _ _ hG1
  have hle := le_trans' hle1 hle2
  have hk := le_none hle1 hk2
  have hne1 : k1 ≠ k := le_ne hG1 hk2
  have bad : ∀ e : Int, e ≠ 0 → glE b = e → K (.tup [(Pk.zero.wnl true).av, .d (.int .i64 e)]) H := fun e h0 he => by
    have := h true (fun _ => by unfold glP; rw [he, if_neg h0]; rfl)
    unfold glP at this
    rw [he, if_neg h0] at this
    exact this
  try simp only [getM_of hb1, bs_length, go_sem]
  split
  · rename_i h3
    try simp only [getM_of hG, bd36, cell3, cell4, cell28, cell22, stoA_agg, stoA_get, stoM, setCells, and_self, true_and, Nat.le_refl, Nat.reduceLeDiff, List.cons_append, List.set_cons_zero, List.getElem?_cons_zero, bdA, fillA, setCells, List.zip_cons_cons, List.zip_nil_right, List.zip_nil_left, Option.map_some, and_self, Nat.le_refl, Nat.reduceLeDiff, List.cons_append, ti36_f0, ti36_f1, ti36_f2, ti36_f3, ti36_f4, ti36_f5, ti36_f6, ti36_f7, ti28_f0, ti28_f1, go_sem]
    exact ⟨H, set_le hle hk, bad 6 (by decide) (by unfold glE; rw [if_pos (by omega)])⟩
  rename_i h3
  try simp only [go_sem]
  refine get_c (by omega) (by omega) hl hb1 ?_
  try simp only [go_sem]
  refine get_c (by omega) (by omega) hl hb1 ?_
  have n0 := num_bd (b := b) (i := 0)
  have n2 := num_bd (b := b) (i := 2)
  try simp only [getM_of hb1, bs_length, intA_and, intA_shr (b := 10) (by decide), shr10, go_sem]
  erw [and1023 n0.1 (by omega : num b 0 < 65536)]
  split
  · rename_i h4
    try simp only [getM_of hG, bd36, cell3, cell4, cell28, cell22, stoA_agg, stoA_get, stoM, setCells, and_self, true_and, Nat.le_refl, Nat.reduceLeDiff, List.cons_append, List.set_cons_zero, List.getElem?_cons_zero, bdA, fillA, setCells, List.zip_cons_cons, List.zip_nil_right, List.zip_nil_left, Option.map_some, and_self, Nat.le_refl, Nat.reduceLeDiff, List.cons_append, ti36_f0, ti36_f1, ti36_f2, ti36_f3, ti36_f4, ti36_f5, ti36_f6, ti36_f7, ti28_f0, ti28_f1, go_sem]
    exact ⟨H, set_le hle hk, bad 6 (by decide) (by unfold glE; rw [if_pos (by omega)])⟩
  rename_i h4
  have hw : ∀ i, IntKind.i64.wrap (bt b i) = bt b i := fun i => wrap_i64 (by have := bt_bd (b := b) (i := i); omega) (by have := bt_bd (b := b) (i := i); omega)
  try simp only [go_sem]
  refine ⟨_, get_c (by omega) (by omega) hl hb1 ⟨rfl, le_refl'⟩, ?_⟩
  try simp only [getM_of hb1, sl_at (nl := nl) (b := b) (i := 8) (by omega) (by omega), hw, bd28, cell3, bdA, fillA, setCells, List.zip_cons_cons, List.zip_nil_right, List.zip_nil_left, Option.map_some, and_self, Nat.le_refl, Nat.reduceLeDiff, List.cons_append, go_sem]
  refine ⟨_, get_c (by omega) (by omega) hl hb1 ⟨rfl, le_refl'⟩, ?_⟩
  try simp only [getM_of hb1, sl_at (nl := nl) (b := b) (i := 9) (by omega) (by omega), sl_at (nl := nl) (b := b) (i := 10) (by omega) (by omega), sl_at (nl := nl) (b := b) (i := 11) (by omega) (by omega), sl_at (nl := nl) (b := b) (i := 12) (by omega) (by omega), slice_lo (nl := nl) (b := b) (k := 13) (by omega) (by omega), hw, bd28, cell3, bdA, fillA, setCells, List.zip_cons_cons, List.zip_nil_right, List.zip_nil_left, Option.map_some, and_self, Nat.le_refl, Nat.reduceLeDiff, List.cons_append, go_sem]
  have hnl' : nl = false := by cases nl with | false => rfl | true => have := hnl rfl; subst this; simp at h3
  subst hnl'
  refine ⟨_, clone_c (by simp; omega) (by simp) ⟨rfl, le_refl'⟩, ?_⟩
  try simp only [bd36, cell3, cell4, cell28, cell22, bdA, fillA, setCells, List.zip_cons_cons, List.zip_nil_right, List.zip_nil_left, Option.map_some, and_self, Nat.le_refl, Nat.reduceLeDiff, List.cons_append, go_sem]
  refine alloc_open fun k3 G2 hG2 hle3 hk3 => ?_
  have hHk3 := le_none hle hk3
  have hleH := le_trans' hle hle3
  have hkk := hle3 _ _ hG
  have hb3 := hle3 _ _ hb1
  have hne : k ≠ k3 := le_ne hG hk3
  have hne13 : k1 ≠ k3 := le_ne hb1 hk3
  try simp only [getM_of hG2, getM_of hkk, getM_of hb3, hne, hne13, bs_length, bd36, cell3, cell4, cell28, cell22, stoA_agg, stoA_get, stoM, setCells, and_self, true_and, Nat.le_refl, Nat.reduceLeDiff, List.cons_append, List.set_cons_zero, List.getElem?_cons_zero, bdA, fillA, setCells, List.zip_cons_cons, List.zip_nil_right, List.zip_nil_left, Option.map_some, and_self, Nat.le_refl, Nat.reduceLeDiff, List.cons_append, ti36_f0, ti36_f1, ti36_f2, ti36_f3, ti36_f4, ti36_f5, ti36_f6, ti36_f7, ti28_f0, ti28_f1, go_sem]
  split
  · rename_i h5
    try simp only [getM_of hkk, hne, bd36, cell3, cell4, cell28, cell22, stoA_agg, stoA_get, stoM, setCells, and_self, true_and, Nat.le_refl, Nat.reduceLeDiff, List.cons_append, List.set_cons_zero, List.getElem?_cons_zero, bdA, fillA, setCells, List.zip_cons_cons, List.zip_nil_right, List.zip_nil_left, Option.map_some, and_self, Nat.le_refl, Nat.reduceLeDiff, List.cons_append, ti36_f0, ti36_f1, ti36_f2, ti36_f3, ti36_f4, ti36_f5, ti36_f6, ti36_f7, ti28_f0, ti28_f1, go_sem]
    exact ⟨H, set_le (set_le hleH hHk3) hk, bad 3 (by decide) (by unfold glE; rw [if_neg (by omega), if_pos (.inl h5)])⟩
  rename_i h5
  try simp only [go_sem]
  refine valid_c (p := (gl b).wnl false) ?_
  try simp only [getM_of hkk, hne, bd36, cell3, cell4, cell28, cell22, stoA_agg, stoA_get, stoM, setCells, and_self, true_and, Nat.le_refl, Nat.reduceLeDiff, List.cons_append, List.set_cons_zero, List.getElem?_cons_zero, bdA, fillA, setCells, List.zip_cons_cons, List.zip_nil_right, List.zip_nil_left, Option.map_some, and_self, Nat.le_refl, Nat.reduceLeDiff, List.cons_append, ti36_f0, ti36_f1, ti36_f2, ti36_f3, ti36_f4, ti36_f5, ti36_f6, ti36_f7, ti28_f0, ti28_f1, go_sem]
  split
  · rename_i h6
    try simp only [getM_of hkk, hne, bd36, cell3, cell4, cell28, cell22, stoA_agg, stoA_get, stoM, setCells, and_self, true_and, Nat.le_refl, Nat.reduceLeDiff, List.cons_append, List.set_cons_zero, List.getElem?_cons_zero, bdA, fillA, setCells, List.zip_cons_cons, List.zip_nil_right, List.zip_nil_left, Option.map_some, and_self, Nat.le_refl, Nat.reduceLeDiff, List.cons_append, ti36_f0, ti36_f1, ti36_f2, ti36_f3, ti36_f4, ti36_f5, ti36_f6, ti36_f7, ti28_f0, ti28_f1, go_sem]
    exact ⟨H, set_le (set_le hleH hHk3) hk, bad 3 (by decide) (by unfold glE; rw [if_neg (by omega), if_pos (.inr h6)])⟩
  rename_i h6
  have h6 : (gl b).Valid := Classical.not_not.1 h6
  have h56 : ¬ ((b.length : Int) ≠ num b 0 % 1024 ∨ ¬ (gl b).Valid) := fun h => h.elim h5 fun h => h h6
  have good : (num b 2 ≠ 0 ∧ num b 2 ≠ osum (b.drop 4) → False) → K (.tup [((gl b).wnl false).av, .d (.int .i64 0)]) H := fun hn => by
    have he : glE b = 0 := by unfold glE; rw [if_neg (by omega), if_neg h56, if_neg hn]
    have := h false (fun h => by cases h)
    unfold glP at this
    rw [he, if_pos rfl] at this
    exact this
  try simp only [getM_of hkk, getM_of hb3, hne, hne13, slice_lo (nl := false) (b := b) (k := 4) (by omega) (by omega), bd36, cell3, cell4, cell28, cell22, stoA_agg, stoA_get, stoM, setCells, and_self, true_and, Nat.le_refl, Nat.reduceLeDiff, List.cons_append, List.set_cons_zero, List.getElem?_cons_zero, bdA, fillA, setCells, List.zip_cons_cons, List.zip_nil_right, List.zip_nil_left, Option.map_some, and_self, Nat.le_refl, Nat.reduceLeDiff, List.cons_append, ti36_f0, ti36_f1, ti36_f2, ti36_f3, ti36_f4, ti36_f5, ti36_f6, ti36_f7, ti28_f0, ti28_f1, go_sem]
  split
  · rename_i h7
    try simp only [go_sem]
    refine sum_c (by simp; omega) ?_
    try simp only [go_sem]
    split
    · rename_i h8
      try simp only [getM_of hkk, hne, bd36, cell3, cell4, cell28, cell22, stoA_agg, stoA_get, stoM, setCells, and_self, true_and, Nat.le_refl, Nat.reduceLeDiff, List.cons_append, List.set_cons_zero, List.getElem?_cons_zero, bdA, fillA, setCells, List.zip_cons_cons, List.zip_nil_right, List.zip_nil_left, Option.map_some, and_self, Nat.le_refl, Nat.reduceLeDiff, List.cons_append, ti36_f0, ti36_f1, ti36_f2, ti36_f3, ti36_f4, ti36_f5, ti36_f6, ti36_f7, ti28_f0, ti28_f1, go_sem]
      exact ⟨H, set_le (set_le hleH hHk3) hk, bad 10 (by decide) (by unfold glE; rw [if_neg (by omega), if_neg h56, if_pos ⟨h7, h8⟩])⟩
    · rename_i h8
      try simp only [getM_of hkk, hne, bd36, cell3, cell4, cell28, cell22, stoA_agg, stoA_get, stoM, setCells, and_self, true_and, Nat.le_refl, Nat.reduceLeDiff, List.cons_append, List.set_cons_zero, List.getElem?_cons_zero, bdA, fillA, setCells, List.zip_cons_cons, List.zip_nil_right, List.zip_nil_left, Option.map_some, and_self, Nat.le_refl, Nat.reduceLeDiff, List.cons_append, ti36_f0, ti36_f1, ti36_f2, ti36_f3, ti36_f4, ti36_f5, ti36_f6, ti36_f7, ti28_f0, ti28_f1, go_sem]
      exact ⟨H, set_le (set_le hleH hHk3) hk, good fun hh => h8 hh.2⟩
  · rename_i h7
    try simp only [getM_of hkk, hne, bd36, cell3, cell4, cell28, cell22, stoA_agg, stoA_get, stoM, setCells, and_self, true_and, Nat.le_refl, Nat.reduceLeDiff, List.cons_append, List.set_cons_zero, List.getElem?_cons_zero, bdA, fillA, setCells, List.zip_cons_cons, List.zip_nil_right, List.zip_nil_left, Option.map_some, and_self, Nat.le_refl, Nat.reduceLeDiff, List.cons_append, ti36_f0, ti36_f1, ti36_f2, ti36_f3, ti36_f4, ti36_f5, ti36_f6, ti36_f7, ti28_f0, ti28_f1, go_sem]
    exact ⟨H, set_le (set_le hleH hHk3) hk, good fun hh => h7 hh.1⟩
theorem gl_len {b : List UInt8} {nl : Bool} : ((glP b).wnl nl).data.length ≤ b.length := by
  show (glP b).data.length ≤ _
  unfold glP
  split
  · show (b.drop 13).length ≤ _
    rw [List.length_drop]
    omega
  · exact Nat.zero_le _

theorem b8_nat (x : UInt8) : b8 (x.toNat : Int) = x := by
  apply UInt8.toNat_inj.1
  have := b8_toNat (x.toNat : Int)
  have := x.toNat_lt
  omega
theorem b8_hi (x y : UInt8) : b8 ((256 * (x.toNat : Int) + y.toNat) / 256) = x := by
  apply UInt8.toNat_inj.1
  have := b8_toNat ((256 * (x.toNat : Int) + y.toNat) / 256)
  have := x.toNat_lt
  have := y.toNat_lt
  omega
theorem b8_lo (x y : UInt8) : b8 (256 * (x.toNat : Int) + y.toNat) = y := by
  apply UInt8.toNat_inj.1
  have := b8_toNat (256 * (x.toNat : Int) + y.toNat)
  have := x.toNat_lt
  have := y.toNat_lt
  omega
theorem two_num {n : Int} (h0 : 0 ≤ n) (h1 : n < 65536) : 256 * ((b8 (n / 256)).toNat : Int) + ((b8 n).toNat : Int) = n := by
  rw [b8_toNat, b8_toNat]
  omega
theorem b8_id {n : Int} (h0 : 0 ≤ n) (h1 : n ≤ 255) : ((b8 n).toNat : Int) = n := by
  rw [b8_toNat]
  omega
theorem list5 {b : List UInt8} (h : 5 ≤ b.length) : ∃ x0 x1 x2 x3 x4 r, b = x0 :: x1 :: x2 :: x3 :: x4 :: r := by
  match b, h with
  | x0 :: x1 :: x2 :: x3 :: x4 :: r, _ => exact ⟨_, _, _, _, _, _, rfl⟩
theorem list13 {b : List UInt8} (h : 13 ≤ b.length) : ∃ x0 x1 x2 x3 x4 x5 x6 x7 x8 x9 xa xb xc r, b = x0 :: x1 :: x2 :: x3 :: x4 :: x5 :: x6 :: x7 :: x8 :: x9 :: xa :: xb :: xc :: r := by
  match b, h with
  | x0 :: x1 :: x2 :: x3 :: x4 :: x5 :: x6 :: x7 :: x8 :: x9 :: xa :: xb :: xc :: r, _ => exact ⟨_, _, _, _, _, _, _, _, _, _, _, _, _, _, rfl⟩
theorem long_gl {b : List UInt8} (h : glE b = 0) : (gl b).long = b ∧ (gl b).Valid ∧ (gl b).longE = 0 := by
  unfold glE at h
  split at h
  · cases h
  rename_i h1
  split at h
  · cases h
  rename_i h2
  have hv : (gl b).Valid := Classical.byContradiction fun hn => h2 (.inr hn)
  have hlen : (b.length : Int) = num b 0 % 1024 := Classical.byContradiction fun hn => h2 (.inl hn)
  split at h
  · cases h
  rename_i h3
  refine ⟨?_, hv, by unfold Pk.longE; rw [if_pos hv]⟩
  unfold Pk.long
  rw [if_pos hv]
  obtain ⟨x0, x1, x2, x3, x4, x5, x6, x7, x8, x9, xa, xb, xc, r, rfl⟩ := list13 (b := b) (by omega)
  have ht : (gl (x0 :: x1 :: x2 :: x3 :: x4 :: x5 :: x6 :: x7 :: x8 :: x9 :: xa :: xb :: xc :: r)).tail = x4 :: x5 :: x6 :: x7 :: x8 :: x9 :: xa :: xb :: xc :: r := by
    show [b8 ((256 * (x4.toNat : Int) + x5.toNat) / 256), b8 (256 * (x4.toNat : Int) + x5.toNat), b8 ((256 * (x6.toNat : Int) + x7.toNat) / 256), b8 (256 * (x6.toNat : Int) + x7.toNat), b8 (x8.toNat : Int), b8 (x9.toNat : Int), b8 (xa.toNat : Int), b8 (xb.toNat : Int), b8 (xc.toNat : Int)] ++ r = _
    simp only [b8_hi, b8_lo, b8_nat]
    rfl
  have hh : (gl (x0 :: x1 :: x2 :: x3 :: x4 :: x5 :: x6 :: x7 :: x8 :: x9 :: xa :: xb :: xc :: r)).head = 256 * (x0.toNat : Int) + x1.toNat := by
    have hn : num (x0 :: x1 :: x2 :: x3 :: x4 :: x5 :: x6 :: x7 :: x8 :: x9 :: xa :: xb :: xc :: r) 0 = 256 * (x0.toNat : Int) + x1.toNat := rfl
    unfold Pk.head
    rw [ht]
    show num _ 0 / 1024 * 1024 + _ = _
    rw [hn] at hlen ⊢
    simp only [List.length_cons] at hlen ⊢
    omega
  have hs : (gl (x0 :: x1 :: x2 :: x3 :: x4 :: x5 :: x6 :: x7 :: x8 :: x9 :: xa :: xb :: xc :: r)).tsum = 256 * (x2.toNat : Int) + x3.toNat := by
    unfold Pk.tsum
    rw [ht]
    have hn : num (x0 :: x1 :: x2 :: x3 :: x4 :: x5 :: x6 :: x7 :: x8 :: x9 :: xa :: xb :: xc :: r) 2 = 256 * (x2.toNat : Int) + x3.toNat := rfl
    have hd : (x0 :: x1 :: x2 :: x3 :: x4 :: x5 :: x6 :: x7 :: x8 :: x9 :: xa :: xb :: xc :: r).drop 4 = x4 :: x5 :: x6 :: x7 :: x8 :: x9 :: xa :: xb :: xc :: r := rfl
    rw [hn, hd] at h3
    show (if decide (num _ 2 ≠ 0) = true then _ else _) = _
    rw [hn]
    by_cases h0 : 256 * (x2.toNat : Int) + x3.toNat = 0
    · simp only [h0, ne_eq, not_true_eq_false, decide_false, Bool.false_eq_true, if_false]
    · simp only [h0, ne_eq, not_false_eq_true, decide_true, if_true]
      exact (Classical.byContradiction fun hn => h3 ⟨h0, fun he => hn he.symm⟩)
  rw [hh, hs, ht]
  simp only [b8_hi, b8_lo]
  rfl
theorem short_gs {b : List UInt8} {d s : Int} (h : gsE b d s = 0) : (gs b d s).short = b ∧ (gs b d s).Valid ∧ (gs b d s).shortE = 0 := by
  unfold gsE at h
  split at h
  · split at h
    · cases h
    rename_i h1
    split at h
    · cases h
    rename_i h2
    have hv : (gs b d s).Valid := Classical.byContradiction fun hn => h2 (.inr hn)
    have hlen : (b.length : Int) = num b 0 := Classical.byContradiction fun hn => h2 (.inl hn)
    have hs : (gs b d s).Shorts := ⟨hv, rfl, rfl, rfl, rfl⟩
    refine ⟨?_, hv, by unfold Pk.shortE; rw [if_pos hs]⟩
    unfold Pk.short
    rw [if_pos hs]
    obtain ⟨x0, x1, x2, x3, x4, r, rfl⟩ := list5 (b := b) (by omega)
    have hn : num (x0 :: x1 :: x2 :: x3 :: x4 :: r) 0 = 256 * (x0.toNat : Int) + x1.toNat := rfl
    have hd : (gs (x0 :: x1 :: x2 :: x3 :: x4 :: r) d s).data = r := rfl
    rw [hd]
    have hl : ((5 + r.length : Nat) : Int) = 256 * (x0.toNat : Int) + x1.toNat := by
      rw [← hn, ← hlen]
      simp only [List.length_cons]
      omega
    rw [hl]
    show [b8 ((256 * (x0.toNat : Int) + x1.toNat) / 256), b8 (256 * (x0.toNat : Int) + x1.toNat), b8 (x2.toNat : Int), b8 (x3.toNat : Int), b8 (x4.toNat : Int)] ++ r = _
    simp only [b8_hi, b8_lo, b8_nat]
    rfl
  · cases h
theorem long_len {p : Pk} (hv : p.Valid) : p.long.length = 13 + p.data.length := by
  unfold Pk.long
  rw [if_pos hv, List.length_append, tail_len]
  simp only [List.length_cons, List.length_nil]
  omega
theorem gl_long {p : Pk} (hv : p.Valid) : glE p.long = 0 ∧ gl p.long = p.wnl true := by
  have hl := long_len hv
  have hv' := hv
  unfold Pk.Valid at hv'
  have htl := tail_len (p := p)
  have hts := tsum_bd (p := p)
  have e : p.long = b8 (p.head / 256) :: b8 p.head :: b8 (p.tsum / 256) :: b8 p.tsum :: b8 (p.dn / 256) :: b8 p.dn :: b8 (p.sn / 256) :: b8 p.sn :: b8 p.dd :: b8 p.sd :: b8 p.ds :: b8 p.ss :: b8 p.ty :: p.data := by
    unfold Pk.long
    rw [if_pos hv]
    rfl
  have hhd : p.head = p.hops * 1024 + (13 + p.data.length : Nat) := by unfold Pk.head; rw [htl]; omega
  have n0 : num p.long 0 = p.head := by
    rw [e]
    show 256 * ((b8 (p.head / 256)).toNat : Int) + ((b8 p.head).toNat : Int) = _
    exact two_num (by omega) (by omega)
  have n2 : num p.long 2 = p.tsum := by
    rw [e]
    show 256 * ((b8 (p.tsum / 256)).toNat : Int) + ((b8 p.tsum).toNat : Int) = _
    exact two_num (by omega) (by omega)
  have n4 : num p.long 4 = p.dn := by
    rw [e]
    show 256 * ((b8 (p.dn / 256)).toNat : Int) + ((b8 p.dn).toNat : Int) = _
    exact two_num (by omega) (by omega)
  have n6 : num p.long 6 = p.sn := by
    rw [e]
    show 256 * ((b8 (p.sn / 256)).toNat : Int) + ((b8 p.sn).toNat : Int) = _
    exact two_num (by omega) (by omega)
  have hg : gl p.long = p.wnl true := by
    unfold gl
    rw [n0, n2, n4, n6]
    have t8 : bt p.long 8 = p.dd := by rw [e]; show ((b8 p.dd).toNat : Int) = _; exact b8_id (by omega) (by omega)
    have t9 : bt p.long 9 = p.sd := by rw [e]; show ((b8 p.sd).toNat : Int) = _; exact b8_id (by omega) (by omega)
    have ta : bt p.long 10 = p.ds := by rw [e]; show ((b8 p.ds).toNat : Int) = _; exact b8_id (by omega) (by omega)
    have tb : bt p.long 11 = p.ss := by rw [e]; show ((b8 p.ss).toNat : Int) = _; exact b8_id (by omega) (by omega)
    have tc : bt p.long 12 = p.ty := by rw [e]; show ((b8 p.ty).toNat : Int) = _; exact b8_id (by omega) (by omega)
    rw [t8, t9, ta, tb, tc]
    have hd : p.long.drop 13 = p.data := by rw [e]; rfl
    rw [hd]
    have hh : p.head / 1024 = p.hops := by omega
    have hsum : decide (p.tsum ≠ 0) = p.sum := by
      unfold Pk.tsum
      cases hs : p.sum with
      | true =>
        have := osum_bd p.tail
        simp only [if_true]
        exact decide_eq_true (by omega)
      | false => simp
    rw [hh, hsum]
    rfl
  refine ⟨?_, hg⟩
  unfold glE
  rw [n0, n2, hl, if_neg (by omega), if_neg, if_neg]
  · rintro ⟨h1, h2⟩
    apply h2
    have : p.long.drop 4 = p.tail := by rw [e]; rfl
    rw [this]
    unfold Pk.tsum at h1 ⊢
    split
    · rfl
    · rename_i hs; rw [if_neg hs] at h1; exact absurd rfl h1
  · rintro (h | h)
    · omega
    · rw [hg] at h; exact h hv
theorem gs_short {p : Pk} (hs : p.Shorts) : gsE p.short p.dd p.sd = 0 ∧ gs p.short p.dd p.sd = p.wnl true := by
  obtain ⟨hv, h1, h2, h3, h4⟩ := hs
  have hv' := hv
  unfold Pk.Valid at hv'
  have e : p.short = b8 ((5 + p.data.length : Nat) / 256 : Int) :: b8 (5 + p.data.length : Nat) :: b8 p.ds :: b8 p.ss :: b8 p.ty :: p.data := by
    unfold Pk.short
    rw [if_pos ⟨hv, h1, h2, h3, h4⟩]
    rfl
  have n0 : num p.short 0 = (5 + p.data.length : Nat) := by
    rw [e]
    show 256 * ((b8 ((5 + p.data.length : Nat) / 256 : Int)).toNat : Int) + ((b8 (5 + p.data.length : Nat)).toNat : Int) = _
    exact two_num (by omega) (by omega)
  have hl : p.short.length = 5 + p.data.length := by rw [e]; simp only [List.length_cons]; omega
  have hg : gs p.short p.dd p.sd = p.wnl true := by
    unfold gs
    have t2 : bt p.short 2 = p.ds := by rw [e]; show ((b8 p.ds).toNat : Int) = _; exact b8_id (by omega) (by omega)
    have t3 : bt p.short 3 = p.ss := by rw [e]; show ((b8 p.ss).toNat : Int) = _; exact b8_id (by omega) (by omega)
    have t4 : bt p.short 4 = p.ty := by rw [e]; show ((b8 p.ty).toNat : Int) = _; exact b8_id (by omega) (by omega)
    have hd : p.short.drop 5 = p.data := by rw [e]; rfl
    rw [t2, t3, t4, hd]
    unfold Pk.wnl
    rw [h1, h2, h3, h4]
  refine ⟨?_, hg⟩
  unfold gsE
  rw [if_pos ⟨by omega, by omega⟩, n0, hl, if_neg (by omega), if_neg]
  rintro (h | h)
  · omega
  · rw [hg] at h; exact h hv
theorem hop_long {p : Pk} (hv : p.Valid) (hh : p.hopE = 0) : p.hop.long.length = p.long.length ∧ p.hop.long.drop 2 = p.long.drop 2 ∧ p.hop.longE = 0 := by
  unfold Pk.hopE at hh
  rw [if_pos hv] at hh
  split at hh
  · cases hh
  rename_i h15
  have hq : p.hop = { p with hops := p.hops + 1 } := by unfold Pk.hop; rw [if_pos hv, if_neg h15]
  have hv2 : p.hop.Valid := by
    rw [hq]
    unfold Pk.Valid at hv ⊢
    simp only
    omega
  refine ⟨?_, ?_, by unfold Pk.longE; rw [if_pos hv2]⟩
  · rw [long_len hv2, long_len hv, hq]
  · unfold Pk.long
    rw [if_pos hv2, if_pos hv, hq]
    rfl

end Go.Proofs.Ytfihnifhabbniaa.P4

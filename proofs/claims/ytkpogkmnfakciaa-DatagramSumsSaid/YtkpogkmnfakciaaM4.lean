/- What the functions compute. -/
import Derived.Test.YtkpogkmnfakciaaT4
set_option autoImplicit false
set_option linter.unusedVariables false
set_option linter.unusedSimpArgs false
namespace Go.Proofs.Ytkpogkmnfakciaa
open Go Go.AM Go.Proofs
theorem k_bool {K : AV → AHeap → Prop} {H : AHeap} {b c : Bool} (h : K (.d (.bool b)) H) (e : c = b) : K (.d (.bool c)) H := e ▸ h

/-- A datagram. -/
structure Pk where
  hops : Int
  dn : Int
  dd : Int
  sn : Int
  sd : Int
  ds : Int
  ss : Int
  ty : Int
  nl : Bool
  data : List UInt8
  sum : Bool
def Pk.av (p : Pk) : AV := .agg [.d (.int .i64 p.hops), .d (.int .i64 p.dn), .d (.int .i64 p.dd), .d (.int .i64 p.sn), .d (.int .i64 p.sd), .d (.int .i64 p.ds), .d (.int .i64 p.ss), .d (.int .i64 p.ty), .d (.sl p.nl (bs p.data)), .d (.bool p.sum)]
def Pk.Valid (p : Pk) : Prop := ((0 ≤ p.hops ∧ p.hops ≤ 15) ∧ (0 ≤ p.dn ∧ p.dn ≤ 65279) ∧ (0 ≤ p.dd ∧ p.dd ≤ 255) ∧ (0 ≤ p.sn ∧ p.sn ≤ 65279) ∧ (0 ≤ p.sd ∧ p.sd ≤ 255)) ∧ (0 ≤ p.ds ∧ p.ds ≤ 255) ∧ (0 ≤ p.ss ∧ p.ss ≤ 255) ∧ (1 ≤ p.ty ∧ p.ty ≤ 255) ∧ p.data.length ≤ 586
instance (p : Pk) : Decidable p.Valid := by unfold Pk.Valid; exact inferInstance

theorem within_c {n low high : Int} {H : AHeap} {K : AV → AHeap → Prop} (h : K (.d (.bool (decide (low ≤ n ∧ n ≤ high)))) H) : CallsA Try.prog 38 [.d (.int .i64 n), .d (.int .i64 low), .d (.int .i64 high)] H K := by
  apply C38
  simp only [S38, go_sem]
  split <;> (rename_i h1; exact ⟨H, le_refl', by simpa [h1] using h⟩)
theorem isNet_c {n : Int} {H : AHeap} {K : AV → AHeap → Prop} (h : K (.d (.bool (decide (0 ≤ n ∧ n ≤ 65279)))) H) : CallsA Try.prog 40 [.d (.int .i64 n)] H K := by
  apply C40
  simp only [S40, go_sem]
  split <;> (rename_i h1; exact ⟨H, le_refl', by simpa [h1] using h⟩)
theorem isByte_c {n : Int} {H : AHeap} {K : AV → AHeap → Prop} (h : K (.d (.bool (decide (0 ≤ n ∧ n ≤ 255)))) H) : CallsA Try.prog 41 [.d (.int .i64 n)] H K := by
  apply C41
  simp only [S41, go_sem]
  split <;> (rename_i h1; exact ⟨H, le_refl', by simpa [h1] using h⟩)
theorem isAddr_c {n d : Int} {H : AHeap} {K : AV → AHeap → Prop} (h : K (.d (.bool (decide ((0 ≤ n ∧ n ≤ 65279) ∧ (0 ≤ d ∧ d ≤ 255))))) H) : CallsA Try.prog 39 [.agg [.d (.int .i64 n), .d (.int .i64 d)]] H K := by
  apply C39
  unfold S39
  refine box_open rfl fun k G hG hle hk => ?_
  simp only [getM_of hG, ti26_f0, ti26_f1, ti26_f2, ti26_f3, ti26_f4, ti26_f5, ti26_f6, ti26_f7, ti23_f0, ti23_f1, go_sem]
  refine within_c ?_
  simp only [getM_of hG, ti26_f0, ti26_f1, ti26_f2, ti26_f3, ti26_f4, ti26_f5, ti26_f6, ti26_f7, ti23_f0, ti23_f1, go_sem]
  split
  · rename_i h1
    refine within_c ?_
    simp only [go_sem]
    exact ⟨H, hle, by simpa [h1] using h⟩
  · rename_i h1
    exact ⟨H, hle, by simpa [h1] using h⟩
theorem valid_c {p : Pk} {H : AHeap} {K : AV → AHeap → Prop} (h : K (.d (.bool (decide p.Valid))) H) : CallsA Try.prog 24 [p.av] H K := by
  apply C24
  unfold S24 Pk.av
  refine box_open rfl fun k G hG hle hk => ?_
  repeat' first
    | (refine within_c ?_; simp only [getM_of hG, bs_length, ti26_f0, ti26_f1, ti26_f2, ti26_f3, ti26_f4, ti26_f5, ti26_f6, ti26_f7, ti23_f0, ti23_f1, go_sem])
    | (refine isAddr_c ?_; simp only [getM_of hG, bs_length, ti26_f0, ti26_f1, ti26_f2, ti26_f3, ti26_f4, ti26_f5, ti26_f6, ti26_f7, ti23_f0, ti23_f1, go_sem])
    | (exact ⟨H, hle, k_bool h (by unfold Pk.Valid; first | (exact (decide_eq_false (by omega)).symm) | (exact decide_eq_decide.2 (by omega)))⟩)
    | split
    | simp only [getM_of hG, bs_length, ti26_f0, ti26_f1, ti26_f2, ti26_f3, ti26_f4, ti26_f5, ti26_f6, ti26_f7, ti23_f0, ti23_f1, go_sem]
theorem rvalid_c {p : Pk} {H : AHeap} {K : AV → AHeap → Prop} (h : K (.d (.bool (decide p.Valid))) H) : CallsA Try.prog 25 [p.av] H K := by
  apply C25
  unfold S25 Pk.av
  refine box_open rfl fun k G hG hle hk => ?_
  repeat' first
    | (refine isNet_c ?_; simp only [getM_of hG, bs_length, ti26_f0, ti26_f1, ti26_f2, ti26_f3, ti26_f4, ti26_f5, ti26_f6, ti26_f7, ti23_f0, ti23_f1, go_sem])
    | (refine isByte_c ?_; simp only [getM_of hG, bs_length, ti26_f0, ti26_f1, ti26_f2, ti26_f3, ti26_f4, ti26_f5, ti26_f6, ti26_f7, ti23_f0, ti23_f1, go_sem])
    | (exact ⟨H, hle, k_bool h (by unfold Pk.Valid; first | (exact (decide_eq_false (by omega)).symm) | (exact decide_eq_decide.2 (by omega)))⟩)
    | split
    | simp only [getM_of hG, bs_length, ti26_f0, ti26_f1, ti26_f2, ti26_f3, ti26_f4, ti26_f5, ti26_f6, ti26_f7, ti23_f0, ti23_f1, go_sem]
theorem bsl5_2 {x y : Dat} : buildSlA ti5 2 (List.zip [0, 1] [.d x, .d y]) = some [[.d x], [.d y]] := rfl
theorem two_c {n : Int} {H : AHeap} {K : AV → AHeap → Prop} (h : K (.d (.sl false (bs [b8 (n / 256), b8 n]))) H) : CallsA Try.prog 32 [.d (.int .i64 n)] H K := by
  apply C32
  simp only [S32, intA_shr (a := n) (b := 8) (k := .i64) (k' := .u64) (by decide), bsA, bsl5_2, toDatss, toDats, AV.toDat, go_sem]
  intro k hk
  refine ⟨H, le_refl', ?_⟩
  rw [wrap_u8, wrap_u8]
  have : n.fdiv (2 ^ min (8 : Int).toNat 64) = n / 256 := by
    rw [show (2 : Int) ^ min (8 : Int).toNat 64 = 256 from rfl]
    exact Int.fdiv_eq_ediv_of_nonneg _ (by decide)
  rw [this]
  exact h
theorem rtwo_c {n : Int} {H : AHeap} {K : AV → AHeap → Prop} (h0 : 0 ≤ n) (h1 : n < 9223372036854775808) (h : K (.lit (bs [b8 (n / 256), b8 n])) H) : CallsA Try.prog 33 [.d (.int .i64 n)] H K := by
  apply C33
  simp only [S33, intA_quo (a := n) (b := 256) (k := .i64) (by decide), intA_rem (a := n) (b := 256) (k := .i64) (by decide), bsA, bsl5_2, toDatss, toDats, AV.toDat, go_sem]
  intro k hk
  refine ⟨H, le_refl', ?_⟩
  rw [wrap_i64 (by rw [Int.tdiv_eq_ediv_of_nonneg h0]; omega) (by rw [Int.tdiv_eq_ediv_of_nonneg h0]; omega), wrap_u8, wrap_u8, Int.tdiv_eq_ediv_of_nonneg h0, Int.tmod_eq_emod_of_nonneg h0]
  have : b8 (n % 256) = b8 n := by unfold b8; rw [Int.emod_emod]
  rw [this]
  exact h
/-- slices.Grow of nil. -/
theorem grow_c {n : Int} {H : AHeap} {K : AV → AHeap → Prop} (h0 : 0 ≤ n) (h1 : n < 2 ^ 46) (h : ∀ v H', Own H 1 H' v [] → (∀ i, (H i).isSome → H' i = H i) → (n = 0 → v = .d (.sl true [])) → K v H') : CallsA Try.prog 45 [.d (.sl true []), .d (.int .i64 n)] H K := by
  apply C45
  simp only [S45, go_sem]
  rw [if_neg (by omega)]
  simp only [capA, go_sem]
  have e1 : IntKind.i64.wrap (0 - ((0 : Nat) : Int)) = 0 := rfl
  simp only [List.length_nil, e1]
  rw [wrap_i64 (by omega) (by omega)]
  split
  · rename_i hn
    have e2 : sliceA 1 (.d (.sl true [])) none (some (.d (.int .i64 0))) none H = some (.d (.sl true [])) := rfl
    simp only [e2, go_sem]
    intro m hm
    have e3 : apzA ti5 (.d (.sl true [])) (.d (.int .i64 (n - 0))) H m = some (.rs m 0 1 0 n.toNat, [(m, .mem 0 0 1 (repl n.toNat [.d (.int .u8 0)]))]) := by
      simp only [apzA, appA, Int.sub_zero]
      have hc : n.toNat * 1 ≤ mostBytes := by unfold mostBytes; omega
      rw [if_pos ⟨h0, by decide, by decide, hc⟩]
      cases hk : repl n.toNat ti5.zero with
      | nil => simp [repl] at hk; omega
      | cons y r =>
        have hl : (y :: r).length = n.toNat := by rw [← hk]; simp [repl]
        simp only [hl]
        have hk2 : y :: r = repl n.toNat [.d (.int .u8 0)] := hk.symm
        rw [hk2]
        exact if_pos hc
    simp only [e3, go_sem]
    have e4 : sliceA 1 (.rs m 0 1 0 n.toNat) none (some (.d (.int .i64 ((0 : Nat) : Int)))) none (H.set m (.mem 0 0 1 (repl n.toNat [.d (.int .u8 0)]))) = some (.rs m 0 1 0 0) := by
      simp [sliceA, set_self, bnd]
    simp only [e4, go_sem]
    refine ⟨_, le_refl', h _ _ (Own.rs (l := []) (le_set le_refl' hm) (by simp) set_self (by simp [avs]) (by simp) hm) (fun i hi => ?_) (fun h => by omega)⟩
    rw [set_ne]
    intro he
    subst he
    rw [hm] at hi
    cases hi
  · exact ⟨H, le_refl', h _ _ (Own.nil le_refl') (fun _ _ => rfl) (fun _ => rfl)⟩

/-- Lists of bytes, as a slice of slices. -/
def slls (xs : List (Bool × List UInt8)) : List (List Dat) := xs.map fun x => [.sl x.1 (bs x.2)]
theorem slls_get {xs : List (Bool × List UInt8)} {i : Nat} (h : i < xs.length) : (slls xs)[i]? = some [.sl xs[i].1 (bs xs[i].2)] := by simp [slls, h]
def cat (xs : List (Bool × List UInt8)) : List UInt8 := xs.flatMap (·.2)
theorem cat_take_succ {xs : List (Bool × List UInt8)} {i : Nat} (h : i < xs.length) : cat (xs.take (i + 1)) = cat (xs.take i) ++ xs[i].2 := by
  rw [cat, cat, List.take_add_one, List.getElem?_eq_getElem h, List.flatMap_append]
  simp
theorem cat_take_le {xs : List (Bool × List UInt8)} (i : Nat) : (cat (xs.take i)).length ≤ (cat xs).length := by
  have : cat xs = cat (xs.take i) ++ cat (xs.drop i) := by
    rw [cat, cat, cat, ← List.flatMap_append, List.take_append_drop]
  rw [this, List.length_append]
  omega
theorem concat_c {nl : Bool} {xs : List (Bool × List UInt8)} {H : AHeap} {K : AV → AHeap → Prop} (hn : xs.length < 2 ^ 40) (hc : (cat xs).length < 2 ^ 40) (h : K (.d (.sl (cat xs).isEmpty (bs (cat xs)))) H) :
    CallsA Try.prog 31 [.d (.sl nl (slls xs))] H K := by
  apply C31
  simp only [S31, go_sem]
  have hl : (slls xs).length = xs.length := by simp [slls]
  refine loop_ind (fun m vs H' => H' = H ∧ ∃ i : Nat, i ≤ xs.length ∧ m = xs.length - i ∧ vs = [.d (.sl nl (slls xs)), .d (.int .i64 (cat (xs.take i)).length), .junk, .d (.sl nl (slls xs)), .d (.int .i64 xs.length), .d (.int .i64 i), .junk, .junk, .junk])
    (n := xs.length) ⟨rfl, 0, by omega, by omega, by rw [hl]; rfl⟩ ?_
  rintro X m vs H' ⟨rfl, i, hi, rfl, rfl⟩ hX
  have hle := cat_take_le (xs := xs) i
  simp only [List.getD_cons_succ, List.getD_cons_zero, go_sem]
  split
  · rename_i hlt
    have hi' : i < xs.length := by omega
    have hle2 := cat_take_le (xs := xs) (i + 1)
    rw [cat_take_succ hi', List.length_append] at hle2
    simp only [sl_get (ti := ti55) (e := 24) (esz := 1) rfl (by omega : (0 : Int) ≤ i) (by simpa using slls_get hi') rfl, List.map_cons, List.map_nil, bs_length, go_sem]
    rw [wrap_i64 (by omega) (by omega), if_neg (by omega), wrap_i64 (by omega) (by omega)]
    refine hX (xs.length - (i + 1)) _ _ (by omega) ⟨rfl, i + 1, by omega, rfl, ?_⟩
    rw [cat_take_succ hi', List.length_append]
    simp
  · rename_i hlt
    have hi' : i = xs.length := by omega
    subst hi'
    rw [List.take_length]
    refine grow_c (by omega) (by omega) fun v H1 hv hk hv0 => ?_
    simp only [hl]
    refine loop_ind (fun m vs H2 => ∃ (i : Nat) (v : AV), i ≤ xs.length ∧ m = xs.length - i ∧ Own H' 1 H2 v (bs (cat (xs.take i))) ∧ (cat xs = [] → nilS v = true) ∧
        vs = [.d (.sl nl (slls xs)), .d (.int .i64 (cat xs).length), v, .d (.sl nl (slls xs)), .d (.int .i64 xs.length), .d (.int .i64 xs.length), .d (.sl nl (slls xs)), .d (.int .i64 xs.length), .d (.int .i64 i)])
      (n := xs.length) ⟨0, v, by omega, by omega, hv, fun he => by rw [hv0 (by rw [he]; rfl)]; rfl, rfl⟩ ?_
    rintro X2 m2 vs2 H2 ⟨i, v, hi, rfl, hv, hvn, rfl⟩ hX2
    simp only [List.getD_cons_succ, List.getD_cons_zero, go_sem]
    split
    · rename_i hlt
      have hi' : i < xs.length := by omega
      have hle2 := cat_take_le (xs := xs) (i + 1)
      rw [cat_take_succ hi', List.length_append] at hle2
      simp only [sl_get (ti := ti55) (e := 24) (esz := 1) rfl (by omega : (0 : Int) ≤ i) (by simpa using slls_get hi') rfl, List.map_cons, List.map_nil, optA_some, ldV, partV, List.drop_zero, List.take_succ_cons, List.take_zero, List.length_cons, List.length_nil, if_true, Bool.false_eq_true, if_false]
      refine hv.app (by rw [elemsA_sl]) (by decide) (by decide) bs_sz (by rw [bs_length, bs_length]; unfold mostBytes; omega) fun v' H3 hv' _ _ hvn' => ?_
      try simp only [go_sem]
      rw [wrap_i64 (by omega) (by omega)]
      refine hX2 (xs.length - (i + 1)) _ _ (by omega) ⟨i + 1, v', by omega, rfl, by rw [cat_take_succ hi', bs_append]; exact hv', fun he => ?_, by simp⟩
      rw [hvn', hvn he]
      rw [he] at hle2
      cases hx : xs[i].2 with
      | nil => rfl
      | cons b r => rw [hx] at hle2; simp at hle2
    · rename_i hlt
      have hi' : i = xs.length := by omega
      subst hi'
      rw [List.take_length] at hv
      refine hv.ret le_refl' ?_
      have : nilS v = (cat xs).isEmpty := by
        cases hcx : cat xs with
        | nil => rw [hvn hcx]; rfl
        | cons b r =>
          cases hn : nilS v with
          | false => rfl
          | true => have := hv.nilS hn; rw [hcx] at this; cases this
      rw [this]
      exact h

theorem bsl5_3 {x y z : Dat} : buildSlA ti5 3 (List.zip [0, 1, 2] [.d x, .d y, .d z]) = some [[.d x], [.d y], [.d z]] := rfl
theorem bsl24_3 {x y z : Dat} : buildSlA ti24 3 (List.zip [0, 1, 2] [.d x, .d y, .d z]) = some [[.d x], [.d y], [.d z]] := rfl
def Pk.Shorts (p : Pk) : Prop := p.Valid ∧ p.hops = 0 ∧ p.dn = 0 ∧ p.sn = 0 ∧ p.sum = false
instance (p : Pk) : Decidable p.Shorts := by unfold Pk.Shorts; exact inferInstance
def Pk.short (p : Pk) : List UInt8 := if p.Shorts then [b8 ((5 + p.data.length : Nat) / 256 : Int), b8 (5 + p.data.length : Nat), b8 p.ds, b8 p.ss, b8 p.ty] ++ p.data else []
def Pk.shortE (p : Pk) : Int := if p.Shorts then 0 else 2
theorem no_short {p : Pk} {H G : AHeap} {K : AV → AHeap → Prop} (h : p.short = [] → K (.tup [.d (.sl true (bs p.short)), .d (.int .i64 p.shortE)]) H) (hle : AHeap.le H G) (hn : ¬ p.Shorts) : finA (.tup [.d (.sl true []), .d (.int .i64 2)]) G K := by
  have := h (by unfold Pk.short; rw [if_neg hn])
  unfold Pk.short Pk.shortE at this
  rw [if_neg hn, if_neg hn] at this
  exact ⟨H, hle, this⟩
theorem short_c {p : Pk} {H : AHeap} {K : AV → AHeap → Prop} (h : ∀ nl, (nl = true → p.short = []) → K (.tup [.d (.sl nl (bs p.short)), .d (.int .i64 p.shortE)]) H) : CallsA Try.prog 14 [p.av] H K := by
  apply C14
  unfold S14 Pk.av
  refine box_open rfl fun k G hG hle hk => ?_
  simp only [getM_of hG, ti26_f0, ti26_f1, ti26_f2, ti26_f3, ti26_f4, ti26_f5, ti26_f6, ti26_f7, ti23_f0, ti23_f1, go_sem]
  refine valid_c (p := p) ?_
  simp only [getM_of hG, ti26_f0, ti26_f1, ti26_f2, ti26_f3, ti26_f4, ti26_f5, ti26_f6, ti26_f7, ti23_f0, ti23_f1, go_sem]
  by_cases hs : p.Shorts
  · have hs' := hs
    unfold Pk.Shorts at hs'
    have hd := hs'.1.2.2.2.2
    rw [if_neg (by simp [hs']), if_neg (by simp [hs']), if_neg (by simp [hs']), if_neg (by simp [hs']), if_neg (by simp [hs'])]
    rw [bs_length, wrap_i64 (by omega) (by omega)]
    refine ⟨_, two_c ⟨rfl, le_refl'⟩, ?_⟩
    intro n hn
    simp only [getM_of hG, bsA, bsl5_3, bsl24_3, toDatss, toDats, AV.toDat, go_sem]
    intro n2 hn2
    have hx : [[Dat.sl false (bs [b8 ((5 + (p.data.length : Int)) / 256), b8 (5 + (p.data.length : Int))])], [Dat.sl false [[Dat.int IntKind.u8 (IntKind.u8.wrap p.ds)], [Dat.int IntKind.u8 (IntKind.u8.wrap p.ss)], [Dat.int IntKind.u8 (IntKind.u8.wrap p.ty)]]], [Dat.sl p.nl (bs p.data)]] =
        slls [(false, [b8 ((5 + (p.data.length : Int)) / 256), b8 (5 + (p.data.length : Int))]), (false, [b8 p.ds, b8 p.ss, b8 p.ty]), (p.nl, p.data)] := by
      simp [slls, bs, wrap_u8]
    simp only [getM_of hG, bsA, bsl5_3, bsl24_3, toDatss, toDats, AV.toDat, hx, go_sem]
    refine ⟨_, concat_c (by simp) (by simp [cat]; omega) ⟨rfl, le_refl'⟩, ?_⟩
    simp only [go_sem]
    refine ⟨H, hle, ?_⟩
    have := h false (by simp)
    unfold Pk.short Pk.shortE at this
    rw [if_pos hs, if_pos hs] at this
    simpa [cat] using this
  · unfold Pk.Shorts at hs
    repeat' first
      | exact no_short (fun he => h true fun _ => he) hle (by unfold Pk.Shorts; simp_all)
      | split
    simp_all
theorem rshort_c {p : Pk} {H : AHeap} {K : AV → AHeap → Prop} (h : ∀ nl, K (.tup [.d (.sl nl (bs p.short)), .d (.int .i64 p.shortE)]) H) : CallsA Try.prog 15 [p.av] H K := by
  apply C15
  unfold S15 Pk.av
  refine box_open rfl fun k G hG hle hk => ?_
  simp only [getM_of hG, ti26_f0, ti26_f1, ti26_f2, ti26_f3, ti26_f4, ti26_f5, ti26_f6, ti26_f7, ti23_f0, ti23_f1, go_sem]
  refine rvalid_c (p := p) ?_
  simp only [getM_of hG, ti26_f0, ti26_f1, ti26_f2, ti26_f3, ti26_f4, ti26_f5, ti26_f6, ti26_f7, ti23_f0, ti23_f1, go_sem]
  by_cases hs : p.Shorts
  · have hs' := hs
    unfold Pk.Shorts at hs'
    have hd := hs'.1.2.2.2.2
    rw [if_neg (by simp [hs']), if_neg (by simp [hs']), if_neg (by simp [hs']), if_neg (by simp [hs']), if_neg (by simp [hs'])]
    rw [bs_length, wrap_i64 (by omega) (by omega)]
    refine ⟨_, rtwo_c (by omega) (by omega) ⟨rfl, le_refl'⟩, ?_⟩
    intro n hn
    simp only [getM_of hG, bsA, bsl5_3, toDatss, toDats, AV.toDat, go_sem]
    refine (Own.lit (sz := 1) le_refl' bs_sz).app (ys := bs [b8 p.ds, b8 p.ss, b8 p.ty]) (by rw [elemsA_lit, wrap_u8, wrap_u8, wrap_u8]; rfl) (by decide) (by decide) bs_sz (by simp [bs, mostBytes]) fun v' H3 hv' _ hid _ => ?_
    refine ⟨hv'.apart hG, ?_⟩
    simp only [getM_of (hv'.le _ _ hG), ti26_f0, ti26_f1, ti26_f2, ti26_f3, ti26_f4, ti26_f5, ti26_f6, ti26_f7, ti23_f0, ti23_f1, go_sem]
    refine hv'.app (ys := bs p.data) rfl (by decide) (by decide) bs_sz (by simp [bs, mostBytes]; omega) fun v4 H4 hv4 _ _ _ => ?_
    refine hv4.ret_d hle ?_
    have := h (nilS v4)
    unfold Pk.short Pk.shortE at this
    rw [if_pos hs, if_pos hs] at this
    rw [bs_append, show ∀ a b c d e : UInt8, bs [a, b, c, d, e] = bs [a, b] ++ bs [c, d, e] from fun _ _ _ _ _ => rfl] at this
    exact this
  · unfold Pk.Shorts Pk.Valid at hs
    repeat' first
      | exact no_short (fun _ => h true) hle (by unfold Pk.Shorts Pk.Valid; omega)
      | split
    exfalso
    rename_i h1 h2 h3 h4 h5
    have h1' := Classical.not_not.1 h1
    unfold Pk.Valid at h1'
    have h5' : p.sum = false := by simpa using h5
    simp only [h5', and_true] at hs
    omega
theorem awake_c {H : AHeap} {K : AV → AHeap → Prop} (h : K (.d (.bool true)) H) : CallsA Try.prog 13 [] H K := by
  apply C13
  unfold S13
  simp only [bd23, bd26, cell3, cell4, cell23, cell24, bdA, fillA, setCells, List.zip_cons_cons, List.zip_nil_right, List.zip_nil_left, Option.map_some, and_self, Nat.le_refl, Nat.reduceLeDiff, List.cons_append, go_sem]
  refine short_c (p := ⟨0, 0, 3, 0, 2, 1, 1, 1, true, [], false⟩) fun nl _ => ?_
  have e1 : (Pk.short ⟨0, 0, 3, 0, 2, 1, 1, 1, true, [], false⟩) = [0, 5, 1, 1, 1] := by decide
  have e2 : (Pk.shortE ⟨0, 0, 3, 0, 2, 1, 1, 1, true, [], false⟩) = 0 := by decide
  rw [e1, e2]
  simp only [go_sem]
  intro n hn
  have e3 : bsA ti5 5 [0, 1, 2, 3, 4] [.d (.int .u8 0), .d (.int .u8 5), .d (.int .u8 1), .d (.int .u8 1), .d (.int .u8 1)] H n = some (.lit (bs [0, 5, 1, 1, 1]), []) := rfl
  simp only [e3, bytes_toList, beq_self_eq_true, go_sem]
  exact ⟨H, le_refl', h⟩
theorem shorts_law {p : Pk} : CallsA Try.prog 3 [p.av] noHeap fun v _ => v = .d (.bool true) := by
  apply C3
  unfold S3 Pk.av
  refine box_open rfl fun k G hG hle hk => ?_
  simp only [getM_of hG, ti26_f0, ti26_f1, ti26_f2, ti26_f3, ti26_f4, ti26_f5, ti26_f6, ti26_f7, ti23_f0, ti23_f1, go_sem]
  split
  · refine awake_c ?_
    simp only [go_sem]
    exact ⟨_, le_refl', rfl⟩
  · refine short_c (p := p) fun nl _ => ?_
    simp only [getM_of hG, ti26_f0, ti26_f1, ti26_f2, ti26_f3, ti26_f4, ti26_f5, ti26_f6, ti26_f7, ti23_f0, ti23_f1, go_sem]
    refine rshort_c (p := p) fun nl2 => ?_
    simp only [bytes_toList, beq_self_eq_true, go_sem]
    refine awake_c ?_
    simp only [go_sem]
    exact ⟨_, le_refl', rfl⟩
def Pk.Wide (p : Pk) : Prop := ∀ n ∈ [p.hops, p.dn, p.dd, p.sn, p.sd, p.ds, p.ss, p.ty], -9223372036854775808 ≤ n ∧ n ≤ 9223372036854775807
theorem pk_open {xs : List Dat} (h : DatOk Try.prog 9 26 xs) : ∃ p : Pk, argAV (aggT Try.prog 26) xs = p.av ∧ p.Wide ∧ p.data.length ≤ 2 ^ 47 ∧ (p.nl = true → p.data = []) := by
  rw [datOk_struct Try.underlying26] at h
  simp only [datFs_cons, datFs_nil] at h
  obtain ⟨x0, y0, rfl, h0, x1, y1, rfl, h1, x2, y2, rfl, h2, x3, y3, rfl, h3, x4, y4, rfl, h4, x5, y5, rfl, h5, x6, y6, rfl, h6, x7, y7, rfl, h7, rfl⟩ := h
  simp only [datOk_int Try.underlying3, datOk_struct Try.underlying23, datOk_slice Try.underlying24, datOk_bool Try.underlying4, datFs_cons, datFs_nil] at h0 h1 h2 h3 h4 h5 h6 h7
  obtain ⟨a0, rfl, w0⟩ := h0
  obtain ⟨_, _, rfl, ⟨a1, rfl, w1⟩, _, _, rfl, ⟨a2, rfl, w2⟩, rfl⟩ := h1
  obtain ⟨_, _, rfl, ⟨a3, rfl, w3⟩, _, _, rfl, ⟨a4, rfl, w4⟩, rfl⟩ := h2
  obtain ⟨a5, rfl, w5⟩ := h3
  obtain ⟨a6, rfl, w6⟩ := h4
  obtain ⟨a7, rfl, w7⟩ := h5
  obtain ⟨nl, l, rfl, hnl, hl, hlen⟩ := h6
  obtain ⟨b, rfl⟩ := h7
  obtain ⟨bl, rfl⟩ := DatOk_bytes Try.underlying5 hl
  refine ⟨⟨a0, a1, a2, a3, a4, a5, a6, a7, nl, bl, b⟩, ?_, ?_, ?_, fun h => ?_⟩
  · rw [show aggT Try.prog 26 = true by kernel_rfl]
    rfl
  · have := bounds_i64 w0; have := bounds_i64 w1; have := bounds_i64 w2; have := bounds_i64 w3; have := bounds_i64 w4; have := bounds_i64 w5; have := bounds_i64 w6; have := bounds_i64 w7
    intro n hn
    simp only [List.mem_cons, List.not_mem_nil, or_false] at hn
    omega
  · rw [show Try.prog.bytesOf 5 = 1 by kernel_rfl, bs_length] at hlen
    unfold reachBytes at hlen
    show bl.length ≤ _
    omega
  · have := hnl h
    cases bl with
    | nil => rfl
    | cons b r => cases this
theorem shorts_row (xs : List Dat) (h : DatOk Try.prog 9 26 xs) : CallsA Try.prog 3 [argAV (aggT Try.prog 26) xs] noHeap fun v _ => v = .d (.bool true) := by
  obtain ⟨p, hp, _⟩ := pk_open h
  rw [hp]
  exact shorts_law
end Go.Proofs.Ytkpogkmnfakciaa

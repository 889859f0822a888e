/- Rules by which a function's shallow text is run on values that are told. -/
import Derived.Test.YtmciomkibklokaaA21
set_option autoImplicit false
set_option linter.unusedVariables false
set_option linter.unusedSimpArgs false
namespace Go.AM

/-! ### look at the head alone -/
@[congr] theorem optA_congr {α : Type} {o o' : Option α} {K : α → Prop} (h : o = o') : optA o K = optA o' K := by rw [h]
@[congr] theorem ifA_congr {v v' : AV} {X Y : Prop} (h : v = v') : ifA v X Y = ifA v' X Y := by rw [h]
@[congr] theorem newK_congr {H : AHeap} {f : Nat → Option (AV × Ups)} {K : AV → AHeap → Prop} : newK H f K = newK H f K := rfl
@[congr] theorem stepK_congr {o o' : Option (AV × Ups)} {H : AHeap} {K : AV → AHeap → Prop} (h : o = o') : stepK o H K = stepK o' H K := by rw [h]
@[congr] theorem loopA_congr {B : (List AV → AHeap → Prop) → List AV → AHeap → Prop} {vs vs' : List AV} {H : AHeap} (h : vs = vs') : loopA B vs H = loopA B vs' H := by rw [h]
@[congr] theorem callsA_congr {P : Program} {f : FuncId} {as as' : List AV} {H : AHeap} {K : AV → AHeap → Prop} (h : as = as') : CallsA P f as H K = CallsA P f as' H K := by rw [h]
@[congr] theorem finA_congr {v v' : AV} {H : AHeap} {K : AV → AHeap → Prop} (h : v = v') : finA v H K = finA v' H K := by rw [h]
@[congr] theorem retF_congr {v v' : List AV} {H : AHeap} {K : AV → AHeap → Prop} (h : v = v') : retF v H K = retF v' H K := by rw [h]
@[congr] theorem frzLK_congr {v v' : List AV} {H : AHeap} {K : List AV → AHeap → Prop} (h : v = v') : frzLK v H K = frzLK v' H K := by rw [h]
@[congr] theorem nxA_congr {v v' : AV} {H : AHeap} {K : AV → AHeap → Prop} (h : v = v') : nxA v H K = nxA v' H K := by rw [h]
@[congr] theorem drA_congr {b : Bool} {X : Prop} : drA b X = drA b X := rfl
theorem optA_some {α : Type} {v : α} {K : α → Prop} : optA (some v) K = K v := rfl
theorem optA_none {α : Type} {K : α → Prop} : optA none K = False := rfl
theorem ifA_bool' {b : Bool} {X Y : Prop} : ifA (.d (.bool b)) X Y = if b then X else Y := by cases b <;> rfl
theorem ifA_t {X Y : Prop} : ifA (.d (.bool true)) X Y = X := rfl
theorem ifA_f {X Y : Prop} : ifA (.d (.bool false)) X Y = Y := rfl
theorem ifA_ite {c : Prop} [Decidable c] {X Y : Prop} : ifA (.d (.bool (decide c))) X Y = if c then X else Y := by by_cases h : c <;> simp [h, ifA]
theorem drA_true {X : Prop} : drA true X = X := by simp [drA]
theorem stepK_some {v : AV} {us : Ups} {H : AHeap} {K : AV → AHeap → Prop} : stepK (some (v, us)) H K = K v (H.sets us) := rfl
theorem stepK_none {H : AHeap} {K : AV → AHeap → Prop} : stepK none H K = False := rfl
theorem newK_iff {H : AHeap} {f : Nat → Option (AV × Ups)} {K : AV → AHeap → Prop} : newK H f K = ∀ n, H n = none → stepK (f n) H K := rfl
theorem sets_cons {H : AHeap} {i : Nat} {o : AObj} {us : Ups} : H.sets ((i, o) :: us) = (H.set i o).sets us := rfl
theorem set_self {H : AHeap} {n : Nat} {o : AObj} : H.set n o n = some o := by simp [AHeap.set]
theorem set_ne {H : AHeap} {n i : Nat} {o : AObj} (h : i ≠ n) : H.set n o i = H i := by simp [AHeap.set, h]
theorem set_none {H : AHeap} {n i : Nat} {o : AObj} : H.set n o i = none ↔ i ≠ n ∧ H i = none := by
  unfold AHeap.set
  by_cases h : i = n <;> simp [h]
theorem le_refl' {H : AHeap} : AHeap.le H H := fun _ _ h => h
theorem le_set {H H' : AHeap} {n : Nat} {o : AObj} (h : AHeap.le H H') (hn : H' n = none) : AHeap.le H (H'.set n o) := fun i x hi => by
  have := h i x hi
  by_cases he : i = n
  · subst he; rw [hn] at this; cases this
  · rw [set_ne he]; exact this
/-- An object of one's own is rewritten: what was there ahead of it is still there. -/
theorem le_set_own {H H' : AHeap} {n : Nat} {o : AObj} (h : AHeap.le H H') (hn : H n = none) : AHeap.le H (H'.set n o) := fun i x hi => by
  have := h i x hi
  by_cases he : i = n
  · subst he; rw [hn] at hi; cases hi
  · rw [set_ne he]; exact this

def ldM (agg : Bool) (size : Nat) (l : List (List AV)) (e off : Nat) : Option AV := match l[e]? with | some cs => partV agg size cs off | none => none
theorem ldV_of {agg : Bool} {size i ver fro esz e off : Nat} {l : List (List AV)} {H : AHeap} (h : H i = some (.mem ver fro esz l)) : ldV agg size (.ptr i ver e off) H = ldM agg size l e off := by
  simp only [ldV, h, if_true]; rfl
theorem ldV_set {agg : Bool} {size i ver fro esz e off : Nat} {l : List (List AV)} {H : AHeap} : ldV agg size (.ptr i ver e off) (H.set i (.mem ver fro esz l)) = ldM agg size l e off := ldV_of set_self
theorem ldV_v {agg : Bool} {size off : Nat} {cs : List Dat} {H : AHeap} : ldV agg size (.vptr cs off) H = partV agg size (cs.map AV.d) off := rfl

/-! ### operators -/
section
variable {k : IntKind} {a b : Int}
theorem intA_add : intA .add (.d (.int k a)) (.d (.int k b)) = some (.d (.int k (k.wrap (a + b)))) := by simp [intA, isShift, intBin]
theorem intA_sub : intA .sub (.d (.int k a)) (.d (.int k b)) = some (.d (.int k (k.wrap (a - b)))) := by simp [intA, isShift, intBin]
theorem intA_mul : intA .mul (.d (.int k a)) (.d (.int k b)) = some (.d (.int k (k.wrap (a * b)))) := by simp [intA, isShift, intBin]
theorem intA_quo (h : b ≠ 0) : intA .quo (.d (.int k a)) (.d (.int k b)) = some (.d (.int k (k.wrap (a.tdiv b)))) := by simp [intA, isShift, intBin, h]
theorem intA_rem (h : b ≠ 0) : intA .rem (.d (.int k a)) (.d (.int k b)) = some (.d (.int k (a.tmod b))) := by simp [intA, isShift, intBin, h]
theorem intA_eql : intA .eql (.d (.int k a)) (.d (.int k b)) = some (.d (.bool (decide (a = b)))) := by simp only [intA, isShift, intBin]; rfl
theorem intA_neq : intA .neq (.d (.int k a)) (.d (.int k b)) = some (.d (.bool (decide (a ≠ b)))) := by
  simp only [intA, isShift, intBin, if_true, Bool.false_eq_true, if_false, Option.some.injEq, AV.d.injEq, Dat.bool.injEq]
  by_cases h : a = b <;> simp [h]
theorem intA_lss : intA .lss (.d (.int k a)) (.d (.int k b)) = some (.d (.bool (decide (a < b)))) := by simp [intA, isShift, intBin]
theorem intA_leq : intA .leq (.d (.int k a)) (.d (.int k b)) = some (.d (.bool (decide (a ≤ b)))) := by simp [intA, isShift, intBin]
theorem intA_gtr : intA .gtr (.d (.int k a)) (.d (.int k b)) = some (.d (.bool (decide (b < a)))) := by simp [intA, isShift, intBin]
theorem intA_geq : intA .geq (.d (.int k a)) (.d (.int k b)) = some (.d (.bool (decide (b ≤ a)))) := by simp [intA, isShift, intBin]
theorem intA_and : intA .and (.d (.int k a)) (.d (.int k b)) = some (.d (.int k (k.wrap (BitVec.ofInt k.bits a &&& BitVec.ofInt k.bits b).toNat))) := by simp [intA, isShift, intBin]
theorem intA_or : intA .or (.d (.int k a)) (.d (.int k b)) = some (.d (.int k (k.wrap (BitVec.ofInt k.bits a ||| BitVec.ofInt k.bits b).toNat))) := by simp [intA, isShift, intBin]
theorem intA_xor : intA .xor (.d (.int k a)) (.d (.int k b)) = some (.d (.int k (k.wrap (BitVec.ofInt k.bits a ^^^ BitVec.ofInt k.bits b).toNat))) := by simp [intA, isShift, intBin]
theorem intA_shl {k' : IntKind} (h : 0 ≤ b) : intA .shl (.d (.int k a)) (.d (.int k' b)) = some (.d (.int k (k.wrap (a * 2 ^ (min b.toNat k.bits))))) := by
  simp only [intA, isShift, shiftBin, if_true]; rw [if_neg (by omega)]
theorem intA_shr {k' : IntKind} (h : 0 ≤ b) : intA .shr (.d (.int k a)) (.d (.int k' b)) = some (.d (.int k (a.fdiv (2 ^ (min b.toNat k.bits))))) := by
  simp only [intA, isShift, shiftBin, if_true]; rw [if_neg (by omega)]
end
theorem strA_eql {x y : ByteArray} : strA .eql (.d (.str x)) (.d (.str y)) = some (.d (.bool (x.toList == y.toList))) := rfl
theorem strA_neq {x y : ByteArray} : strA .neq (.d (.str x)) (.d (.str y)) = some (.d (.bool (!(x.toList == y.toList)))) := rfl
theorem boolA_eql {a b : Bool} : boolA .eql (.d (.bool a)) (.d (.bool b)) = some (.d (.bool (a == b))) := rfl
theorem boolA_neq {a b : Bool} : boolA .neq (.d (.bool a)) (.d (.bool b)) = some (.d (.bool (!(a == b)))) := rfl
theorem unA_not {b : Bool} : unA .not (.d (.bool b)) = some (.d (.bool (!b))) := rfl
theorem unA_neg {k : IntKind} {n : Int} : unA .neg (.d (.int k n)) = some (.d (.int k (k.wrap (0 - n)))) := rfl
theorem cvI_int {k k' : IntKind} {n : Int} : cvI k (.d (.int k' n)) = some (.d (.int k (k.wrap n))) := rfl
theorem lenSl_d {nl : Bool} {l : List (List Dat)} : lenSl (.d (.sl nl l)) = some (.d (.int .i64 l.length)) := rfl
theorem lenSl_lit {l : List (List Dat)} : lenSl (.lit l) = some (.d (.int .i64 l.length)) := rfl
theorem lenSl_rs {i v s o n : Nat} : lenSl (.rs i v s o n) = some (.d (.int .i64 n)) := rfl
theorem lenStr_d {s : ByteArray} : lenStr (.d (.str s)) = some (.d (.int .i64 s.size)) := rfl
theorem extractA_0 {x : AV} {l : List AV} : extractA (.tup (x :: l)) 0 = some x := rfl
theorem extractA_1 {x y : AV} {l : List AV} : extractA (.tup (x :: y :: l)) 1 = some y := rfl
theorem extractA_2 {x y z : AV} {l : List AV} : extractA (.tup (x :: y :: z :: l)) 2 = some z := rfl

/-! ### slices given away: by what the value is -/
theorem sets_append' : ∀ {us vs : Ups} {H : AHeap}, (H.sets us).sets vs = H.sets (us ++ vs)
  | [], vs, H => rfl
  | (i, o) :: us, vs, H => by simp only [AHeap.sets, List.cons_append]; exact sets_append'
theorem sets_app {us vs : Ups} {H : AHeap} : H.sets (us ++ vs) = (H.sets us).sets vs := sets_append'.symm
theorem frz_d {x : Dat} {H : AHeap} : frz (.d x) H = some ((.d x), []) := rfl
theorem frzA_d {x : Dat} {H : AHeap} : frzA (.d x) H = some ((.d x), []) := rfl
theorem ret1_d {x : Dat} {H : AHeap} {K : AV → AHeap → Prop} : retF [(.d x)] H K = finA (.d x) H K := rfl
theorem frz_lit {l : List (List Dat)} {H : AHeap} : frz (.lit l) H = some ((.d (.sl false l)), []) := rfl
theorem frzA_lit {l : List (List Dat)} {H : AHeap} : frzA (.lit l) H = some ((.d (.sl false l)), []) := rfl
theorem ret1_lit {l : List (List Dat)} {H : AHeap} {K : AV → AHeap → Prop} : retF [(.lit l)] H K = finA (.d (.sl false l)) H K := rfl
theorem frz_nilptr  {H : AHeap} : frz .nilptr H = some (.nilptr, []) := rfl
theorem frzA_nilptr  {H : AHeap} : frzA .nilptr H = some (.nilptr, []) := rfl
theorem ret1_nilptr  {H : AHeap} {K : AV → AHeap → Prop} : retF [.nilptr] H K = finA .nilptr H K := rfl
theorem frz_ptr {i v e o : Nat} {H : AHeap} : frz (.ptr i v e o) H = some ((.ptr i v e o), []) := rfl
theorem frzA_ptr {i v e o : Nat} {H : AHeap} : frzA (.ptr i v e o) H = some ((.ptr i v e o), []) := rfl
theorem ret1_ptr {i v e o : Nat} {H : AHeap} {K : AV → AHeap → Prop} : retF [(.ptr i v e o)] H K = finA (.ptr i v e o) H K := rfl
theorem frz_vptr {l : List Dat} {o : Nat} {H : AHeap} : frz (.vptr l o) H = some ((.vptr l o), []) := rfl
theorem frzA_vptr {l : List Dat} {o : Nat} {H : AHeap} : frzA (.vptr l o) H = some ((.vptr l o), []) := rfl
theorem ret1_vptr {l : List Dat} {o : Nat} {H : AHeap} {K : AV → AHeap → Prop} : retF [(.vptr l o)] H K = finA (.vptr l o) H K := rfl
theorem frz_nilmap  {H : AHeap} : frz .nilmap H = some (.nilmap, []) := rfl
theorem frzA_nilmap  {H : AHeap} : frzA .nilmap H = some (.nilmap, []) := rfl
theorem ret1_nilmap  {H : AHeap} {K : AV → AHeap → Prop} : retF [.nilmap] H K = finA .nilmap H K := rfl
theorem frz_map {i : Nat} {H : AHeap} : frz (.map i) H = some ((.map i), []) := rfl
theorem frzA_map {i : Nat} {H : AHeap} : frzA (.map i) H = some ((.map i), []) := rfl
theorem ret1_map {i : Nat} {H : AHeap} {K : AV → AHeap → Prop} : retF [(.map i)] H K = finA (.map i) H K := rfl
theorem frz_it {i : Nat} {H : AHeap} : frz (.it i) H = some ((.it i), []) := rfl
theorem frzA_it {i : Nat} {H : AHeap} : frzA (.it i) H = some ((.it i), []) := rfl
theorem ret1_it {i : Nat} {H : AHeap} {K : AV → AHeap → Prop} : retF [(.it i)] H K = finA (.it i) H K := rfl
theorem frz_func {f : FuncId} {a b : List AV} {H : AHeap} : frz (.func f a b) H = some ((.func f a b), []) := rfl
theorem frzA_func {f : FuncId} {a b : List AV} {H : AHeap} : frzA (.func f a b) H = some ((.func f a b), []) := rfl
theorem ret1_func {f : FuncId} {a b : List AV} {H : AHeap} {K : AV → AHeap → Prop} : retF [(.func f a b)] H K = finA (.func f a b) H K := rfl
theorem frz_nilfunc  {H : AHeap} : frz .nilfunc H = some (.nilfunc, []) := rfl
theorem frzA_nilfunc  {H : AHeap} : frzA .nilfunc H = some (.nilfunc, []) := rfl
theorem ret1_nilfunc  {H : AHeap} {K : AV → AHeap → Prop} : retF [.nilfunc] H K = finA .nilfunc H K := rfl
theorem frz_nilif  {H : AHeap} : frz .nilif H = some (.nilif, []) := rfl
theorem frzA_nilif  {H : AHeap} : frzA .nilif H = some (.nilif, []) := rfl
theorem ret1_nilif  {H : AHeap} {K : AV → AHeap → Prop} : retF [.nilif] H K = finA .nilif H K := rfl
theorem frz_tup {l : List AV} {H : AHeap} : frz (.tup l) H = some ((.tup l), []) := rfl
theorem frzA_tup {l : List AV} {H : AHeap} : frzA (.tup l) H = some ((.tup l), []) := rfl
theorem ret1_tup {l : List AV} {H : AHeap} {K : AV → AHeap → Prop} : retF [(.tup l)] H K = finA (.tup l) H K := rfl
theorem frz_junk  {H : AHeap} : frz .junk H = some (.junk, []) := rfl
theorem frzA_junk  {H : AHeap} : frzA .junk H = some (.junk, []) := rfl
theorem ret1_junk  {H : AHeap} {K : AV → AHeap → Prop} : retF [.junk] H K = finA .junk H K := rfl
theorem frzA_agg {l : List AV} {H : AHeap} : frzA (.agg l) H = match frzL l H with | some (l', us) => some (.agg l', us) | none => none := rfl
theorem frzL_nil {H : AHeap} : frzL [] H = some ([], []) := rfl
theorem frzL_cons {v : AV} {l : List AV} {H : AHeap} : frzL (v :: l) H = match frz v H with | some (v', us) => (match frzL l (H.sets us) with | some (l', us') => some (v' :: l', us ++ us') | none => none) | none => none := rfl
theorem frzAL_nil {H : AHeap} : frzAL [] H = some ([], []) := rfl
theorem frzAL_cons {v : AV} {l : List AV} {H : AHeap} : frzAL (v :: l) H = match frzA v H with | some (v', us) => (match frzAL l (H.sets us) with | some (l', us') => some (v' :: l', us ++ us') | none => none) | none => none := rfl
theorem sets_nil' {H : AHeap} : H.sets [] = H := rfl
theorem ret1_agg {l : List AV} {H : AHeap} {K : AV → AHeap → Prop} : retF [.agg l] H K = optA (frzL l H) fun r => finA (.agg r.1) (H.sets r.2) K := by
  unfold retF frzLK
  rw [frzAL_cons, frzA_agg]
  cases frzL l H with
  | none => rfl
  | some r => obtain ⟨l', us⟩ := r; simp [optA, frzAL_nil, one1]
theorem ret0 {H : AHeap} {K : AV → AHeap → Prop} : retF [] H K = finA (.tup []) H K := rfl
theorem frzLK_nil {H : AHeap} {K : List AV → AHeap → Prop} : frzLK [] H K = K [] H := rfl
theorem frzLK_of {v v' : AV} {us : Ups} {l : List AV} {H : AHeap} {K : List AV → AHeap → Prop} (h : frzA v H = some (v', us)) : frzLK (v :: l) H K = frzLK l (H.sets us) fun l' H' => K (v' :: l') H' := by
  unfold frzLK
  rw [frzAL_cons, h]
  cases hl : frzAL l (H.sets us) with
  | none => simp only [hl, optA]
  | some r =>
    obtain ⟨l', us'⟩ := r
    simp only [hl, optA]
    rw [← sets_append']
theorem frzLK_d {x : Dat} {l : List AV} {H : AHeap} {K : List AV → AHeap → Prop} : frzLK ((.d x) :: l) H K = frzLK l H fun l' H' => K ((.d x) :: l') H' := frzLK_of (us := []) rfl
theorem frzLK_lit {c : List (List Dat)} {l : List AV} {H : AHeap} {K : List AV → AHeap → Prop} : frzLK ((.lit c) :: l) H K = frzLK l H fun l' H' => K ((.d (.sl false c)) :: l') H' := frzLK_of (us := []) rfl
theorem frzLK_nilptr  {l : List AV} {H : AHeap} {K : List AV → AHeap → Prop} : frzLK (.nilptr :: l) H K = frzLK l H fun l' H' => K (.nilptr :: l') H' := frzLK_of (us := []) rfl
theorem frzLK_ptr {i v e o : Nat} {l : List AV} {H : AHeap} {K : List AV → AHeap → Prop} : frzLK ((.ptr i v e o) :: l) H K = frzLK l H fun l' H' => K ((.ptr i v e o) :: l') H' := frzLK_of (us := []) rfl
theorem frzLK_nilmap  {l : List AV} {H : AHeap} {K : List AV → AHeap → Prop} : frzLK (.nilmap :: l) H K = frzLK l H fun l' H' => K (.nilmap :: l') H' := frzLK_of (us := []) rfl
theorem frzLK_map {i : Nat} {l : List AV} {H : AHeap} {K : List AV → AHeap → Prop} : frzLK ((.map i) :: l) H K = frzLK l H fun l' H' => K ((.map i) :: l') H' := frzLK_of (us := []) rfl
theorem frzLK_func {f : FuncId} {a b : List AV} {l : List AV} {H : AHeap} {K : List AV → AHeap → Prop} : frzLK ((.func f a b) :: l) H K = frzLK l H fun l' H' => K ((.func f a b) :: l') H' := frzLK_of (us := []) rfl
theorem frzLK_nilfunc  {l : List AV} {H : AHeap} {K : List AV → AHeap → Prop} : frzLK (.nilfunc :: l) H K = frzLK l H fun l' H' => K (.nilfunc :: l') H' := frzLK_of (us := []) rfl
theorem frzLK_tup {c : List AV} {l : List AV} {H : AHeap} {K : List AV → AHeap → Prop} : frzLK ((.tup c) :: l) H K = frzLK l H fun l' H' => K ((.tup c) :: l') H' := frzLK_of (us := []) rfl
theorem frzLK_agg {c l : List AV} {H : AHeap} {K : List AV → AHeap → Prop} : frzLK (.agg c :: l) H K = optA (frzL c H) fun r => frzLK l (H.sets r.2) fun l' H' => K (.agg r.1 :: l') H' := by
  cases h : frzL c H with
  | none => unfold frzLK; rw [frzAL_cons, frzA_agg, h]; rfl
  | some r => obtain ⟨c', us⟩ := r; rw [frzLK_of (v' := .agg c') (us := us) (by rw [frzA_agg, h])]; rfl
theorem ret2_of {a b a' b' : AV} {us us' : Ups} {H : AHeap} {K : AV → AHeap → Prop} (h : frzA a H = some (a', us)) (h' : frzA b (H.sets us) = some (b', us')) : retF [a, b] H K = finA (.tup [a', b']) ((H.sets us).sets us') K := by
  unfold retF
  rw [frzLK_of h, frzLK_of h', frzLK_nil]
  rfl
theorem ret2_dd {x y : Dat} {H : AHeap} {K : AV → AHeap → Prop} : retF [.d x, .d y] H K = finA (.tup [.d x, .d y]) H K := ret2_of (us := []) (us' := []) rfl rfl
theorem ret2_litd {x : List (List Dat)} {y : Dat} {H : AHeap} {K : AV → AHeap → Prop} : retF [.lit x, .d y] H K = finA (.tup [.d (.sl false x), .d y]) H K := ret2_of (us := []) (us' := []) rfl rfl
theorem ret2_aggd {c : List AV} {y : Dat} {H : AHeap} {K : AV → AHeap → Prop} : retF [.agg c, .d y] H K = optA (frzL c H) fun r => finA (.tup [.agg r.1, .d y]) (H.sets r.2) K := by
  unfold retF
  rw [frzLK_agg]
  rfl
theorem ret2_ptrd {i v e o : Nat} {y : Dat} {H : AHeap} {K : AV → AHeap → Prop} : retF [.ptr i v e o, .d y] H K = finA (.tup [.ptr i v e o, .d y]) H K := ret2_of (us := []) (us' := []) rfl rfl
theorem ret2_nilptrd {y : Dat} {H : AHeap} {K : AV → AHeap → Prop} : retF [.nilptr, .d y] H K = finA (.tup [.nilptr, .d y]) H K := ret2_of (us := []) (us' := []) rfl rfl
theorem one1_1 {a : AV} : one1 [a] = a := rfl
theorem one1_2 {a b : AV} {l : List AV} : one1 (a :: b :: l) = .tup (a :: b :: l) := rfl

theorem st_d {x : Dat} : AV.storable (.d x) = true := rfl
theorem cl_d {x : Dat} : AV.cells (.d x) = [(.d x)] := rfl
theorem st_lit {c : List (List Dat)} : AV.storable (.lit c) = true := rfl
theorem cl_lit {c : List (List Dat)} : AV.cells (.lit c) = [(.lit c)] := rfl
theorem st_nilptr  : AV.storable .nilptr = true := rfl
theorem cl_nilptr  : AV.cells .nilptr = [.nilptr] := rfl
theorem st_ptr {i v e o : Nat} : AV.storable (.ptr i v e o) = true := rfl
theorem cl_ptr {i v e o : Nat} : AV.cells (.ptr i v e o) = [(.ptr i v e o)] := rfl
theorem st_rs {i v s o n : Nat} : AV.storable (.rs i v s o n) = true := rfl
theorem cl_rs {i v s o n : Nat} : AV.cells (.rs i v s o n) = [(.rs i v s o n)] := rfl
theorem st_nilmap  : AV.storable .nilmap = true := rfl
theorem cl_nilmap  : AV.cells .nilmap = [.nilmap] := rfl
theorem st_map {i : Nat} : AV.storable (.map i) = true := rfl
theorem cl_map {i : Nat} : AV.cells (.map i) = [(.map i)] := rfl
theorem st_func {f : FuncId} {a b : List AV} : AV.storable (.func f a b) = true := rfl
theorem cl_func {f : FuncId} {a b : List AV} : AV.cells (.func f a b) = [(.func f a b)] := rfl
theorem st_nilfunc  : AV.storable .nilfunc = true := rfl
theorem cl_nilfunc  : AV.cells .nilfunc = [.nilfunc] := rfl
theorem st_agg {l : List AV} : AV.storable (.agg l) = true := rfl
theorem cl_agg {l : List AV} : AV.cells (.agg l) = l := rfl
theorem ap_d_d {x : Dat} {y : Dat} : apart (.d x) (.d y) = True := rfl
theorem ap_d_lit {x : Dat} {y : List (List Dat)} : apart (.d x) (.lit y) = True := rfl
theorem ap_d_nil {x : Dat}  : apart (.d x) .nilptr = True := rfl
theorem ap_d_map {x : Dat} {y : Nat} : apart (.d x) (.map y) = True := rfl
theorem ap_d_nilmap {x : Dat}  : apart (.d x) .nilmap = True := rfl
theorem ap_d_agg {x : Dat} {y : List AV} : apart (.d x) (.agg y) = True := rfl
theorem ap_d_func {x : Dat} {y : FuncId} {ya yb : List AV} : apart (.d x) (.func y ya yb) = True := rfl
theorem ap_d_ptr {x : Dat} {i v e o : Nat} : apart (.d x) (.ptr i v e o) = True := rfl
theorem ap_ptr_d {i v e o : Nat} {y : Dat} : apart (.ptr i v e o) (.d y) = True := rfl
theorem aggL_d {x : Dat} : aggL (.d x) = [] := rfl
theorem rsOf_d {x : Dat} : rsOf (.d x) = .nilptr := rfl
theorem ap_lit_d {x : List (List Dat)} {y : Dat} : apart (.lit x) (.d y) = True := rfl
theorem ap_lit_lit {x : List (List Dat)} {y : List (List Dat)} : apart (.lit x) (.lit y) = True := rfl
theorem ap_lit_nil {x : List (List Dat)}  : apart (.lit x) .nilptr = True := rfl
theorem ap_lit_map {x : List (List Dat)} {y : Nat} : apart (.lit x) (.map y) = True := rfl
theorem ap_lit_nilmap {x : List (List Dat)}  : apart (.lit x) .nilmap = True := rfl
theorem ap_lit_agg {x : List (List Dat)} {y : List AV} : apart (.lit x) (.agg y) = True := rfl
theorem ap_lit_func {x : List (List Dat)} {y : FuncId} {ya yb : List AV} : apart (.lit x) (.func y ya yb) = True := rfl
theorem ap_lit_ptr {x : List (List Dat)} {i v e o : Nat} : apart (.lit x) (.ptr i v e o) = True := rfl
theorem ap_ptr_lit {i v e o : Nat} {y : List (List Dat)} : apart (.ptr i v e o) (.lit y) = True := rfl
theorem aggL_lit {x : List (List Dat)} : aggL (.lit x) = [] := rfl
theorem rsOf_lit {x : List (List Dat)} : rsOf (.lit x) = .nilptr := rfl
theorem ap_nil_d  {y : Dat} : apart .nilptr (.d y) = True := rfl
theorem ap_nil_lit  {y : List (List Dat)} : apart .nilptr (.lit y) = True := rfl
theorem ap_nil_nil   : apart .nilptr .nilptr = True := rfl
theorem ap_nil_map  {y : Nat} : apart .nilptr (.map y) = True := rfl
theorem ap_nil_nilmap   : apart .nilptr .nilmap = True := rfl
theorem ap_nil_agg  {y : List AV} : apart .nilptr (.agg y) = True := rfl
theorem ap_nil_func  {y : FuncId} {ya yb : List AV} : apart .nilptr (.func y ya yb) = True := rfl
theorem ap_nil_ptr  {i v e o : Nat} : apart .nilptr (.ptr i v e o) = True := rfl
theorem ap_ptr_nil {i v e o : Nat}  : apart (.ptr i v e o) .nilptr = True := rfl
theorem aggL_nil  : aggL .nilptr = [] := rfl
theorem rsOf_nil  : rsOf .nilptr = .nilptr := rfl
theorem ap_map_d {x : Nat} {y : Dat} : apart (.map x) (.d y) = True := rfl
theorem ap_map_lit {x : Nat} {y : List (List Dat)} : apart (.map x) (.lit y) = True := rfl
theorem ap_map_nil {x : Nat}  : apart (.map x) .nilptr = True := rfl
theorem ap_map_nilmap {x : Nat}  : apart (.map x) .nilmap = True := rfl
theorem ap_map_agg {x : Nat} {y : List AV} : apart (.map x) (.agg y) = True := rfl
theorem ap_map_func {x : Nat} {y : FuncId} {ya yb : List AV} : apart (.map x) (.func y ya yb) = True := rfl
theorem aggL_map {x : Nat} : aggL (.map x) = [] := rfl
theorem rsOf_map {x : Nat} : rsOf (.map x) = .nilptr := rfl
theorem ap_nilmap_d  {y : Dat} : apart .nilmap (.d y) = True := rfl
theorem ap_nilmap_lit  {y : List (List Dat)} : apart .nilmap (.lit y) = True := rfl
theorem ap_nilmap_nil   : apart .nilmap .nilptr = True := rfl
theorem ap_nilmap_map  {y : Nat} : apart .nilmap (.map y) = True := rfl
theorem ap_nilmap_nilmap   : apart .nilmap .nilmap = True := rfl
theorem ap_nilmap_agg  {y : List AV} : apart .nilmap (.agg y) = True := rfl
theorem ap_nilmap_func  {y : FuncId} {ya yb : List AV} : apart .nilmap (.func y ya yb) = True := rfl
theorem ap_nilmap_ptr  {i v e o : Nat} : apart .nilmap (.ptr i v e o) = True := rfl
theorem ap_ptr_nilmap {i v e o : Nat}  : apart (.ptr i v e o) .nilmap = True := rfl
theorem aggL_nilmap  : aggL .nilmap = [] := rfl
theorem rsOf_nilmap  : rsOf .nilmap = .nilptr := rfl
theorem ap_agg_d {x : List AV} {y : Dat} : apart (.agg x) (.d y) = True := rfl
theorem ap_agg_lit {x : List AV} {y : List (List Dat)} : apart (.agg x) (.lit y) = True := rfl
theorem ap_agg_nil {x : List AV}  : apart (.agg x) .nilptr = True := rfl
theorem ap_agg_map {x : List AV} {y : Nat} : apart (.agg x) (.map y) = True := rfl
theorem ap_agg_nilmap {x : List AV}  : apart (.agg x) .nilmap = True := rfl
theorem ap_agg_agg {x : List AV} {y : List AV} : apart (.agg x) (.agg y) = True := rfl
theorem ap_agg_func {x : List AV} {y : FuncId} {ya yb : List AV} : apart (.agg x) (.func y ya yb) = True := rfl
theorem ap_agg_ptr {x : List AV} {i v e o : Nat} : apart (.agg x) (.ptr i v e o) = True := rfl
theorem ap_ptr_agg {i v e o : Nat} {y : List AV} : apart (.ptr i v e o) (.agg y) = True := rfl
theorem aggL_agg {x : List AV} : aggL (.agg x) = x := rfl
theorem rsOf_agg {x : List AV} : rsOf (.agg x) = .nilptr := rfl
theorem ap_func_d {x : FuncId} {xa xb : List AV} {y : Dat} : apart (.func x xa xb) (.d y) = True := rfl
theorem ap_func_lit {x : FuncId} {xa xb : List AV} {y : List (List Dat)} : apart (.func x xa xb) (.lit y) = True := rfl
theorem ap_func_nil {x : FuncId} {xa xb : List AV}  : apart (.func x xa xb) .nilptr = True := rfl
theorem ap_func_map {x : FuncId} {xa xb : List AV} {y : Nat} : apart (.func x xa xb) (.map y) = True := rfl
theorem ap_func_nilmap {x : FuncId} {xa xb : List AV}  : apart (.func x xa xb) .nilmap = True := rfl
theorem ap_func_agg {x : FuncId} {xa xb : List AV} {y : List AV} : apart (.func x xa xb) (.agg y) = True := rfl
theorem ap_func_func {x : FuncId} {xa xb : List AV} {y : FuncId} {ya yb : List AV} : apart (.func x xa xb) (.func y ya yb) = True := rfl
theorem ap_func_ptr {x : FuncId} {xa xb : List AV} {i v e o : Nat} : apart (.func x xa xb) (.ptr i v e o) = True := rfl
theorem ap_ptr_func {i v e o : Nat} {y : FuncId} {ya yb : List AV} : apart (.ptr i v e o) (.func y ya yb) = True := rfl
theorem aggL_func {x : FuncId} {xa xb : List AV} : aggL (.func x xa xb) = [] := rfl
theorem rsOf_func {x : FuncId} {xa xb : List AV} : rsOf (.func x xa xb) = .nilptr := rfl
theorem ap_nil {b : AV} : apart .nilptr b = True := by cases b <;> rfl
theorem ap_nil' {b : AV} : apart b .nilptr = True := by cases b <;> rfl
theorem ap_ptr_ptr {i v e o j v' e' o' : Nat} : apart (.ptr i v e o) (.ptr j v' e' o') = (i ≠ j) := rfl
theorem aggL_ptr {i v e o : Nat} : aggL (.ptr i v e o) = [] := rfl
theorem rsOf_ptr {i v e o : Nat} : rsOf (.ptr i v e o) = .nilptr := rfl
theorem aggL_rs {i v z o n : Nat} : aggL (.rs i v z o n) = [] := rfl
theorem rsOf_rs {i v z o n : Nat} : rsOf (.rs i v z o n) = .rs i v z o n := rfl
theorem noRsA_nil {X : Prop} : noRsA [] X = X := rfl
theorem noRsA_cons {v : AV} {l : List AV} {X : Prop} : noRsA (v :: l) X = (noRs v = true ∧ noRsA l X) := rfl
theorem noRs_d {x : Dat} : noRs (.d x) = true := rfl
theorem noRs_lit {l : List (List Dat)} : noRs (.lit l) = true := rfl
theorem noRs_nilptr  : noRs .nilptr = true := rfl
theorem noRs_ptr {i v e o : Nat} : noRs (.ptr i v e o) = true := rfl
theorem noRs_nilmap  : noRs .nilmap = true := rfl
theorem noRs_map {i : Nat} : noRs (.map i) = true := rfl
theorem noRs_func {f : FuncId} {a b : List AV} : noRs (.func f a b) = true := rfl
theorem noRs_nilfunc  : noRs .nilfunc = true := rfl
theorem noRs_agg' {l : List AV} : noRs (.agg l) = l.all fun v => match v with | .rs .. => false | _ => true := rfl
theorem box_open {x : AV} {H : AHeap} {K : AV → AHeap → Prop} (hs : x.storable = true) (h : ∀ k G, G k = some (.mem 0 0 x.cells.length [x.cells]) → AHeap.le H G → H k = none → K (.ptr k 0 0 0) G) : newK H (fun n => boxA x n) K := by
  intro n hn
  simp only [boxA, hs, if_true, stepK, optA, AHeap.sets]
  exact h n _ set_self (le_set le_refl' hn) hn
theorem alloc_open {sz : Nat} {z : List AV} {H : AHeap} {K : AV → AHeap → Prop} (h : ∀ k G, G k = some (.mem 0 0 sz [z]) → AHeap.le H G → H k = none → K (.ptr k 0 0 0) G) : newK H (fun n => some (.ptr n 0 0 0, [(n, .mem 0 0 sz [z])])) K := by
  intro n hn
  exact h n _ set_self (le_set le_refl' hn) hn
theorem le_trans' {H H' H'' : AHeap} (h : AHeap.le H H') (k : AHeap.le H' H'') : AHeap.le H H'' := fun i o hi => k i o (h i o hi)

/-! ### bytes -/
def bs (l : List UInt8) : List (List Dat) := l.map fun b => [.int .u8 b.toNat]
theorem bs_length {l : List UInt8} : (bs l).length = l.length := by simp [bs]
theorem bs_nil : bs [] = [] := rfl
theorem bs_append {l m : List UInt8} : bs (l ++ m) = bs l ++ bs m := by simp [bs]
theorem bs_cons {b : UInt8} {l : List UInt8} : bs (b :: l) = [.int .u8 b.toNat] :: bs l := rfl
theorem bytesOfDats_bs : ∀ {l : List UInt8}, bytesOfDats (bs l) = some l
  | [] => rfl
  | b :: l => by rw [bs_cons]; simp only [bytesOfDats, byteOfDat, bytesOfDats_bs (l := l)]; simp
theorem cvBS_bs {nl : Bool} {l : List UInt8} {H : AHeap} : cvBS (.d (.sl nl (bs l))) H = some (.d (.str ⟨l.toArray⟩)) := by simp only [cvBS, elemsOf, bytesOfDats_bs]
theorem cvBS_lit {l : List UInt8} {H : AHeap} : cvBS (.lit (bs l)) H = some (.d (.str ⟨l.toArray⟩)) := by simp only [cvBS, elemsOf, bytesOfDats_bs]
theorem cvBS_nil {nl : Bool} {H : AHeap} : cvBS (.d (.sl nl [])) H = some (.d (.str ⟨#[]⟩)) := rfl
theorem bytes_toList {l : List UInt8} : (⟨l.toArray⟩ : ByteArray).toList = l := by
  rw [ByteArray.toList_eq]
section
variable {P : Program} {n : Nat} {t e : TypeId} {xs : List Dat}
theorem datOk_bool (hu : P.underlying t = some .bool) : DatOk P (n + 1) t xs ↔ ∃ b, xs = [.bool b] := by simp only [DatOk, hu]
theorem datOk_int {k : IntKind} (hu : P.underlying t = some (.int k)) : DatOk P (n + 1) t xs ↔ ∃ i, xs = [.int k i] ∧ (Lit.int k i).wf = true := by simp only [DatOk, hu]
theorem datOk_str (hu : P.underlying t = some .string) : DatOk P (n + 1) t xs ↔ ∃ s : ByteArray, xs = [.str s] ∧ s.size ≤ reachBytes := by simp only [DatOk, hu]
theorem datOk_slice (hu : P.underlying t = some (.slice e)) : DatOk P (n + 1) t xs ↔ ∃ nl l, xs = [.sl nl l] ∧ (nl = true → l = []) ∧ (∀ c ∈ l, DatOk P n e c) ∧ l.length * P.bytesOf e ≤ reachBytes := by simp only [DatOk, hu]
theorem datOk_struct {fs : Array Field} (hu : P.underlying t = some (.struct fs)) : DatOk P (n + 1) t xs ↔ DatFs (DatOk P n) fs.toList xs := by simp only [DatOk, hu]
theorem datOk_array {m : Nat} (hu : P.underlying t = some (.array m e)) : DatOk P (n + 1) t xs ↔ DatArr (DatOk P n e) m xs := by simp only [DatOk, hu]
theorem datFs_cons {R : TypeId → List Dat → Prop} {f : Field} {fs : List Field} : DatFs R (f :: fs) xs ↔ ∃ x y, xs = x ++ y ∧ R f.type x ∧ DatFs R fs y := Iff.rfl
theorem datFs_nil {R : TypeId → List Dat → Prop} : DatFs R [] xs ↔ xs = [] := Iff.rfl
end
theorem DatOk_bytes {P : Program} {n : Nat} {t : TypeId} (ht : P.underlying t = some (.int .u8)) : ∀ {l : List (List Dat)}, (∀ c ∈ l, DatOk P (n + 1) t c) → ∃ bl, l = bs bl
  | [], _ => ⟨[], rfl⟩
  | c :: l, h => by
    obtain ⟨bl, hbl⟩ := DatOk_bytes ht (l := l) fun c hc => h c (by simp [hc])
    subst hbl
    have := h c (by simp)
    simp only [DatOk, ht] at this
    obtain ⟨i, rfl, hw⟩ := this
    have hb := Go.bounds_u8 hw
    refine ⟨UInt8.ofNat i.toNat :: bl, ?_⟩
    rw [bs_cons]
    simp only [List.cons.injEq, and_true, Dat.int.injEq, true_and]
    rw [UInt8.toNat_ofNat']
    omega
end Go.AM

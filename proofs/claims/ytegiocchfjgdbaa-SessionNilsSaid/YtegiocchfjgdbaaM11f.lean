/- The example of sessions: the client is open. -/
import Derived.Test.YtegiocchfjgdbaaM11e
set_option autoImplicit false
set_option maxRecDepth 100000
set_option linter.unusedVariables false
set_option linter.unusedSimpArgs false
namespace Go.Proofs.Ytegiocchfjgdbaa
open Go Go.AM Go.Proofs
theorem opened_c {H : AHeap} {c : Nat} (hc : H c = some (cObjW 1 0 0 3)) {K : AV → AHeap → Prop} (h : K (.tup []) (H.set c (cObjW 2 1 0 3))) : CallsA Try.prog 44 [.ptr c 0 0 0, fd.av] H K := by
  apply C44
  unfold S44
  refine box_open rfl fun u G hG hle hu => ?_
  have c1 := hle _ _ hc
  have cu := le_ne hc hu
  have hG : G u = some (.mem 0 0 5 [fd.cells]) := hG
  simp only [fd, Fr.cells] at hG
  simp only [nilCk_ptr, ti56_f0, ti56_f2, ti56_f3, ti56_f13, ti56_f14, ti24_f1, ti24_f2, ti24_f3, getM_of c1, getM_of hG, Int.reduceEq, not_true_eq_false, not_false_eq_true, decide_true, decide_false, stoA_agg, stoA_get, stoM, setCells, and_self, true_and, Nat.le_refl, Nat.reduceLeDiff, List.cons_append, List.set_cons_zero, List.getElem?_cons_zero, go_sem]
  exact ⟨cu, _, le_same hle, h⟩
theorem cltake1_c {H : AHeap} {c : Nat} (hc : H c = some (cObjW 1 0 0 3)) {K : AV → AHeap → Prop} (h : K (.tup [.d (.sl true []), .d (.int .i64 0)]) (H.set c (cObjW 2 1 0 3))) : CallsA Try.prog 20 [.ptr c 0 0 0, fd.av] H K := by
  apply C20
  unfold S20
  refine box_open rfl fun u G hG hle hu => ?_
  have c1 := hle _ _ hc
  simp only [frzLK_ptr, frzLK_nil]
  refine cnone_c c1 ?_
  have hG : G u = some (.mem 0 0 5 [fd.cells]) := hG
  simp only [fd, Fr.cells] at hG
  simp only [getM_of hG, go_sem]
  refine valid_c (f := fd) ?_
  rw [show decide fd.Valid = true by decide]
  simp only [Bool.not_true, ti24_f0, getM_of hG, decide_true, go_sem]
  refine opened_c c1 ?_
  exact ⟨_, le_same hle, h⟩
/-- The frame of the write, and the digits. -/
def fw : Fr := ⟨7, 1, 0, 10, false, [119]⟩
def ten : List UInt8 := [48, 49, 50, 51, 52, 53, 54, 55, 56, 57]
abbrev cObjF (f : Nat) (wait : Int) : AObj := .mem 0 0 15 [[.d (.int .i64 1), .d (.int .i64 1), .d (.int .i64 2), .d (.int .i64 1), .d (.int .i64 0), .ptr f 0 0 0, .d (.sl false (bs ten)), .d (.int .i64 wait), .d (.int .i64 0), .d (.sl true []), .d (.bool false), .d (.sl true []), .d (.int .i64 0), .d (.int .i64 0), .d (.int .i64 0)]]
theorem copyOf_c {f : Fr} (hl : f.data.length < 2 ^ 40) (hnl : f.nl = true → f.data = []) {H : AHeap} {K : AV → AHeap → Prop} (h : K f.av H) : CallsA Try.prog 45 [f.av] H K := by
  apply C45
  unfold S45
  refine box_open rfl fun u G hG hle hu => ?_
  have hG : G u = some (.mem 0 0 5 [f.cells]) := hG
  refine alloc_open fun u2 G2 hG2 hle2 hu2 => ?_
  have u_2 := hle2 _ _ hG
  have uu := le_ne hG hu2
  simp only [ti24_f4, getM_of u_2, go_sem]
  refine cloneB_c hl hnl ?_
  simp only [ti24_f4, getM_of u_2, getM_of hG2, getM_set, getM_ne (Ne.symm uu), getM_ne uu, stoA_agg, stoA_get, stoM, setCells, and_self, true_and, Nat.le_refl, Nat.reduceLeDiff, List.cons_append, List.set_cons_zero, List.getElem?_cons_zero, go_sem]
  exact ⟨_, fun i o hi => by
    have h1 := le_ne hi hu
    have h2 := hle _ _ hi
    rw [set_ne (le_ne h2 hu2), set_ne h1]; exact hle2 _ _ h2, h⟩
theorem nilP0 : nilA 3 .neq .nilptr .nilptr = some (.d (.bool false)) := rfl
theorem bd24_w {a b c d : Dat} {H : AHeap} : bdA Try.prog ti24 [0, 1, 2, 4] [.d a, .d b, .d c, .d d] H = some (.agg [.d a, .d b, .d c, .d (.int .i64 0), .d d], []) := by
  simp only [bdA, bd24, cell3, cell40, cell22, fillA, setCells, List.zip_cons_cons, List.zip_nil_right, Option.map_some, Nat.reduceLeDiff, List.cons_append, go_sem]
theorem ten_len : (ten.length : Int) = 10 := rfl
theorem send_c {H : AHeap} {c : Nat} (hc : H c = some (cObjW 2 1 0 3)) {K : AV → AHeap → Prop}
    (hk : ∀ f H', H' c = some (cObjF f 3) → H' f = some (.mem 0 0 5 [fw.cells]) → H f = none → (∀ i o, i ≠ c → H i = some o → H' i = some o) → K (.tup [fw.av, .d (.int .i64 0)]) H') :
    CallsA Try.prog 43 [.ptr c 0 0 0, .d (.int .i64 7), .d (.sl false (bs [119])), .d (.sl false (bs ten))] H K := by
  apply C43
  unfold S43
  refine alloc_open fun u G hG hle hu => ?_
  have c1 := hle _ _ hc
  simp only [frzLK_ptr, frzLK_nil]
  refine cnone_c c1 ?_
  simp only [nilCk_ptr, ti56_f2, ti56_f3, ti56_f4, ti56_f5, getM_of c1, lenSl_d, bs_length, nilP0, ten_len, Int.reduceEq, not_true_eq_false, not_false_eq_true, decide_true, decide_false, go_sem]
  rw [if_neg (by decide), if_neg (by decide)]
  refine ⟨_, cloneB_c (by decide) (by decide) ⟨rfl, le_refl'⟩, ?_⟩
  simp only [bd24_w, optA_some, stepK_some, sets_nil', aggL_d, noRsA_nil]
  refine alloc_open fun f G2 hG2 hle2 hf => ?_
  have c2 := hle2 _ _ c1
  have cf := le_ne c1 hf
  have uf := le_ne hG hf
  have u2 := hle2 _ _ hG
  simp only [getM_of hG2, getM_set, ti24_f3, stoA_agg, stoA_get, stoM, setCells, and_self, true_and, Nat.le_refl, Nat.reduceLeDiff, List.cons_append, List.set_cons_zero, List.getElem?_cons_zero, go_sem]
  refine cloneB_c (by decide) (by decide) ?_
  have cu := le_ne hc hu
  simp only [getM_of hG2, getM_of c2, getM_of u2, getM_set, getM_ne cf, getM_ne (Ne.symm cf), getM_ne uf, ti56_f6, ti56_f7, ti56_f10, stoA_agg, stoA_get, stoM, setCells, and_self, true_and, Nat.le_refl, Nat.reduceLeDiff, List.cons_append, List.set_cons_zero, List.getElem?_cons_zero, go_sem]
  refine copyOf_c (f := fw) (by decide) (by decide) ?_
  simp only [getM_of hG2, getM_of c2, getM_of u2, getM_set, getM_ne (Ne.symm cu), getM_ne cf, getM_ne (Ne.symm cf), getM_ne uf, ti56_f6, ti56_f7, ti56_f10, stoA_agg, stoA_get, stoM, setCells, and_self, true_and, Nat.le_refl, Nat.reduceLeDiff, List.cons_append, List.set_cons_zero, List.getElem?_cons_zero, go_sem]
  exact ⟨_, le_refl', hk f _ (by rw [set_ne cu, set_self]) (by rw [set_ne (Ne.symm uf), set_ne (Ne.symm cf), set_self]; rfl) (le_none hle hf) fun i o hi ho => by
    have h1 := hle _ _ ho
    rw [set_ne (le_ne ho hu), set_ne hi, set_ne (le_ne h1 hf)]
    exact hle2 _ _ h1⟩
theorem write_c {H : AHeap} {c : Nat} (hc : H c = some (cObjW 2 1 0 3)) {K : AV → AHeap → Prop}
    (hk : ∀ f H', H' c = some (cObjF f 3) → H' f = some (.mem 0 0 5 [fw.cells]) → H f = none → (∀ i o, i ≠ c → H i = some o → H' i = some o) → K (.tup [fw.av, .d (.int .i64 0)]) H') :
    CallsA Try.prog 19 [.ptr c 0 0 0, .d (.sl false (bs [119])), .d (.sl false (bs ten))] H K := by
  apply C19
  unfold S19
  refine alloc_open fun u G hG hle hu => ?_
  have cu := le_ne hc hu
  simp only [go_sem]
  refine send_c (hle _ _ hc) fun f H' h1 h2 h3 h4 => ?_
  have hu' := h4 u _ (Ne.symm cu) hG
  have uf : u ≠ f := le_ne hG h3
  simp only [getM_of hu', getM_set, stoA_agg, stoA_get, stoM, setCells, and_self, true_and, Nat.le_refl, Nat.reduceLeDiff, List.cons_append, List.set_cons_zero, List.getElem?_cons_zero, go_sem]
  exact ⟨_, le_refl', hk f _ (by rw [set_ne cu]; exact h1) (by rw [set_ne (Ne.symm uf)]; exact h2) (le_none hle h3) fun i o hi ho => by
    rw [set_ne (le_ne ho hu)]; exact h4 _ _ hi (hle _ _ ho)⟩
abbrev oObjW : AObj := .mem 0 0 12 [[.d (.int .i64 1), .d (.int .i64 0), .d (.bool false), .d (.int .i64 4), .d (.sl false (bs [119])), .d (.sl true []), .nilptr, .d (.sl true []), .d (.int .i64 0), .d (.int .i64 0), .d (.int .i64 0), .d (.int .i64 0)]]
theorem min10 : foldA min2A [.d (.int .i64 10), .d (.int .i64 4)] = some (.d (.int .i64 4)) := rfl
theorem bd24_go {a b c d : Dat} {H : AHeap} : bdA Try.prog ti24 [0, 1, 2, 3] [.d a, .d b, .d c, .d d] H = some (.agg [.d a, .d b, .d c, .d d, .d (.sl true [])], []) := by
  simp only [bdA, bd24, cell3, fillA, setCells, List.zip_cons_cons, List.zip_nil_right, Option.map_some, Nat.reduceLeDiff, List.cons_append, go_sem]
theorem bs24_1 {a b c d e : Dat} {H : AHeap} {n : Nat} : bsA ti24 1 [0] [.agg [.d a, .d b, .d c, .d d, .d e]] H n = some (.lit [[a, b, c, d, e]], []) := rfl
/-- The frame that lets it go on. -/
def fg : Fr := ⟨8, 1, 0, 4, true, []⟩
abbrev Fr.dats (f : Fr) : List Dat := [.int .i64 f.kind, .int .i64 f.id, .int .i64 f.seq, .int .i64 f.n, .sl f.nl (bs f.data)]
theorem otake_c {H : AHeap} {x : Nat} (hx : H x = some (oObj 0)) {K : AV → AHeap → Prop} (hk : K (.d (.sl false [fg.dats])) (H.set x oObjW)) : CallsA Try.prog 35 [.ptr x 0 0 0, fw.av, .d (.int .i64 4)] H K := by
  apply C35
  unfold S35
  refine box_open rfl fun u G hG hle hu => ?_
  have x1 := hle _ _ hx
  have xu := le_ne hx hu
  have hG : G u = some (.mem 0 0 5 [fw.cells]) := hG
  simp only [fw, Fr.cells] at hG
  simp only [nilCk_ptr, ti68_f1, ti68_f2, ti68_f3, ti68_f4, ti24_f0, ti24_f1, ti24_f2, ti24_f3, ti24_f4, getM_of x1, getM_of hG, Int.reduceEq, Int.reduceNe, Int.reduceLT, Int.reduceLE, not_true_eq_false, not_false_eq_true, decide_true, decide_false, Int.reduceAdd, Int.reduceSub, Int.reduceMul, Bool.not_false, Bool.not_true, go_sem]
  refine cloneB_c (by decide) (by decide) ?_
  simp only [nilCk_ptr, ti68_f1, ti68_f2, ti68_f3, ti68_f4, ti24_f0, ti24_f1, ti24_f2, ti24_f3, ti24_f4, getM_of x1, getM_of hG, getM_set, getM_ne (Ne.symm xu), min10, bd24_go, bs24_1, stoA_agg, stoA_get, stoM, setCells, and_self, true_and, Nat.le_refl, Nat.reduceLeDiff, List.cons_append, List.set_cons_zero, List.getElem?_cons_zero, Int.reduceEq, Int.reduceNe, Int.reduceLT, Int.reduceLE, not_true_eq_false, not_false_eq_true, decide_true, decide_false, Int.reduceAdd, Int.reduceSub, Int.reduceMul, go_sem]
  refine ⟨xu, fun n hn => ?_⟩
  simp only [go_sem]
  exact ⟨_, le_same hle, hk⟩
theorem stake2_c {H : AHeap} {s m g x : Nat} (hs : H s = some (sObj m g 1)) (hm : H m = some (.map [⟨.int .i64 1, .ptr x 0 0 0, 0⟩] 1)) (hx : H x = some (oObj 0)) {K : AV → AHeap → Prop}
    (hk : K (.tup [.d (.sl false [fg.dats]), .d (.int .i64 0)]) (H.set x oObjW)) : CallsA Try.prog 8 [.ptr s 0 0 0, fw.av] H K := by
  apply C8
  unfold S8
  refine box_open rfl fun u G hG hle hu => ?_
  have s1 := hle _ _ hs
  have m1 := hle _ _ hm
  have x1 := hle _ _ hx
  have xu := le_ne hx hu
  have xs : s ≠ x := fun he => by subst he; rw [hs] at hx; cases hx
  simp only [frzLK_ptr, frzLK_nil]
  refine snone_c s1 ?_
  have hG : G u = some (.mem 0 0 5 [fw.cells]) := hG
  simp only [fw, Fr.cells] at hG
  simp only [getM_of hG, go_sem]
  refine valid_c (f := fw) ?_
  rw [show decide fw.Valid = true by decide]
  have lk : lookA .nilptr (.map m) (.d (.int .i64 1)) false G = some (.ptr x 0 0 0) := by simp only [lookA, m1, findE, keyEq_int]; rfl
  simp only [Bool.not_true, ti24_f0, ti24_f1, ti53_f2, ti53_f3, ti68_f11, nilCk_ptr, getM_of hG, getM_of s1, getM_of x1, getM_ne xs, getM_ne (Ne.symm xu), keyInt, lk, nilP_eql, stoA_agg, stoA_get, stoM, setCells, and_self, true_and, Nat.le_refl, Nat.reduceLeDiff, List.cons_append, List.set_cons_zero, List.getElem?_cons_zero, Int.reduceEq, Int.reduceNe, Int.reduceLT, Int.reduceLE, not_true_eq_false, not_false_eq_true, decide_true, decide_false, Int.reduceAdd, Int.reduceSub, Int.reduceMul, go_sem]
  refine otake_c set_self ?_
  simp only [go_sem]
  exact ⟨_, le_same hle, hk⟩
theorem sl4 {H : AHeap} : sliceA 1 (.d (.sl false (bs ten))) none (some (.d (.int .i64 4))) none H = some (.d (.sl false (bs [48, 49, 50, 51]))) := rfl
def f9 : Fr := ⟨9, 1, 0, 0, false, [48, 49, 50, 51]⟩
theorem cltake2_c {H : AHeap} {c f : Nat} (hc : H c = some (cObjF f 3)) (hf : H f = some (.mem 0 0 5 [fw.cells])) {K : AV → AHeap → Prop} (h : K (.tup [.d (.sl false [f9.dats]), .d (.int .i64 0)]) (H.set c (cObjF f 3))) : CallsA Try.prog 20 [.ptr c 0 0 0, fg.av] H K := by
  apply C20
  unfold S20
  refine box_open rfl fun u G hG hle hu => ?_
  have c1 := hle _ _ hc
  have f1 := hle _ _ hf
  simp only [fw, Fr.cells] at f1
  have cu := le_ne hc hu
  have fu := le_ne hf hu
  have fc : f ≠ c := fun he => by subst he; rw [hc] at hf; cases hf
  simp only [frzLK_ptr, frzLK_nil]
  refine cnone_c c1 ?_
  have hG : G u = some (.mem 0 0 5 [fg.cells]) := hG
  simp only [fg, Fr.cells] at hG
  simp only [getM_of hG, go_sem]
  refine valid_c (f := fg) ?_
  rw [show decide fg.Valid = true by decide]
  simp only [Bool.not_true, nilCk_ptr, ti24_f0, ti24_f1, ti24_f2, ti24_f3, ti56_f2, ti56_f3, ti56_f4, ti56_f5, ti56_f6, ti56_f14, getM_of hG, getM_of c1, getM_of f1, getM_ne fc, getM_ne (Ne.symm cu), getM_ne (Ne.symm fu), nilP_neq, lenSl_d, bs_length, ten_len, min10, sl4, stoA_agg, stoA_get, stoM, setCells, and_self, true_and, Nat.le_refl, Nat.reduceLeDiff, List.cons_append, List.set_cons_zero, List.getElem?_cons_zero, Int.reduceEq, Int.reduceNe, Int.reduceLT, Int.reduceLE, not_true_eq_false, not_false_eq_true, decide_true, decide_false, Int.reduceAdd, Int.reduceSub, Int.reduceMul, go_sem]
  refine cloneB_c (by decide) (by decide) ?_
  simp only [bd24_w, bs24_1, getM_set, go_sem]
  intro n hn
  simp only [go_sem]
  exact ⟨_, le_same hle, h⟩
theorem bs3_1 {H : AHeap} {n : Nat} {k : Dat} : bsA ti3 1 [0] [.d k] H n = some (.lit [[k]], []) := rfl
theorem ixF {a : List Dat} (h : a.length = 5) : indexAddrA ti29 5 (.d (.sl false [a])) (.d (.int .i64 0)) = some (.vptr a 0) := by
  simp [indexAddrA, ti29, h]
theorem fg_dats : fg.dats = [.int .i64 8, .int .i64 1, .int .i64 0, .int .i64 4, .sl true []] := rfl
theorem f9_dats : f9.dats = [.int .i64 9, .int .i64 1, .int .i64 0, .int .i64 0, .sl false (bs [48, 49, 50, 51])] := rfl
theorem first_c {H : AHeap} {K : AV → AHeap → Prop} (hk : K (.d (.bool true)) H) : CallsA Try.prog 7 [] H K := by
  apply C7
  unfold S7
  simp only [bs3_1, go_sem]
  intro n hn
  simp only [go_sem]
  refine newServer_c fun s m g H1 s1 m1 g1 hmg l1 ns nm ng => ?_
  simp only [go_sem]
  refine newClient_c fun c H2 c2 l2 nc => ?_
  have s2 := l2 _ _ s1
  have m2 := l2 _ _ m1
  have g2 := l2 _ _ g1
  simp only [nilP_eql, Int.reduceEq, Int.reduceNe, Int.reduceLT, Int.reduceLE, not_true_eq_false, not_false_eq_true, decide_true, decide_false, Int.reduceAdd, Int.reduceSub, Int.reduceMul, go_sem]
  have cs : s ≠ c := le_ne s1 nc
  have cm : m ≠ c := le_ne m1 nc
  have cg : g ≠ c := le_ne g1 nc
  have sm : s ≠ m := fun he => by subst he; rw [s1] at m1; cases m1
  have sg : s ≠ g := fun he => by subst he; rw [s1] at g1; cases g1
  refine open_c c2 ?_
  simp only [go_sem]
  refine alloc_open fun u G hG hle hu => ?_
  simp only [getM_of hG, getM_set, stoA_agg, stoA_get, stoM, setCells, and_self, true_and, Nat.le_refl, Nat.reduceLeDiff, List.cons_append, List.set_cons_zero, List.getElem?_cons_zero, Int.reduceEq, Int.reduceNe, Int.reduceLT, Int.reduceLE, not_true_eq_false, not_false_eq_true, decide_true, decide_false, Int.reduceAdd, Int.reduceSub, Int.reduceMul, go_sem]
  obtain ⟨hu2, hu1⟩ := set_none.1 hu
  have su : s ≠ u := le_ne s2 hu1
  have mu : m ≠ u := le_ne m2 hu1
  have gu : g ≠ u := le_ne g2 hu1
  have cu : c ≠ u := Ne.symm hu2
  have lH : ∀ i o, H i = some o → H2 i = some o := fun i o h => l2 _ _ (l1 _ _ h)
  have lHu : ∀ i o, H i = some o → (G.set u (.mem 0 0 5 [fo.cells])) i = some o := fun i o h => by
    rw [set_ne (le_ne (lH _ _ h) hu1)]
    exact hle _ _ (by rw [set_ne (le_ne (l1 _ _ h) nc)]; exact lH _ _ h)
  have sG : (G.set u (.mem 0 0 5 [fo.cells])) s = some (sObj m g 0) := by rw [set_ne su]; exact hle _ _ (by rw [set_ne cs]; exact s2)
  have mG : (G.set u (.mem 0 0 5 [fo.cells])) m = some (.map [] 0) := by rw [set_ne mu]; exact hle _ _ (by rw [set_ne cm]; exact m2)
  have gG : (G.set u (.mem 0 0 5 [fo.cells])) g = some (.map [] 0) := by rw [set_ne gu]; exact hle _ _ (by rw [set_ne cg]; exact g2)
  have cG : (G.set u (.mem 0 0 5 [fo.cells])) c = some (cObjW 1 0 0 3) := by rw [set_ne cu]; exact hle _ _ set_self
  generalize (G.set u (.mem 0 0 5 [fo.cells])) = G1 at *
  refine stake1_c sG mG gG fun x H3 s3 m3 x3 nx l3 => ?_
  have c3 := l3 c _ (Ne.symm cs) (Ne.symm cm) cG
  have cx : c ≠ x := le_ne cG nx
  have sx : s ≠ x := le_ne sG nx
  have mx : m ≠ x := le_ne mG nx
  simp only [extractA_0, extractA_1, optA_some, intA_neq, lenSl_d, List.length_cons, List.length_nil, Int.reduceEq, Int.reduceNe, Int.reduceLT, Int.reduceLE, not_true_eq_false, not_false_eq_true, decide_true, decide_false, Int.reduceAdd, Int.reduceSub, Int.reduceMul, ifA_f, ifA_bool', if_false]
  rw [if_neg (by decide)]
  simp only [ixF (a := [.int .i64 2, .int .i64 1, .int .i64 0, .int .i64 1, .sl true []]) rfl, go_sem]
  refine cltake1_c c3 ?_
  have s4 : (H3.set c (cObjW 2 1 0 3)) s = some (sObj m g 1) := by rw [set_ne cs]; exact s3
  have m4 : (H3.set c (cObjW 2 1 0 3)) m = some (.map [⟨.int .i64 1, .ptr x 0 0 0, 0⟩] 1) := by rw [set_ne cm]; exact m3
  have x4 : (H3.set c (cObjW 2 1 0 3)) x = some (oObj 0) := by rw [set_ne (Ne.symm cx)]; exact x3
  refine write_c set_self fun f H4 c4 f4 nf l4 => ?_
  have s5 := l4 s _ cs s4
  have m5 := l4 m _ cm m4
  have x5 := l4 x _ (Ne.symm cx) x4
  have cf : c ≠ f := le_ne set_self nf
  have sf : s ≠ f := le_ne s4 nf
  have mf : m ≠ f := le_ne m4 nf
  have xf : x ≠ f := le_ne x4 nf
  simp only [extractA_0, extractA_1, optA_some]
  refine alloc_open fun u2 G2 hG2 hle2 hu2' => ?_
  simp only [getM_of hG2, getM_set, stoA_agg, stoA_get, stoM, setCells, and_self, true_and, Nat.le_refl, Nat.reduceLeDiff, List.cons_append, List.set_cons_zero, List.getElem?_cons_zero, Int.reduceEq, Int.reduceNe, Int.reduceLT, Int.reduceLE, not_true_eq_false, not_false_eq_true, decide_true, decide_false, Int.reduceAdd, Int.reduceSub, Int.reduceMul, go_sem]
  have c6 := hle2 _ _ c4
  have s6 := hle2 _ _ s5
  have m6 := hle2 _ _ m5
  have x6 := hle2 _ _ x5
  have f6 := hle2 _ _ f4
  have cu2 := le_ne c4 hu2'
  have su2 := le_ne s5 hu2'
  have mu2 := le_ne m5 hu2'
  have xu2 := le_ne x5 hu2'
  have fu2 := le_ne f4 hu2'
  refine stake2_c (by rw [set_ne su2]; exact s6) (by rw [set_ne mu2]; exact m6) (by rw [set_ne xu2]; exact x6) ?_
  simp only [extractA_0, extractA_1, optA_some, intA_neq, lenSl_d, List.length_cons, List.length_nil, Int.reduceEq, Int.reduceNe, Int.reduceLT, Int.reduceLE, not_true_eq_false, not_false_eq_true, decide_true, decide_false, Int.reduceAdd, Int.reduceSub, Int.reduceMul, ifA_f, ifA_bool', if_false]
  rw [if_neg (by decide)]
  simp only [fg_dats, ixF (a := [.int .i64 8, .int .i64 1, .int .i64 0, .int .i64 4, .sl true []]) rfl, ti24_v0, ti24_v3, Int.reduceEq, Int.reduceNe, Int.reduceLT, Int.reduceLE, not_true_eq_false, not_false_eq_true, decide_true, decide_false, Int.reduceAdd, Int.reduceSub, Int.reduceMul, go_sem]
  refine cltake2_c (f := f) (by rw [set_ne cx, set_ne cu2]; exact c6) (by rw [set_ne (Ne.symm xf), set_ne fu2]; exact f6) ?_
  simp only [extractA_0, extractA_1, optA_some, lenSl_d, List.length_cons, List.length_nil, Int.reduceEq, Int.reduceNe, Int.reduceLT, Int.reduceLE, not_true_eq_false, not_false_eq_true, decide_true, decide_false, Int.reduceAdd, Int.reduceSub, Int.reduceMul, go_sem]
  rw [if_pos (by decide)]
  simp only [f9_dats, ixF (a := [.int .i64 9, .int .i64 1, .int .i64 0, .int .i64 0, .sl false (bs [48, 49, 50, 51])]) rfl, ti24_v4, Int.reduceEq, Int.reduceNe, Int.reduceLT, Int.reduceLE, not_true_eq_false, not_false_eq_true, decide_true, decide_false, Int.reduceAdd, Int.reduceSub, Int.reduceMul, go_sem]
  refine ⟨H, fun i o hi => ?_, k_bool hk (by simp)⟩
  have h1 := lHu i o hi
  have hic := le_ne (l1 _ _ hi) nc
  have hi3 := l3 i o (le_ne hi ns) (le_ne hi nm) h1
  have hi4 := l4 i o hic (by rw [set_ne hic]; exact hi3)
  rw [set_ne hic, set_ne (le_ne h1 nx), set_ne (le_ne hi4 hu2')]
  exact hle2 _ _ hi4
theorem valid_law {f : Fr} : CallsA Try.prog 3 [f.av] noHeap fun v _ => v = .d (.bool true) := by
  apply C3
  unfold S3
  refine box_open rfl fun k G hG hle hk => ?_
  have hG : G k = some (.mem 0 0 5 [f.cells]) := hG
  simp only [getM_of hG, go_sem]
  refine ⟨_, valid_c (f := f) ⟨rfl, le_refl'⟩, ?_⟩
  refine ⟨_, rvalid_c (f := f) ⟨rfl, le_refl'⟩, ?_⟩
  simp only [beq_self_eq_true, go_sem]
  refine ⟨_, first_c ⟨rfl, le_refl'⟩, ?_⟩
  simp only [go_sem]
  exact ⟨_, hle, rfl⟩
theorem fr_open {xs : List Dat} (h : DatOk Try.prog 9 24 xs) : ∃ f : Fr, argAV (aggT Try.prog 24) xs = f.av ∧ f.data.length ≤ 2 ^ 47 ∧ (f.nl = true → f.data = []) := by
  rw [datOk_struct Try.underlying24] at h
  simp only [datFs_cons, datFs_nil] at h
  obtain ⟨x0, y0, rfl, h0, x1, y1, rfl, h1, x2, y2, rfl, h2, x3, y3, rfl, h3, x4, y4, rfl, h4, rfl⟩ := h
  simp only [datOk_int Try.underlying3, datOk_slice Try.underlying22] at h0 h1 h2 h3 h4
  obtain ⟨a0, rfl, w0⟩ := h0
  obtain ⟨a1, rfl, w1⟩ := h1
  obtain ⟨a2, rfl, w2⟩ := h2
  obtain ⟨a3, rfl, w3⟩ := h3
  obtain ⟨nl, l, rfl, hnl, hl, hlen⟩ := h4
  obtain ⟨bl, rfl⟩ := DatOk_bytes Try.underlying5 hl
  refine ⟨⟨a0, a1, a2, a3, nl, bl⟩, ?_, ?_, fun h => ?_⟩
  · rw [show aggT Try.prog 24 = true by kernel_rfl]
    rfl
  · rw [show Try.prog.bytesOf 5 = 1 by kernel_rfl, bs_length] at hlen
    unfold reachBytes at hlen
    show bl.length ≤ _
    omega
  · have := hnl h
    cases bl with
    | nil => rfl
    | cons b r => cases this
theorem valid_row (xs : List Dat) (h : DatOk Try.prog 9 24 xs) : CallsA Try.prog 3 [argAV (aggT Try.prog 24) xs] noHeap fun v _ => v = .d (.bool true) := by
  obtain ⟨f, hf, _⟩ := fr_open h
  rw [hf]
  exact valid_law
end Go.Proofs.Ytegiocchfjgdbaa

/- Several of my texts as one. -/
import Derived.Test.YtofjhihigmimbaaG10b
import Derived.Test.YtofjhihigmimbaaT10c
import Derived.Test.YtofjhihigmimbaaA29
set_option linter.unnecessarySimpa false
set_option autoImplicit false
set_option maxRecDepth 100000
set_option linter.unusedVariables false
set_option linter.unusedSimpArgs false
namespace Go.Proofs.Ytofjhihigmimbaa
open Go Go.AM Go.Proofs
structure Rm where
 p : Nat
 id : Int
 state : Int
 b : Nat
 age : Int
 nl : Bool
 ps : List (Bool × List UInt8)
structure Pn where
 id : Int
 many : Int
 b : Nat
def Rm.kv (r : Rm) : Int × AV := (r.id, .ptr r.p 0 0 0)
def Pn.kv (q : Pn) : Int × AV := (q.id, .agg [.d (.int .i64 q.many), .d (.int .i64 q.b)])
abbrev Rm.cells (r : Rm) : List AV := [.d (.int .i64 r.state), .d (.int .i64 r.b), .d (.sl r.nl (pcD r.ps)), .d (.int .i64 r.age)]
abbrev Rm.obj (r : Rm) : AObj := .mem 0 0 4 [r.cells]
structure PcOk (l : List (Bool × List UInt8)) : Prop where
 len : l.length ≤ 8
 ok : ∀ x ∈ l, x.2.length ≤ 64 ∧ (x.1 = true → x.2 = [])
structure Rm.Ok (r : Rm) : Prop where
 id : 0 ≤ r.id ∧ r.id ≤ 65535
 state : r.state = 0 ∨ r.state = 1 ∨ r.state = 2
 b : 1 ≤ r.b ∧ r.b < 256
 age : 0 ≤ r.age ∧ r.age < 30
 pc : PcOk r.ps
 nl : r.nl = true → r.ps = []
 no : r.state ≠ 1 → r.ps = [] ∧ r.nl = true
 yes : r.state = 1 → 1 ≤ r.ps.length
 fresh : r.state = 0 → r.age = 0
structure PS (H : AHeap) (k m mp : Nat) (L : List Rm) (Q : List Pn) (n : Nat) : Prop where
 node : H k = some (.mem 0 0 2 [[.map m, .map mp]])
 map : ∃ es cl, H m = some (.map es cl) ∧ Kv es (L.map Rm.kv) ∧ (∀ e ∈ es, e.born < cl) ∧ (es.map (·.born)).Nodup
 pmap : ∃ es cl, H mp = some (.map es cl) ∧ Kv es (Q.map Pn.kv)
 ne : m ≠ mp
 obj : ∀ r ∈ L, H r.p = some r.obj
 ids : (L.map (·.id)).Nodup
 ps : (L.map (·.p)).Nodup
 qids : (Q.map (·.id)).Nodup
 ok : ∀ r ∈ L, r.Ok
 qok : ∀ q ∈ Q, 1 ≤ q.many ∧ q.many ≤ n ∧ 1 ≤ q.b ∧ q.b < 256
 len : L.length ≤ 100
theorem rkv_fst {L : List Rm} : (L.map Rm.kv).map (·.1) = L.map (·.id) := by simp [Rm.kv]
theorem pkv_fst {Q : List Pn} : (Q.map Pn.kv).map (·.1) = Q.map (·.id) := by simp [Pn.kv]
def sfoot (k m mp : Nat) (L : List Rm) (i : Nat) : Prop := i = k ∨ i = m ∨ i = mp ∨ i ∈ L.map (·.p)
section
variable {H G : AHeap} {k m mp : Nat} {L : List Rm} {Q : List Pn} {n : Nat} {K : AV → AHeap → Prop}
theorem PS.keep (h : PS H k m mp L Q n) (hf : ∀ i, sfoot k m mp L i → G i = H i) : PS G k m mp L Q n := by
 obtain ⟨es, cl, h1, h2⟩ := h.map
 obtain ⟨es2, cl2, g1, g2⟩ := h.pmap
 exact ⟨by rw [hf k (.inl rfl)]; exact h.node, ⟨es, cl, by rw [hf m (.inr (.inl rfl))]; exact h1, h2⟩, ⟨es2, cl2, by rw [hf mp (.inr (.inr (.inl rfl)))]; exact g1, g2⟩, h.ne, fun r hr => by rw [hf r.p (.inr (.inr (.inr (List.mem_map.2 ⟨r, hr, rfl⟩))))]; exact h.obj r hr, h.ids, h.ps, h.qids, h.ok, h.qok, h.len⟩
theorem PS.isS (h : PS H k m mp L Q n) {i : Nat} (hi : sfoot k m mp L i) : (H i).isSome := by
 obtain ⟨es, cl, h1, _⟩ := h.map
 obtain ⟨es2, cl2, g1, _⟩ := h.pmap
 rcases hi with rfl | rfl | rfl | hi
 ·rw [h.node]; rfl
 ·rw [h1]; rfl
 ·rw [g1]; rfl
 ·obtain ⟨r, hr, rfl⟩ := List.mem_map.1 hi
  rw [h.obj r hr]; rfl
theorem PS.le (h : PS H k m mp L Q n) (hle : AHeap.le H G) : PS G k m mp L Q n := h.keep fun i hi => by
 obtain ⟨o, ho⟩ := Option.isSome_iff_exists.1 (h.isS hi)
 rw [ho]; exact hle _ _ ho
theorem PS.on (h : PS H k m mp L Q n) {D : Nat → Prop} (hd : ∀ i, sfoot k m mp L i → D i) : PS (H.only D) k m mp L Q n := h.keep fun i hi => only_in (hd i hi)
theorem PS.mono (h : PS H k m mp L Q n) {n' : Nat} (hn : n ≤ n') : PS H k m mp L Q n' :=
 { h with qok := fun q hq => by have := h.qok q hq; omega }
theorem rid_cases (L : List Rm) (id : Int) : (∃ (i : Nat) (r : Rm), L[i]? = some r ∧ r.id = id) ∨ id ∉ L.map (·.id) := by
 by_cases h : id ∈ L.map (·.id)
 ·obtain ⟨r, hr, he⟩ := List.mem_map.1 h
  obtain ⟨i, hi⟩ := List.getElem?_of_mem hr
  exact .inl ⟨i, r, hi, he⟩
 ·exact .inr h
theorem pid_cases (Q : List Pn) (id : Int) : (∃ (i : Nat) (q : Pn), Q[i]? = some q ∧ q.id = id) ∨ id ∉ Q.map (·.id) := by
 by_cases h : id ∈ Q.map (·.id)
 ·obtain ⟨r, hr, he⟩ := List.mem_map.1 h
  obtain ⟨i, hi⟩ := List.getElem?_of_mem hr
  exact .inl ⟨i, r, hi, he⟩
 ·exact .inr h
theorem PS.look (h : PS H k m mp L Q n) {i : Nat} {r : Rm} (hi : L[i]? = some r) : lookA .nilptr (.map m) (.d (.int .i64 r.id)) false H = some (.ptr r.p 0 0 0) := by
 obtain ⟨es, cl, h1, h2, _⟩ := h.map
 simp only [lookA, h1, findE_kv 0 i h2 (by rw [rkv_fst]; exact h.ids) (show (L.map Rm.kv)[i]? = some (r.id, .ptr r.p 0 0 0) by rw [List.getElem?_map, hi]; rfl), Bool.false_eq_true, if_false]
theorem PS.look_no (h : PS H k m mp L Q n) {id : Int} (hi : id ∉ L.map (·.id)) : lookA .nilptr (.map m) (.d (.int .i64 id)) false H = some .nilptr := by
 obtain ⟨es, cl, h1, h2, _⟩ := h.map
 simp only [lookA, h1, findE_kv_no 0 h2 (by rw [rkv_fst]; exact hi), Bool.false_eq_true, if_false]
theorem PS.plook (h : PS H k m mp L Q n) {z : AV} {i : Nat} {q : Pn} (hi : Q[i]? = some q) : lookA z (.map mp) (.d (.int .i64 q.id)) false H = some (.agg [.d (.int .i64 q.many), .d (.int .i64 q.b)]) := by
 obtain ⟨es, cl, h1, h2⟩ := h.pmap
 simp only [lookA, h1, findE_kv 0 i h2 (by rw [pkv_fst]; exact h.qids) (show (Q.map Pn.kv)[i]? = some (q.id, .agg [.d (.int .i64 q.many), .d (.int .i64 q.b)]) by rw [List.getElem?_map, hi]; rfl), Bool.false_eq_true, if_false]
theorem PS.plook_no (h : PS H k m mp L Q n) {z : AV} {id : Int} (hi : id ∉ Q.map (·.id)) : lookA z (.map mp) (.d (.int .i64 id)) false H = some z := by
 obtain ⟨es, cl, h1, h2⟩ := h.pmap
 simp only [lookA, h1, findE_kv_no 0 h2 (by rw [pkv_fst]; exact hi), Bool.false_eq_true, if_false]
theorem Kv.put {es : List MEnt} {l : List (Int × AV)} (h : Kv es l) {j : Nat} {k : Int} {v v' : AV} (hj : l[j]? = some (k, v)) : Kv (es.modify j fun e => { e with key := .int .i64 k, val := v' }) (l.set j (k, v')) := by
 unfold Kv at h ⊢
 apply List.ext_getElem?
 intro i
 have hi := congrArg (fun x => x[i]?) h
 simp only [List.getElem?_map] at hi ⊢
 rw [List.getElem?_modify]
 by_cases hij : j = i
 ·subst hij
  have hl := (List.getElem?_eq_some_iff.1 hj).1
  rw [List.getElem?_set_self hl]
  rw [hj] at hi
  cases he : es[j]? with
  | none => rw [he] at hi; cases hi
  | some e => simp
 ·rw [List.getElem?_set_ne hij]
  simp only [if_neg hij]
  simpa using hi
theorem mapPut {id : Int} {i cl : Nat} {es : List MEnt} {v v' : AV} {l : List (Int × AV)} (h : H m = some (.map es cl)) (hk : Kv es l) (hn : (l.map (·.1)).Nodup) (hi : l[i]? = some (id, v)) : mapSetA (.map m) (.d (.int .i64 id)) v' H = some [(m, .map (es.modify i fun e => { e with key := .int .i64 id, val := v' }) cl)] := by
 simp only [mapSetA, h, findE_kv 0 i hk hn hi, Nat.zero_add]
theorem mapNew {id : Int} {cl : Nat} {es : List MEnt} {v' : AV} {l : List (Int × AV)} (h : H m = some (.map es cl)) (hk : Kv es l) (hi : id ∉ l.map (·.1)) : mapSetA (.map m) (.d (.int .i64 id)) v' H = some [(m, .map (es ++ [⟨.int .i64 id, v', cl⟩]) (cl + 1))] := by
 simp only [mapSetA, h, findE_kv_no 0 hk hi]
theorem muA_agg {id : Int} {a b : Dat} {us : Ups} (h : mapSetA (.map m) (.d (.int .i64 id)) (.agg [.d a, .d b]) H = some us) : muA Try.prog 3 (.map m) (.d (.int .i64 id)) (.agg [.d a, .d b]) H = some (.junk, us) := by
 have e : frzL [.d a, .d b] H = some ([.d a, .d b], []) := rfl
 simp only [muA, Try.underlying3, keyOk, decide_true, st_agg, and_self, if_true, e, sets_nil', h, List.nil_append]
theorem muA_ptr {id : Int} {p : Nat} {us : Ups} (h : mapSetA (.map m) (.d (.int .i64 id)) (.ptr p 0 0 0) H = some us) : muA Try.prog 3 (.map m) (.d (.int .i64 id)) (.ptr p 0 0 0) H = some (.junk, us) := by
 simp only [muA, Try.underlying3, keyOk, decide_true, st_ptr, and_self, if_true, h]
theorem keyI {kk : Int} {f : AV → Option AV} : lookKA Try.prog 3 (.d (.int .i64 kk)) f = f (.d (.int .i64 kk)) := by
 simp only [lookKA, Try.underlying3, keyOk, decide_true, if_true]
theorem PS.upd (h : PS H k m mp L Q n) {i : Nat} {r r' : Rm} (hi : L[i]? = some r) (hp : r'.p = r.p) (hid : r'.id = r.id) (hok : r'.Ok) : PS (H.set r.p r'.obj) k m mp (L.set i r') Q n := by
 have hq : r ∈ L := List.mem_of_getElem? hi
 have ho := h.obj r hq
 obtain ⟨es, cl, h1, h2⟩ := h.map
 obtain ⟨es2, cl2, g1, g2⟩ := h.pmap
 have hkp : k ≠ r.p := fun he => by have := h.node; rw [he, ho] at this; cases this
 have hmp : m ≠ r.p := fun he => by rw [he, ho] at h1; cases h1
 have hmq : mp ≠ r.p := fun he => by rw [he, ho] at g1; cases g1
 have e1 : (L.set i r').map Rm.kv = L.map Rm.kv := map_set_same hi (by simp [Rm.kv, hp, hid])
 have e2 : (L.set i r').map (·.id) = L.map (·.id) := map_set_same hi hid
 have e3 : (L.set i r').map (·.p) = L.map (·.p) := map_set_same hi hp
 refine ⟨by rw [set_ne hkp]; exact h.node, ⟨es, cl, by rw [set_ne hmp]; exact h1, by rw [e1]; exact h2⟩, ⟨es2, cl2, by rw [set_ne hmq]; exact g1, g2⟩, h.ne, fun x hx => ?_, by rw [e2]; exact h.ids, by rw [e3]; exact h.ps, h.qids, fun x hx => ?_, h.qok, by rw [List.length_set]; exact h.len⟩
 ·obtain ⟨j, hj⟩ := List.getElem?_of_mem hx
  by_cases hij : i = j
  ·subst hij
   rw [List.getElem?_set_self (List.getElem?_eq_some_iff.1 hi).1] at hj
   cases hj
   rw [hp, set_self]
  ·rw [List.getElem?_set_ne hij] at hj
   have hne : x.p ≠ r.p := fun he => by
    have a1 : (L.map (·.p))[i]? = some r.p := by rw [List.getElem?_map, hi]; rfl
    have a2 : (L.map (·.p))[j]? = some r.p := by rw [List.getElem?_map, hj, ← he]; rfl
    have hl := (List.getElem?_eq_some_iff.1 a1).1
    exact hij ((List.getElem?_inj hl h.ps).1 (a1.trans a2.symm))
   rw [set_ne hne]
   exact h.obj x (List.mem_of_getElem? hj)
 ·rcases List.mem_or_eq_of_mem_set hx with h3 | h3
  ·exact h.ok x h3
  ·rw [h3]; exact hok
theorem PS.add (h : PS H k m mp L Q n) {r : Rm} {es : List MEnt} {cl : Nat} (h1 : H m = some (.map es cl)) (h2 : Kv es (L.map Rm.kv)) (h3 : (∀ e ∈ es, e.born < cl) ∧ (es.map (·.born)).Nodup) (hp : H r.p = some r.obj) (hid : r.id ∉ L.map (·.id)) (hpp : r.p ∉ L.map (·.p)) (hok : r.Ok) (hl : L.length < 100) :
  PS (H.set m (.map (es ++ [⟨.int .i64 r.id, .ptr r.p 0 0 0, cl⟩]) (cl + 1))) k m mp (L ++ [r]) Q n := by
 have hkm : k ≠ m := fun he => by have := h.node; rw [he, h1] at this; cases this
 have np : ∀ (x : Rm), H x.p = some x.obj → x.p ≠ m := fun x hx he => by rw [he, h1] at hx; cases hx
 obtain ⟨es2, cl2, g1, g2⟩ := h.pmap
 refine ⟨by rw [set_ne hkm]; exact h.node, ⟨_, _, set_self, by rw [List.map_append]; exact h2.add _ _ _, fun e he => ?_, ?_⟩, ⟨es2, cl2, by rw [set_ne (Ne.symm h.ne)]; exact g1, g2⟩, h.ne, fun x hx => ?_, ?_, ?_, h.qids, fun x hx => ?_, h.qok, by simp; omega⟩
 ·rcases List.mem_append.1 he with he | he
  ·have := h3.1 e he; omega
  ·simp only [List.mem_singleton] at he; subst he; exact Nat.lt_succ_self _
 ·rw [List.map_append, List.nodup_append]
  refine ⟨h3.2, by simp, fun a ha b hb => ?_⟩
  obtain ⟨e, he, rfl⟩ := List.mem_map.1 ha
  simp only [List.map_cons, List.map_nil, List.mem_singleton] at hb
  have := h3.1 e he
  omega
 ·rcases List.mem_append.1 hx with hx | hx
  ·rw [set_ne (np x (h.obj x hx))]; exact h.obj x hx
  ·simp only [List.mem_singleton] at hx; subst hx; rw [set_ne (np _ hp)]; exact hp
 ·rw [List.map_append, List.nodup_append]
  exact ⟨h.ids, by simp, fun a ha b hb => by simp only [List.map_cons, List.map_nil, List.mem_singleton] at hb; rintro rfl; exact hid (hb ▸ ha)⟩
 ·rw [List.map_append, List.nodup_append]
  exact ⟨h.ps, by simp, fun a ha b hb => by simp only [List.map_cons, List.map_nil, List.mem_singleton] at hb; rintro rfl; exact hpp (hb ▸ ha)⟩
 ·rcases List.mem_append.1 hx with hx | hx
  ·exact h.ok x hx
  ·simp only [List.mem_singleton] at hx; subst hx; exact hok
theorem PS.pset (h : PS H k m mp L Q n) {es : List MEnt} {cl : Nat} {Q' : List Pn} {n' : Nat} (hk : Kv es (Q'.map Pn.kv)) (hn : (Q'.map (·.id)).Nodup) (hq : ∀ q ∈ Q', 1 ≤ q.many ∧ q.many ≤ n' ∧ 1 ≤ q.b ∧ q.b < 256) : PS (H.set mp (.map es cl)) k m mp L Q' n' := by
 obtain ⟨es1, cl1, h1, h2⟩ := h.map
 obtain ⟨es2, cl2, g1, g2⟩ := h.pmap
 have hkm : k ≠ mp := fun he => by have := h.node; rw [he, g1] at this; cases this
 refine ⟨by rw [set_ne hkm]; exact h.node, ⟨es1, cl1, by rw [set_ne h.ne]; exact h1, h2⟩, ⟨_, _, set_self, hk⟩, h.ne, fun r hr => ?_, h.ids, h.ps, hn, h.ok, hq, h.len⟩
 have := h.obj r hr
 rw [set_ne fun he => by rw [he, g1] at this; cases this]; exact this
theorem PS.none (h : PS H k m mp L Q n) (hk : K (.d (.bool false)) H) : CallsA Try.prog 59 [.ptr k 0 0 0] H K := by
 obtain ⟨es, cl, h1, _⟩ := h.map
 apply C59
 unfold S59
 have l0 : ldV false 1 (.ptr k 0 0 0) H = some (.map m) := ldV_at h.node rfl rfl
 have e : nilA 1 .eql (.map m) .nilmap = some (.d (.bool false)) := rfl
 simp only [nilP_eql, optA_some, ifA_f, nilCk_ptr, ti89_f0, Nat.zero_add, Nat.add_zero, l0, e, ret1_d]
 exact ⟨H, le_refl', hk⟩
end
theorem pfind_iff {Q : List Pn} (hn : (Q.map (·.id)).Nodup) {x : Int} {q : Pn} : Q.find? (fun q => q.id == x) = some q ↔ q ∈ Q ∧ q.id = x := by
 constructor
 ·intro h
  exact ⟨List.mem_of_find?_eq_some h, by have := List.find?_some h; simpa using this⟩
 ·rintro ⟨h1, rfl⟩
  induction Q with
  | nil => simp at h1
  | cons a l ih =>
   rw [List.map_cons, List.nodup_cons] at hn
   rw [List.find?_cons]
   rcases List.mem_cons.1 h1 with rfl | h2
   ·simp
   ·have : a.id ≠ q.id := fun he => hn.1 (he ▸ List.mem_map.2 ⟨q, h2, rfl⟩)
    have hb : (a.id == q.id) = false := by simpa using this
    rw [hb]
    exact ih hn.2 h2
theorem pfind_eq {Q R : List Pn} (hn : (Q.map (·.id)).Nodup) (hr : (R.map (·.id)).Nodup) {x : Int} (h : ∀ y : Pn, y.id = x → (y ∈ Q ↔ y ∈ R)) : Q.find? (fun q => q.id == x) = R.find? (fun q => q.id == x) := by
 apply Option.ext
 intro q
 rw [pfind_iff hn, pfind_iff hr]
 constructor
 ·rintro ⟨h1, h2⟩; exact ⟨(h q h2).1 h1, h2⟩
 ·rintro ⟨h1, h2⟩; exact ⟨(h q h2).2 h1, h2⟩
def manyOf (Q : List Pn) (x : Int) : Int := ((Q.find? fun q => q.id == x).map (·.many)).getD 0
def bOf (Q : List Pn) (x : Int) : Nat := ((Q.find? fun q => q.id == x).map (·.b)).getD 0
theorem of_mem {Q : List Pn} (hn : (Q.map (·.id)).Nodup) {q : Pn} (h : q ∈ Q) : manyOf Q q.id = q.many ∧ bOf Q q.id = q.b := by
 have e := (pfind_iff hn (x := q.id) (q := q)).2 ⟨h, rfl⟩
 unfold manyOf bOf
 rw [e]
 exact ⟨rfl, rfl⟩
theorem of_no {Q : List Pn} {x : Int} (h : x ∉ Q.map (·.id)) : manyOf Q x = 0 := by
 have e : Q.find? (fun q => q.id == x) = none := by
  rw [List.find?_eq_none]
  intro q hq he
  exact h (List.mem_map.2 ⟨q, hq, by simpa using he⟩)
 unfold manyOf
 rw [e]; rfl
theorem of_eq {Q R : List Pn} (hn : (Q.map (·.id)).Nodup) (hr : (R.map (·.id)).Nodup) {x : Int} (h : ∀ y : Pn, y.id = x → (y ∈ Q ↔ y ∈ R)) : manyOf Q x = manyOf R x ∧ bOf Q x = bOf R x := by
 unfold manyOf bOf
 rw [pfind_eq hn hr h]
 exact ⟨rfl, rfl⟩
theorem set_ids {Q : List Pn} {i : Nat} {q q' : Pn} (hi : Q[i]? = some q) (hid : q'.id = q.id) : (Q.set i q').map (·.id) = Q.map (·.id) := map_set_same hi hid
theorem of_set {Q : List Pn} (hn : (Q.map (·.id)).Nodup) {i : Nat} {q q' : Pn} (hi : Q[i]? = some q) (hid : q'.id = q.id) {x : Int} :
  (x = q.id → manyOf (Q.set i q') x = q'.many ∧ bOf (Q.set i q') x = q'.b) ∧ (x ≠ q.id → manyOf (Q.set i q') x = manyOf Q x ∧ bOf (Q.set i q') x = bOf Q x) := by
 have hn' : ((Q.set i q').map (·.id)).Nodup := by rw [set_ids hi hid]; exact hn
 have hl := (List.getElem?_eq_some_iff.1 hi).1
 constructor
 ·rintro rfl
  rw [← hid]
  exact of_mem hn' (List.mem_of_getElem? (List.getElem?_set_self hl))
 ·intro hx
  refine of_eq hn' hn fun y hy => ⟨fun h => ?_, fun h => ?_⟩
  ·rcases List.mem_or_eq_of_mem_set h with h1 | h1
   ·exact h1
   ·exact absurd (by rw [← hy, h1, hid]) hx
  ·obtain ⟨j, hj⟩ := List.getElem?_of_mem h
   have hij : i ≠ j := fun he => by subst he; rw [hi] at hj; cases hj; exact hx hy.symm
   exact List.mem_of_getElem? ((List.getElem?_set_ne hij).trans hj)
theorem of_add {Q : List Pn} (hn : (Q.map (·.id)).Nodup) {q : Pn} (hq : q.id ∉ Q.map (·.id)) {x : Int} :
  (x = q.id → manyOf (Q ++ [q]) x = q.many ∧ bOf (Q ++ [q]) x = q.b) ∧ (x ≠ q.id → manyOf (Q ++ [q]) x = manyOf Q x ∧ bOf (Q ++ [q]) x = bOf Q x) := by
 have hn' : ((Q ++ [q]).map (·.id)).Nodup := by
  rw [List.map_append, List.nodup_append]
  exact ⟨hn, by simp, fun a ha b hb => by simp only [List.map_cons, List.map_nil, List.mem_singleton] at hb; rintro rfl; exact hq (hb ▸ ha)⟩
 constructor
 ·rintro rfl
  exact of_mem hn' (by simp)
 ·intro hx
  refine of_eq hn' hn fun y hy => ⟨fun h => ?_, fun h => List.mem_append_left _ h⟩
  rcases List.mem_append.1 h with h1 | h1
  ·exact h1
  ·rw [List.mem_singleton] at h1; exact absurd (by rw [← hy, h1]) hx
theorem of_del {Q : List Pn} (hn : (Q.map (·.id)).Nodup) {i : Nat} {q : Pn} (hi : Q[i]? = some q) {x : Int} :
  (x = q.id → manyOf (Q.eraseIdx i) x = 0) ∧ (x ≠ q.id → manyOf (Q.eraseIdx i) x = manyOf Q x ∧ bOf (Q.eraseIdx i) x = bOf Q x) := by
 have hn' : ((Q.eraseIdx i).map (·.id)).Nodup := by rw [map_erase]; exact (List.eraseIdx_sublist _ i).nodup hn
 constructor
 ·rintro rfl
  refine of_no fun h => ?_
  obtain ⟨y, hy, he⟩ := List.mem_map.1 h
  obtain ⟨j, hj, hj2⟩ := List.mem_eraseIdx_iff_getElem?.1 hy
  have a1 : (Q.map (·.id))[i]? = some q.id := by rw [List.getElem?_map, hi]; rfl
  have a2 : (Q.map (·.id))[j]? = some q.id := by rw [List.getElem?_map, hj2, ← he]; rfl
  have hl := (List.getElem?_eq_some_iff.1 a1).1
  exact hj ((List.getElem?_inj hl hn).1 (a1.trans a2.symm)).symm
 ·intro hx
  refine of_eq hn' hn fun y hy => ⟨fun h => (List.eraseIdx_sublist _ i).subset h, fun h => ?_⟩
  obtain ⟨j, hj⟩ := List.getElem?_of_mem h
  refine List.mem_eraseIdx_iff_getElem?.2 ⟨j, fun he => ?_, hj⟩
  subst he; rw [hi] at hj; cases hj; exact hx hy.symm
def PlR (Q R : List Pn) : Prop := ∀ x, manyOf Q x = manyOf R x ∧ (0 < manyOf Q x → bOf Q x = bOf R x)
end Go.Proofs.Ytofjhihigmimbaa
namespace Go.Proofs.Ytofjhihigmimbaa
open Go Go.AM Go.Proofs
def rsp1 (f : Bool → Bool) (id : Int) (ps : List (Bool × List UInt8)) (j : Nat) : Tr := ⟨1, id, 0, (j : Int), false, decide (j + 1 = ps.length), false, f (ps.getD j (true, [])).1, (ps.getD j (true, [])).2⟩
def rspL (f : Bool → Bool) (id : Int) (b : Nat) (ps : List (Bool × List UInt8)) : Nat → List Tr
 | 0 => []
 | j + 1 => if b.testBit j then rspL f id b ps j ++ [rsp1 f id ps j] else rspL f id b ps j
theorem rspL_len {f : Bool → Bool} {id : Int} {b : Nat} {ps : List (Bool × List UInt8)} : ∀ {j : Nat}, (rspL f id b ps j).length ≤ j
 | 0 => Nat.le_refl 0
 | j + 1 => by
  have := rspL_len (f := f) (id := id) (b := b) (ps := ps) (j := j)
  rw [rspL]
  split
  ·rw [List.length_append, List.length_singleton]; omega
  ·omega
abbrev rsps (f : Bool → Bool) (id : Int) (b : Nat) (ps : List (Bool × List UInt8)) : List Tr := rspL f id b ps ps.length
theorem rspL_sim {f g : Bool → Bool} {id : Int} {b : Nat} {ps qs : List (Bool × List UInt8)} (hl : ps.length = qs.length) (h : ∀ j, j < ps.length → (ps.getD j (true, [])).2 = (qs.getD j (true, [])).2) : ∀ {j : Nat}, j ≤ ps.length → SimL (rspL f id b ps j) (rspL g id b qs j)
 | 0, _ => trivial
 | j + 1, hj => by
  rw [rspL, rspL]
  split
  ·exact (rspL_sim hl h (by omega)).app ⟨⟨rfl, rfl, rfl, rfl, rfl, by simp only [rsp1, hl], rfl, by simp only [rsp1]; exact h j (by omega)⟩, trivial⟩
  ·exact rspL_sim hl h (by omega)
theorem rem_fin : ∀ b : Fin 256, ∀ k : Fin 8, ((b.1 : Int).fdiv (2 ^ (min k.1 64))).tmod 2 = if b.1.testBit k.1 then 1 else 0 := by decide +kernel
theorem rem_eq {b k : Nat} (hb : b < 256) (hk : k < 8) : ∃ x, intA .shr (.d (.int .i64 b)) (.d (.int .i64 (k : Int))) = some x ∧ intA .rem x (.d (.int .i64 2)) = some (.d (.int .i64 (if b.testBit k then 1 else 0))) := by
 refine ⟨_, intA_shr (by omega), ?_⟩
 rw [intA_rem (by decide)]
 have := rem_fin ⟨b, hb⟩ ⟨k, hk⟩
 simp only [Int.toNat_natCast] at this ⊢
 exact congrArg (fun x => some (AV.d (.int .i64 x))) this
theorem bd24_5 {a b c d e : Dat} {H : AHeap} : bdA Try.prog ti24 [0, 1, 3, 5, 7] [.d a, .d b, .d c, .d d, .d e] H = some (.agg [.d a, .d b, .d (.int .i64 0), .d c, .d (.bool false), .d d, .d (.bool false), .d e], []) := by
 simp only [bdA, bd24, cell3, cell4, cell22, fillA, setCells, List.zip_cons_cons, List.zip_nil_right, Option.map_some, Nat.reduceLeDiff, List.cons_append, go_sem]
theorem bd24_5f {a b c d : Dat} {v : AV} {l : List UInt8} {us : Ups} {H : AHeap} (f : frzA v H = some (.d (.sl false (bs l)), us)) : bdA Try.prog ti24 [0, 1, 3, 5, 7] [.d a, .d b, .d c, .d d, v] H = some (.agg [.d a, .d b, .d (.int .i64 0), .d c, .d (.bool false), .d d, .d (.bool false), .d (.sl false (bs l))], us) := by
 simp only [bdA, frzAL, frzA_d, sets_nil', f, List.append_nil, List.nil_append]
 simp only [bd24, cell3, cell4, cell22, fillA, setCells, List.zip_cons_cons, List.zip_nil_right, Option.map_some, Nat.reduceLeDiff, List.cons_append, go_sem]
theorem tr_8 {l : List Tr} : ∀ c ∈ l.map Tr.dats, c.length = 8 := fun c hc => by
 obtain ⟨t, _, rfl⟩ := List.mem_map.1 hc
 rfl
section
variable {H G : AHeap} {K : AV → AHeap → Prop}
theorem jnX_inv {R : List AV → AHeap → Prop} {B : (List AV → AHeap → Prop) → Prop} (I : List AV → AHeap → Prop) (h1 : ∀ vs H, I vs H → R vs H) (h2 : ∀ X : List AV → AHeap → Prop, (∀ vs H, I vs H → X vs H) → B X) : jnX R B :=
 fun X hX => h2 X fun vs H h => hX vs H (h1 vs H h)
theorem pc_get {ps : List (Bool × List UInt8)} {j : Nat} (h : j < ps.length) : ps[j]? = some (ps.getD j (true, [])) := by rw [List.getD_eq_getElem?_getD, List.getElem?_eq_getElem h]; rfl
theorem ldB {x : Dat} {H : AHeap} : ldV false 1 (.vptr [x] 0) H = some (.d x) := rfl
theorem own_ret {H0 : AHeap} {v : AV} {l : List Tr} (h : AM.Own H0 8 G v (l.map Tr.dats)) (hn : nilS v = l.isEmpty) (hk : K (.d (.sl l.isEmpty (l.map Tr.dats))) H0) : retF [v] G K := by
 refine h.ret le_refl' ?_
 rw [hn]; exact hk
theorem app_tr {H0 : AHeap} {v : AV} {l : List Tr} {t : Tr} (h : AM.Own H0 8 G v (l.map Tr.dats)) (hl : l.length ≤ 100) (hk : ∀ v' G', AM.Own H0 8 G' v' ((l ++ [t]).map Tr.dats) → nilS v' = (l ++ [t]).isEmpty → K v' G') : newK G (fun n => apA 8 64 v (.lit [t.dats]) G n) K := by
 refine h.app (ys := [t.dats]) rfl (by decide) (by decide) (by simp) (by simp [mostBytes]; omega) fun v' G' h1 h2 h3 h4 => hk v' G' ?_ ?_
 ·rw [List.map_append]; exact h1
 ·rw [h4]; simp
theorem bs24_t {t : Tr} {n : Nat} : bsA ti24 1 [0] [t.av] H n = some (.lit [t.dats], []) := rfl
theorem resp_c {id : Int} {b : Nat} {nl : Bool} {ps : List (Bool × List UInt8)} (hb : b < 256) (hp : PcOk ps) (hk : K (.d (.sl (rsps (fun x => x) id b ps).isEmpty ((rsps (fun x => x) id b ps).map Tr.dats))) H) : CallsA Try.prog 73 [.d (.int .i64 id), .d (.int .i64 b), .d (.sl nl (pcD ps))] H K := by
 have h8 := hp.len
 have hlen : (pcD ps).length = ps.length := by simp [pcD]
 apply C73
 unfold S73
 simp only [lenSl_d, hlen, optA_some]
 refine loop_ind (fun n vs G => ∃ (j : Nat) (v : AV), j ≤ ps.length ∧ n = ps.length - j ∧ vs = [.d (.int .i64 id), .d (.int .i64 b), .d (.sl nl (pcD ps)), v, .d (.sl nl (pcD ps)), .d (.int .i64 (ps.length : Int)), .d (.int .i64 (j : Int))] ∧ AM.Own H 8 G v ((rspL (fun x => x) id b ps j).map Tr.dats) ∧ nilS v = (rspL (fun x => x) id b ps j).isEmpty) (n := ps.length) ⟨0, _, Nat.zero_le _, rfl, rfl, Own.nil le_refl', rfl⟩ ?_
 rintro X n vs G ⟨j, v, hj, rfl, rfl, hv, hnv⟩ hX
 by_cases hjl : j < ps.length
 ·have hlt : (j : Int) < (ps.length : Int) := by omega
  have hw : IntKind.i64.wrap ((j : Int) + 1) = ((j + 1 : Nat) : Int) := by rw [wrap_i64 (by omega) (by omega)]; omega
  obtain ⟨x, s1, s2⟩ := bit_eq (b := b) (k := j) hb (by omega)
  simp only [List.getD_cons_succ, List.getD_cons_zero, intA_lss, optA_some, hlt, decide_true, ifA_t]
  refine jnX_inv (fun vs G' => ∃ v : AV, vs = [.d (.int .i64 id), .d (.int .i64 b), .d (.sl nl (pcD ps)), v, .d (.sl nl (pcD ps)), .d (.int .i64 (ps.length : Int)), .d (.int .i64 (j : Int))] ∧ AM.Own H 8 G' v ((rspL (fun x => x) id b ps (j + 1)).map Tr.dats) ∧ nilS v = (rspL (fun x => x) id b ps (j + 1)).isEmpty) ?_ fun X8 hX8 => ?_
  ·rintro vs G' ⟨v, rfl, h1, h2⟩
   simp only [List.getD_cons_succ, List.getD_cons_zero, intA_add, hw, optA_some]
   exact hX (ps.length - (j + 1)) _ _ (by omega) ⟨j + 1, v, by omega, rfl, rfl, h1, h2⟩
  ·rw [ix51 (pc_get hjl) (H := G), optA_some, ldB, optA_some]
   simp only [s1, s2, optA_some, intA_eql]
   cases hbit : b.testBit j
   ·simp only [Bool.false_eq_true, if_false, decide_eq_false (show ¬ ((0 : Int) = 1) by decide), ifA_f]
    have e : rspL (fun x => x) id b ps (j + 1) = rspL (fun x => x) id b ps j := by rw [rspL, hbit]; rfl
    exact hX8 _ _ ⟨v, rfl, by rw [e]; exact hv, by rw [e]; exact hnv⟩
   ·have e : rspL (fun x => x) id b ps (j + 1) = rspL (fun x => x) id b ps j ++ [rsp1 (fun x => x) id ps j] := by rw [rspL, hbit]; rfl
    have hx := hp.ok _ (List.mem_of_getElem? (pc_get hjl))
    have hw1 : IntKind.i64.wrap ((ps.length : Int) - 1) = ((ps.length - 1 : Nat) : Int) := by rw [wrap_i64 (by omega) (by omega)]; omega
    have hf : decide ((j : Int) = ((ps.length - 1 : Nat) : Int)) = decide (j + 1 = ps.length) := by
     apply decide_eq_decide.2; omega
    simp only [if_true, decide_true, ifA_t, lenSl_d, hlen, optA_some, intA_sub, hw1, intA_eql, hf, frzLK_d, frzLK_nil]
    refine clone_c (by omega) hx.2 ?_
    simp only [bd24_5, stepK_some, sets_nil']
    intro n1 hn1
    have := bs24_t (H := G) (t := rsp1 (fun x => x) id ps j) (n := n1)
    simp only [rsp1, Tr.av, Tr.cells] at this
    simp only [this, stepK_some, sets_nil']
    refine app_tr (t := rsp1 (fun x => x) id ps j) hv (by have := rspL_len (f := fun x => x) (id := id) (b := b) (ps := ps) (j := j); omega) fun v' G' h1 h2 => hX8 _ _ ⟨v', rfl, by rw [e]; exact h1, by rw [e]; exact h2⟩
 ·have hjl : j = ps.length := by omega
  subst hjl
  simp only [List.getD_cons_succ, List.getD_cons_zero, intA_lss, optA_some, Int.lt_irrefl, decide_false, ifA_f]
  exact own_ret hv hnv hk
theorem rresp_c {id : Int} {b : Nat} {nl : Bool} {ps : List (Bool × List UInt8)} (hb : b < 256) (hp : PcOk ps) (hk : K (.d (.sl (rsps (fun _ => false) id b ps).isEmpty ((rsps (fun _ => false) id b ps).map Tr.dats))) H) : CallsA Try.prog 92 [.d (.int .i64 id), .d (.int .i64 b), .d (.sl nl (pcD ps))] H K := by
 have h8 := hp.len
 have hlen : (pcD ps).length = ps.length := by simp [pcD]
 apply C92
 unfold S92
 refine loop_ind (fun n vs G => ∃ (j : Nat) (v : AV), j ≤ ps.length ∧ n = ps.length - j ∧ vs = [.d (.int .i64 id), .d (.int .i64 b), .d (.sl nl (pcD ps)), v, .d (.int .i64 (j : Int))] ∧ AM.Own H 8 G v ((rspL (fun _ => false) id b ps j).map Tr.dats) ∧ nilS v = (rspL (fun _ => false) id b ps j).isEmpty) (n := ps.length) ⟨0, _, Nat.zero_le _, rfl, rfl, Own.nil le_refl', rfl⟩ ?_
 rintro X n vs G ⟨j, v, hj, rfl, rfl, hv, hnv⟩ hX
 by_cases hjl : j < ps.length
 ·have hlt : (j : Int) < (ps.length : Int) := by omega
  have hw : IntKind.i64.wrap ((j : Int) + 1) = ((j + 1 : Nat) : Int) := by rw [wrap_i64 (by omega) (by omega)]; omega
  obtain ⟨x, s1, s2⟩ := rem_eq (b := b) (k := j) hb (by omega)
  simp only [List.getD_cons_succ, List.getD_cons_zero, lenSl_d, hlen, intA_lss, optA_some, hlt, decide_true, ifA_t]
  refine jnX_inv (fun vs G' => ∃ v : AV, vs = [.d (.int .i64 id), .d (.int .i64 b), .d (.sl nl (pcD ps)), v, .d (.int .i64 (j : Int))] ∧ AM.Own H 8 G' v ((rspL (fun _ => false) id b ps (j + 1)).map Tr.dats) ∧ nilS v = (rspL (fun _ => false) id b ps (j + 1)).isEmpty) ?_ fun X8 hX8 => ?_
  ·rintro vs G' ⟨v, rfl, h1, h2⟩
   simp only [List.getD_cons_succ, List.getD_cons_zero, intA_add, hw, optA_some]
   exact hX (ps.length - (j + 1)) _ _ (by omega) ⟨j + 1, v, by omega, rfl, rfl, h1, h2⟩
  ·simp only [s1, s2, optA_some, intA_eql]
   cases hbit : b.testBit j
   ·simp only [Bool.false_eq_true, if_false, decide_eq_false (show ¬ ((0 : Int) = 1) by decide), ifA_f]
    have e : rspL (fun _ => false) id b ps (j + 1) = rspL (fun _ => false) id b ps j := by rw [rspL, hbit]; rfl
    exact hX8 _ _ ⟨v, rfl, by rw [e]; exact hv, by rw [e]; exact hnv⟩
   ·have e : rspL (fun _ => false) id b ps (j + 1) = rspL (fun _ => false) id b ps j ++ [rsp1 (fun _ => false) id ps j] := by rw [rspL, hbit]; rfl
    have hx := hp.ok _ (List.mem_of_getElem? (pc_get hjl))
    have hw1 : IntKind.i64.wrap ((ps.length : Int) - 1) = ((ps.length - 1 : Nat) : Int) := by rw [wrap_i64 (by omega) (by omega)]; omega
    have hf : decide ((j : Int) = ((ps.length - 1 : Nat) : Int)) = decide (j + 1 = ps.length) := by
     apply decide_eq_decide.2; omega
    simp only [if_true, decide_true, ifA_t, lenSl_d, hlen, optA_some, intA_sub, hw1, intA_eql, hf]
    intro n0 hn0
    simp only [bs5_0, stepK_some, sets_nil']
    rw [ix51 (pc_get hjl) (H := G), optA_some, ldB, optA_some]
    refine cpB (by omega) fun v1 G1 hc hfr => ?_
    obtain ⟨us, f1, f2, f3⟩ := hc.frz (G := G1) fun _ _ => rfl
    simp only [bd24_5f f2, stepK_some]
    intro n1 hn1
    have := bs24_t (H := G1.sets us) (t := rsp1 (fun _ => false) id ps j) (n := n1)
    simp only [rsp1, Tr.av, Tr.cells] at this
    simp only [this, stepK_some, sets_nil']
    have hle : AHeap.le G (G1.sets us) := fun i o hi => by
     rw [hc.out f3 hi, hfr i (by rw [hi]; rfl), hi]
    have hv2 : AM.Own H 8 (G1.sets us) v ((rspL (fun _ => false) id b ps j).map Tr.dats) := by
     refine hv.other (le_trans' hv.le hle) fun i hi => ?_
     have hG : (G i).isSome := by
      rcases hv.2.2 with ⟨rfl, _⟩ | rfl | ⟨i', ver, L, rfl, g1, _⟩
      ·cases hi
      ·cases hi
      ·cases hi; rw [g1]; rfl
     obtain ⟨o, ho⟩ := Option.isSome_iff_exists.1 hG
     rw [ho]; exact hle _ _ ho
    refine app_tr (t := rsp1 (fun _ => false) id ps j) hv2 (by have := rspL_len (f := fun _ => false) (id := id) (b := b) (ps := ps) (j := j); omega) fun v' G' h1 h2 => hX8 _ _ ⟨v', rfl, by rw [e]; exact h1, by rw [e]; exact h2⟩
 ·have hjl : j = ps.length := by omega
  subst hjl
  simp only [List.getD_cons_succ, List.getD_cons_zero, lenSl_d, hlen, intA_lss, optA_some, Int.lt_irrefl, decide_false, ifA_f]
  exact own_ret hv hnv hk
def tooLong (ps : List (Bool × List UInt8)) : Bool := ps.any fun x => decide (64 < x.2.length)
theorem callA_75 {args : List AV} : callA (CallsA Try.prog) pol97 (.func 75 [] []) args H K = frzLK args H (fun l H' => CallsA Try.prog 75 l H' K) := by
 show argsA pol97 75 ([] ++ args ++ []) H _ = _
 rw [List.nil_append, List.append_nil]
 rfl
theorem long_c {nl : Bool} {ps : List (Bool × List UInt8)} (hl : ps.length < 2 ^ 40) (hk : K (.d (.bool (tooLong ps))) H) : CallsA Try.prog 74 [.d (.sl nl (pcD ps)), .func 75 [] []] H K := by
 have hlen : (pcD ps).length = ps.length := by simp [pcD]
 apply C74
 unfold S74
 simp only [frzLK_d, frzLK_func, frzLK_nil]
 apply C97
 unfold S97
 simp only [lenSl_d, hlen, optA_some]
 refine loop_ind (fun r vs G => G = H ∧ ∃ j : Nat, j ≤ ps.length ∧ r = ps.length - j ∧ (∀ i, i < j → ¬ 64 < (ps.getD i (true, [])).2.length) ∧ vs = [.d (.sl nl (pcD ps)), .func 75 [] [], .d (.int .i64 ps.length), .d (.int .i64 j)]) (n := ps.length) ⟨rfl, 0, by omega, by omega, fun i hi => by omega, rfl⟩ ?_
 rintro X r vs G ⟨rfl, j, hj, rfl, hno, rfl⟩ hX
 have fin : ∀ n : Int, decide (0 ≤ n) = tooLong ps → retF [.d (.int .i64 n)] G fun v1 H2 => optA (intA .geq v1 (.d (.int .i64 0))) fun v5 => retF [v5] H2 K := fun n h => by
  rw [ret1_d]
  refine ⟨G, le_refl', ?_⟩
  simp only [intA_geq, optA_some, ret1_d]
  refine ⟨G, le_refl', ?_⟩
  rw [h]; exact hk
 by_cases hjl : j < ps.length
 ·have hlt : (j : Int) < (ps.length : Int) := by omega
  have hw : IntKind.i64.wrap ((j : Int) + 1) = ((j + 1 : Nat) : Int) := by rw [wrap_i64 (by omega) (by omega)]; omega
  simp only [List.getD_cons_succ, List.getD_cons_zero, optA_some, intA_lss, hlt, decide_true, ifA_t]
  rw [ix51 (pc_get hjl) (H := G), optA_some, ldB, optA_some, callA_75]
  simp only [frzLK_d, frzLK_nil]
  apply C75
  unfold S75
  simp only [lenSl_d, bs_length, intA_gtr, optA_some, ret1_d]
  refine ⟨G, le_refl', ?_⟩
  show ifA _ _ _
  rw [ifA_ite]
  split
  ·rename_i hyes
   refine fin j ?_
   rw [decide_eq_true (by omega)]
   symm
   unfold tooLong
   rw [List.any_eq_true]
   exact ⟨_, List.mem_of_getElem? (pc_get hjl), by rw [decide_eq_true_eq]; omega⟩
  ·rename_i hno'
   simp only [intA_add, hw, optA_some]
   refine hX (ps.length - (j + 1)) _ _ (by omega) ⟨rfl, j + 1, by omega, rfl, fun i hi => ?_, rfl⟩
   rcases Nat.lt_succ_iff_lt_or_eq.1 hi with hi | rfl
   ·exact hno i hi
   ·omega
 ·have hjl : j = ps.length := by omega
  subst hjl
  simp only [List.getD_cons_succ, List.getD_cons_zero, optA_some, intA_lss, Int.lt_irrefl, decide_false, ifA_f]
  refine fin (-1) ?_
  rw [decide_eq_false (by decide)]
  symm
  unfold tooLong
  rw [Bool.eq_false_iff]
  intro h
  obtain ⟨x, hx, h2⟩ := List.any_eq_true.1 h
  obtain ⟨i, hi⟩ := List.getElem?_of_mem hx
  have hil := (List.getElem?_eq_some_iff.1 hi).1
  have := hno i hil
  rw [pc_get hil] at hi
  cases hi
  rw [decide_eq_true_eq] at h2
  exact this h2
end
end Go.Proofs.Ytofjhihigmimbaa
namespace Go.Proofs.Ytofjhihigmimbaa
open Go Go.AM Go.Proofs
theorem map_key_set {α : Type} {key : α → Int} {g : α → α} {l : List α} {i : Nat} {x : α} (hn : (l.map key).Nodup) (hi : l[i]? = some x) : (l.map fun y => if key y = key x then g y else y) = l.set i (g x) := by
 apply List.ext_getElem?
 intro j
 rw [List.getElem?_map]
 by_cases hij : i = j
 ·subst hij
  rw [List.getElem?_set_self (List.getElem?_eq_some_iff.1 hi).1, hi, Option.map_some, if_pos rfl]
 ·rw [List.getElem?_set_ne hij]
  cases hj : l[j]? with
  | none => rfl
  | some y =>
   rw [Option.map_some, if_neg]
   intro he
   have a1 : (l.map key)[i]? = some (key x) := by rw [List.getElem?_map, hi]; rfl
   have a2 : (l.map key)[j]? = some (key x) := by rw [List.getElem?_map, hj, Option.map_some, he]
   have hl := (List.getElem?_eq_some_iff.1 a1).1
   exact hij ((List.getElem?_inj hl hn).1 (a1.trans a2.symm))
theorem map_key_no {α : Type} {key : α → Int} {g : α → α} {l : List α} {x : Int} (h : x ∉ l.map key) : (l.map fun y => if key y = x then g y else y) = l := by
 have : ∀ y ∈ l, (if key y = x then g y else y) = y := fun y hy => if_neg fun he => h (List.mem_map.2 ⟨y, hy, he⟩)
 rw [List.map_congr_left this, List.map_id']
def Rm.touch (t : Tr) (r : Rm) : Rm := if t.kind = 2 ∧ r.state = 1 then { r with state := 2, ps := [], nl := true, age := 0 } else { r with age := 0 }
def pUp (Q : List Pn) (id : Int) (b : Nat) : List Pn := if id ∈ Q.map (·.id) then Q.map fun q => if q.id = id then { q with many := q.many + 1, b := b } else q else Q ++ [⟨id, 1, b⟩]
def newRm (p : Nat) (t : Tr) : Rm := ⟨p, t.id, 0, t.bits.toNat, 0, true, []⟩
def tkL' (L : List Rm) (t : Tr) : List Rm := L.map fun r => if r.id = t.id then r.touch t else r
def againOf (f : Bool → Bool) (L : List Rm) (t : Tr) : List Tr := match L.find? fun r => r.id == t.id with
 | some r => if t.kind = 2 then [] else rsps f t.id t.bits.toNat r.ps
 | none => []
def tkS (f : Bool → Bool) (p : Nat) (L : List Rm) (Q : List Pn) (t : Tr) : (List Rm × List Pn) × (List Tr × Bool × Int) :=
 if ¬ t.Valid then ((L, Q), [], false, 2)
 else if t.kind = 1 then ((L, Q), [], false, 0)
 else if t.kind = 0 ∧ t.once = false then ((L, pUp Q t.id t.bits.toNat), [], true, 0)
 else if t.id ∈ L.map (·.id) then ((tkL' L t, Q), againOf f L t, false, 0)
 else if t.kind = 2 then ((L, Q), [], false, 0)
 else if L.length = 100 then ((L, Q), [], false, 4)
 else ((L ++ [newRm p t], Q), [], true, 0)
theorem touch_same {t : Tr} {r : Rm} : (r.touch t).id = r.id ∧ (r.touch t).p = r.p := by unfold Rm.touch; split <;> exact ⟨rfl, rfl⟩
theorem Rm.Ok.touch {r : Rm} (h : r.Ok) (t : Tr) : (r.touch t).Ok := by
 unfold Rm.touch
 split
 ·exact ⟨h.id, .inr (.inr rfl), h.b, ⟨Int.le_refl 0, by show (0 : Int) < 30; decide⟩, ⟨by simp, by simp⟩, fun _ => rfl, fun _ => ⟨rfl, rfl⟩, fun hh => absurd hh (by show ¬ (2 : Int) = 1; decide), fun hh => rfl⟩
 ·exact ⟨h.id, h.state, h.b, ⟨Int.le_refl 0, by show (0 : Int) < 30; decide⟩, h.pc, h.nl, h.no, h.yes, fun _ => rfl⟩
theorem rfind_id {L : List Rm} (hn : (L.map (·.id)).Nodup) {i : Nat} {r : Rm} (hi : L[i]? = some r) : L.find? (fun x => x.id == r.id) = some r := by
 have hm := List.mem_of_getElem? hi
 clear hi
 induction L with
 | nil => simp at hm
 | cons a l ih =>
  rw [List.map_cons, List.nodup_cons] at hn
  rw [List.find?_cons]
  rcases List.mem_cons.1 hm with rfl | h2
  ·simp
  ·have : a.id ≠ r.id := fun he => hn.1 (he ▸ List.mem_map.2 ⟨r, h2, rfl⟩)
   have hb : (a.id == r.id) = false := by simpa using this
   rw [hb]
   exact ih hn.2 h2
theorem ret3_d {x y z : Dat} {H : AHeap} {K : AV → AHeap → Prop} : retF [.d x, .d y, .d z] H K = finA (.tup [.d x, .d y, .d z]) H K := by
 rw [ret3', frzLK_d, frzLK_d, frzLK_d, frzLK_nil, one1_2]
theorem bd133_2 {a b : Dat} {H : AHeap} : bdA Try.prog ti133 [0, 1] [.d a, .d b] H = some (.agg [.d a, .d b], []) := by
 simp only [bdA, bd133, cell3, fillA, setCells, List.zip_cons_cons, List.zip_nil_right, Option.map_some, Nat.reduceLeDiff, List.cons_append, go_sem]
theorem bd135_1 {a : Dat} {H : AHeap} : bdA Try.prog ti135 [1] [.d a] H = some (.agg [.d (.int .i64 0), .d a, .d (.sl true []), .d (.int .i64 0)], []) := by
 simp only [bdA, bd135, cell3, fillA, setCells, List.zip_cons_cons, List.zip_nil_right, Option.map_some, Nat.reduceLeDiff, List.cons_append, go_sem]
section
variable {H G : AHeap} {k m mp : Nat} {L : List Rm} {Q : List Pn} {n : Nat} {K : AV → AHeap → Prop}
theorem ld8 {u : Nat} {t : Tr} (h : H u = some (.mem 0 0 8 [t.cells])) : ldV true 8 (.ptr u 0 0 0) H = some t.av := by
 simp only [ldV, h, if_true]
 rfl
theorem PS.pup (h : PS H k m mp L Q n) {id : Int} {b : Nat} (hb : 1 ≤ b ∧ b < 256) : ∃ us, muA Try.prog 3 (.map mp) (.d (.int .i64 id)) (.agg [.d (.int .i64 (manyOf Q id + 1)), .d (.int .i64 b)]) H = some (.junk, us) ∧ PS (H.sets us) k m mp L (pUp Q id b) (n + 1) := by
 obtain ⟨es, cl, g1, g2⟩ := h.pmap
 rcases pid_cases Q id with ⟨i, q, hi, rfl⟩ | hno
 ·have hm := of_mem h.qids (List.mem_of_getElem? hi)
  have hq := h.qok q (List.mem_of_getElem? hi)
  have hkv : (Q.map Pn.kv)[i]? = some (q.id, .agg [.d (.int .i64 q.many), .d (.int .i64 q.b)]) := by rw [List.getElem?_map, hi]; rfl
  have e := map_key_set (key := (·.id)) (g := fun q => { q with many := q.many + 1, b := b }) h.qids hi
  have eq : pUp Q q.id b = Q.set i { q with many := q.many + 1, b := b } := by
   unfold pUp
   rw [if_pos (List.mem_map.2 ⟨q, List.mem_of_getElem? hi, rfl⟩)]
   exact e
  rw [hm.1, eq]
  refine ⟨_, muA_agg (mapPut g1 g2 (by rw [pkv_fst]; exact h.qids) hkv), ?_⟩
  simp only [sets_cons, sets_nil']
  refine h.pset ?_ (by rw [set_ids (q' := { q with many := q.many + 1, b := b }) hi rfl]; exact h.qids) fun x hx => ?_
  ·rw [List.map_set]
   exact Kv.put g2 hkv
  ·rcases List.mem_or_eq_of_mem_set hx with h1 | h1
   ·have := h.qok x h1; omega
   ·rw [h1]; exact ⟨by show 1 ≤ q.many + 1; omega, by show q.many + 1 ≤ _; omega, hb⟩
 ·have eq : pUp Q id b = Q ++ [⟨id, 1, b⟩] := by unfold pUp; rw [if_neg hno]
  rw [of_no hno, eq]
  refine ⟨_, muA_agg (mapNew g1 g2 (by rw [pkv_fst]; exact hno)), ?_⟩
  simp only [sets_cons, sets_nil']
  refine h.pset ?_ ?_ fun x hx => ?_
  ·rw [List.map_append]
   exact g2.add _ _ _
  ·rw [List.map_append, List.nodup_append]
   exact ⟨h.qids, by simp, fun a ha b hb => by simp only [List.map_cons, List.map_nil, List.mem_singleton] at hb; rintro rfl; exact hno (hb ▸ ha)⟩
  ·rcases List.mem_append.1 hx with h1 | h1
   ·have := h.qok x h1; omega
   ·rw [List.mem_singleton] at h1; rw [h1]; exact ⟨Int.le_refl 1, by show (1 : Int) ≤ _; omega, hb⟩
theorem PS.many (h : PS H k m mp L Q n) (id : Int) : ∃ b : Nat, lookA (.agg [.d (.int .i64 0), .d (.int .i64 0)]) (.map mp) (.d (.int .i64 id)) false H = some (.agg [.d (.int .i64 (manyOf Q id)), .d (.int .i64 b)]) ∧ (0 < manyOf Q id → b = bOf Q id) ∧ 0 ≤ manyOf Q id ∧ manyOf Q id ≤ n := by
 rcases pid_cases Q id with ⟨i, q, hi, rfl⟩ | hno
 ·have hm := of_mem h.qids (List.mem_of_getElem? hi)
  have hq := h.qok q (List.mem_of_getElem? hi)
  refine ⟨q.b, by rw [hm.1]; exact h.plook hi, fun _ => hm.2.symm, by omega, by omega⟩
 ·refine ⟨0, by rw [of_no hno]; exact h.plook_no hno, fun hh => ?_, by rw [of_no hno]; exact Int.le_refl 0, by rw [of_no hno]; omega⟩
  rw [of_no hno] at hh; omega
theorem stake_c (h : PS H k m mp L Q n) (hn : n < 2 ^ 40) {t : Tr}
  (hk : ∀ p H', PS H' k m mp (tkS (fun x => x) p L Q t).1.1 (tkS (fun x => x) p L Q t).1.2 (n + 1) → p ∉ L.map (·.p) → ∀ nl, (nl = true → (tkS (fun x => x) p L Q t).2.1 = []) → K (.tup [.d (.sl nl ((tkS (fun x => x) p L Q t).2.1.map Tr.dats)), .d (.bool (tkS (fun x => x) p L Q t).2.2.1), .d (.int .i64 (tkS (fun x => x) p L Q t).2.2.2)]) H') : CallsA Try.prog 38 [.ptr k 0 0 0, t.av] H K := by
 apply C38j
 unfold S38j
 refine box_open rfl fun u G hG hle hu => ?_
 have hG : G u = some (.mem 0 0 8 [t.cells]) := hG
 have hP := h.le hle
 have huf : ¬ sfoot k m mp L u := fun hh => by have := h.isS hh; rw [hu] at this; cases this
 have hup : u ∉ L.map (·.p) := fun hh => huf (.inr (.inr (.inr hh)))
 -- the leaves
 have leaf : ∀ (p : Nat) (G' : AHeap) (r : (List Rm × List Pn) × (List Tr × Bool × Int)), tkS (fun x => x) p L Q t = r → p ∉ L.map (·.p) → PS G' k m mp r.1.1 r.1.2 (n + 1) → ∀ nl, (nl = true → r.2.1 = []) → retF [.d (.sl nl (r.2.1.map Tr.dats)), .d (.bool r.2.2.1), .d (.int .i64 r.2.2.2)] G' K := by
  intro p G' r hr hp h1 nl h2
  subst hr
  rw [ret3_d]
  exact ⟨G', le_refl', hk p G' h1 hp nl h2⟩
 simp only [frzLK_ptr, frzLK_nil]
 refine hP.none ?_
 simp only [ifA_f, ld8 hG, optA_some, frzLK_tr, frzLK_nil]
 refine valid_c ?_
 simp only [unA_not, optA_some]
 by_cases hv : t.Valid
 rotate_left
 ·simp only [decide_eq_false hv, Bool.not_false, ifA_t]
  exact leaf u G ((L, Q), [], false, 2) (by unfold tkS; rw [if_pos hv]) hup (hP.mono (by omega)) true fun _ => rfl
 simp only [decide_eq_true hv, Bool.not_true, ifA_f]
 have hvn : ¬ ¬ t.Valid := fun hh => hh hv
 have lu : ∀ (i : Nat) (x : AV), t.cells[i]? = some x → ldV false 1 (.ptr u 0 0 i) G = some x := fun i x hx => ldV_at hG rfl hx
 simp only [ti24_f0, Nat.zero_add, Nat.add_zero, lu 0 _ rfl, optA_some, intA_eql, ifA_ite]
 by_cases hk1 : t.kind = 1
 ·rw [if_pos hk1]
  exact leaf u G ((L, Q), [], false, 0) (by unfold tkS; rw [if_neg hvn, if_pos hk1]) hup (hP.mono (by omega)) true fun _ => rfl
 rw [if_neg hk1]
 refine jnX_inv (fun vs G' => G' = G ∧ vs = [.ptr k 0 0 0, .ptr u 0 0 0, .d (.bool (decide (t.kind = 0 ∧ t.once = false)))]) ?_ fun X hX => ?_
 rotate_left
 ·simp only [ti24_f4, Nat.zero_add, lu 4 _ rfl, optA_some, unA_not]
  by_cases h0 : t.kind = 0
  ·rw [if_pos h0]
   refine hX _ _ ⟨rfl, ?_⟩
   cases t.once <;> simp [h0]
  ·rw [if_neg h0]
   exact hX _ _ ⟨rfl, by simp [h0]⟩
 rintro vs G' ⟨rfl, rfl⟩
 clear hle
 simp only [List.getD_cons_succ, List.getD_cons_zero]
 have kinds : t.kind = 0 ∨ t.kind = 2 := by
  rcases hv.2.2 with h1 | h1 | h1
  ·exact .inl h1.1
  ·exact absurd h1.1 hk1
  ·exact .inr h1.1
 have hbits : t.kind = 0 → 1 ≤ t.bits.toNat ∧ t.bits.toNat < 256 ∧ (t.bits.toNat : Int) = t.bits := fun h0 => by
  rcases hv.2.2 with h1 | h1 | h1
  ·omega
  ·omega
  ·omega
 have l0 : ldV false 1 (.ptr k 0 0 0) G' = some (.map m) := ldV_at hP.node rfl rfl
 have l1 : ldV false 1 (.ptr k 0 0 1) G' = some (.map mp) := ldV_at hP.node rfl rfl
 by_cases hpl : t.kind = 0 ∧ t.once = false
 ·-- a plain one
  obtain ⟨b0, m1, _, m2, m3⟩ := hP.many t.id
  have hb := hbits hpl.1
  obtain ⟨us, u1, u2⟩ := hP.pup (id := t.id) ⟨hb.1, hb.2.1⟩
  have hw : IntKind.i64.wrap (manyOf Q t.id + 1) = manyOf Q t.id + 1 := wrap_i64 (by omega) (by omega)
  have fl : ∀ a b : AV, fldA false 1 0 (.agg [a, b]) = some a := fun _ _ => rfl
  rw [hb.2.2] at u1
  simp only [decide_eq_true hpl, ifA_t, drA_true, nilCk_ptr, ti89_f1, ti24_f1, ti24_f2, Nat.zero_add, l1, lu 1 _ rfl, lu 2 _ rfl, optA_some, keyI, m1, fl, intA_add, hw, rsOf_d, ap_nil, true_and, aggL_d, noRsA_nil, bd133_2, stepK_some, sets_nil', aggL_agg, noRsA_cons, noRs_d, u1]
  exact leaf u _ ((L, pUp Q t.id t.bits.toNat), [], true, 0) (by unfold tkS; rw [if_neg hvn, if_neg hk1, if_pos hpl]) hup u2 true fun _ => rfl
 simp only [decide_eq_false hpl, ifA_f, drA_true, nilCk_ptr, ti89_f0, ti24_f1, Nat.zero_add, Nat.add_zero, l0, lu 1 _ rfl, optA_some, keyI]
 rcases rid_cases L t.id with ⟨i, r, hi, hid⟩ | hno
 ·-- it is remembered
  have hmem : t.id ∈ L.map (·.id) := List.mem_map.2 ⟨r, List.mem_of_getElem? hi, hid⟩
  have hr := hP.obj r (List.mem_of_getElem? hi)
  have hok := hP.ok r (List.mem_of_getElem? hi)
  have hlook := hP.look hi
  have hset : tkL' L t = L.set i (r.touch t) := by
   have := map_key_set (key := (·.id)) (g := Rm.touch t) hP.ids hi
   rw [hid] at this
   exact this
  have hag : againOf (fun x => x) L t = if t.kind = 2 then [] else rsps (fun x => x) t.id t.bits.toNat r.ps := by
   have := rfind_id hP.ids hi
   rw [hid] at this
   unfold againOf
   rw [this]
  have htk : tkS (fun x => x) u L Q t = ((L.set i (r.touch t), Q), if t.kind = 2 then [] else rsps (fun x => x) t.id t.bits.toNat r.ps, false, 0) := by
   unfold tkS
   rw [if_neg hvn, if_neg hk1, if_neg hpl, if_pos hmem, hset, hag]
  have hup2 := hP.upd hi (touch_same (t := t)).2 (touch_same (t := t)).1 (hok.touch t)
  rw [hid] at hlook
  simp only [hlook, optA_some]
  refine jnX_inv (fun vs G2 => G2 = G' ∧ vs = [.ptr k 0 0 0, .ptr u 0 0 0, .ptr r.p 0 0 0, .d (.bool false)]) ?_ fun X hX => ?_
  rotate_left
  ·simp only [nilP_eql, optA_some, ifA_f]
   exact hX _ _ ⟨rfl, rfl⟩
  rintro vs G2 ⟨rfl, rfl⟩
  have s1 : stoA false 1 (.ptr r.p 0 0 3) (.d (.int .i64 0)) G2 = some (.junk, [(r.p, ({ r with age := 0 } : Rm).obj)]) := stoA_at hr (Nat.le_refl 0) rfl (show 3 < 4 by decide) rfl rfl
  simp only [List.getD_cons_succ, List.getD_cons_zero, ifA_f, nilP_eql, optA_some, nilCk_ptr, ti135_f3, ti135_f0, Nat.zero_add, Nat.add_zero, s1, stepK_some, sets_cons, sets_nil']
  have hur : u ≠ r.p := fun he => hup (he ▸ List.mem_map.2 ⟨r, List.mem_of_getElem? hi, rfl⟩)
  have lr : ∀ (j : Nat) (x : AV), ({ r with age := 0 } : Rm).cells[j]? = some x → ldV false 1 (.ptr r.p 0 0 j) (G2.set r.p ({ r with age := 0 } : Rm).obj) = some x := fun j x hx => ldV_at (set_self (o := ({ r with age := 0 } : Rm).obj)) rfl hx
  have lu2 : ∀ (i : Nat) (x : AV), t.cells[i]? = some x → ldV false 1 (.ptr u 0 0 i) (G2.set r.p ({ r with age := 0 } : Rm).obj) = some x := fun i x hx => ldV_at (by rw [set_ne hur]; exact hG) rfl hx
  refine jnX_inv (fun vs G3 => G3 = G2.set r.p (r.touch t).obj ∧ (t.kind = 2 ∨ r.ps = [])) ?_ fun X hX => ?_
  ·rintro vs G3 ⟨rfl, hor⟩
   have hnil : (if t.kind = 2 then [] else rsps (fun x => x) t.id t.bits.toNat r.ps) = [] := by
    split
    ·rfl
    ·rename_i h2
     rw [hor.resolve_left h2]; rfl
   exact leaf u _ ((L.set i (r.touch t), Q), [], false, 0) (by rw [htk, hnil]) hup (hup2.mono (by omega)) true fun _ => rfl
  ·simp only [lr 0 _ rfl, optA_some, intA_neq, ifA_ite]
   by_cases hs1 : r.state = 1
   rotate_left
   ·rw [if_pos hs1]
    have e : r.touch t = { r with age := 0 } := by unfold Rm.touch; rw [if_neg (fun hh => hs1 hh.2)]
    exact hX _ _ ⟨by rw [e], .inr (hok.no hs1).1⟩
   rw [if_neg (fun hh => hh hs1)]
   simp only [ti24_f0, Nat.zero_add, Nat.add_zero, lu2 0 _ rfl, optA_some, intA_eql, ifA_ite]
   by_cases hk2 : t.kind = 2
   ·rw [if_pos hk2]
    have e : r.touch t = { r with state := 2, ps := [], nl := true, age := 0 } := by unfold Rm.touch; rw [if_pos ⟨hk2, hs1⟩]
    have s2 : stoA false 1 (.ptr r.p 0 0 0) (.d (.int .i64 2)) (G2.set r.p ({ r with age := 0 } : Rm).obj) = some (.junk, [(r.p, ({ r with age := 0, state := 2 } : Rm).obj)]) := stoA_at (set_self (o := ({ r with age := 0 } : Rm).obj)) (Nat.le_refl 0) rfl (show 0 < 4 by decide) rfl rfl
    have s3 : stoA false 1 (.ptr r.p 0 0 2) (.d (.sl true [])) (G2.set r.p ({ r with age := 0, state := 2 } : Rm).obj) = some (.junk, [(r.p, ({ r with age := 0, state := 2, nl := true, ps := [] } : Rm).obj)]) := stoA_at (set_self (o := ({ r with age := 0, state := 2 } : Rm).obj)) (Nat.le_refl 0) rfl (show 2 < 4 by decide) rfl rfl
    simp only [nilCk_ptr, ti135_f0, ti135_f2, Nat.zero_add, Nat.add_zero, optA_some, s2, stepK_some, sets_cons, sets_nil', set_set, s3]
    exact hX _ _ ⟨by rw [e], .inl hk2⟩
   ·rw [if_neg hk2]
    have hb := hbits (kinds.resolve_right hk2)
    have e : r.touch t = { r with age := 0 } := by unfold Rm.touch; rw [if_neg (fun hh => hk2 hh.1)]
    rw [e] at hup2
    simp only [drA_true, nilCk_ptr, ti24_f1, ti24_f2, ti135_f2, Nat.zero_add, lu2 1 _ rfl, lu2 2 _ rfl, lr 2 _ rfl, optA_some, aggL_d, noRsA_nil, frzLK_d, frzLK_nil]
    rw [← hb.2.2]
    refine ⟨_, resp_c hb.2.1 hok.pc ⟨rfl, le_refl'⟩, ?_⟩
    refine leaf u _ ((L.set i { r with age := 0 }, Q), rsps (fun x => x) t.id t.bits.toNat r.ps, false, 0) (by rw [htk, if_neg hk2, e]) hup (hup2.mono (by omega)) _ fun hh => by simpa using hh
 ·-- it is not
  have hlook := hP.look_no hno
  simp only [hlook, optA_some]
  have hl100 := hP.len
  refine jnX_inv (fun vs G2 => G2 = G' ∧ vs = [.ptr k 0 0 0, .ptr u 0 0 0, .nilptr, .d (.bool (decide (t.kind = 2)))]) ?_ fun X hX => ?_
  rotate_left
  ·simp only [nilN_eql, optA_some, ifA_t, ti24_f0, Nat.zero_add, Nat.add_zero, lu 0 _ rfl, intA_eql]
   exact hX _ _ ⟨rfl, rfl⟩
  rintro vs G2 ⟨rfl, rfl⟩
  simp only [List.getD_cons_succ, List.getD_cons_zero, ifA_ite]
  by_cases hk2 : t.kind = 2
  ·rw [if_pos hk2]
   exact leaf u G2 ((L, Q), [], false, 0) (by unfold tkS; rw [if_neg hvn, if_neg hk1, if_neg hpl, if_neg hno, if_pos hk2]) hup (hP.mono (by omega)) true fun _ => rfl
  rw [if_neg hk2]
  have hb := hbits (kinds.resolve_right hk2)
  obtain ⟨es, cl, g1, g2, g3⟩ := hP.map
  have hlm : lenMp (.map m) G2 = some (.d (.int .i64 L.length)) := by
   simp only [lenMp, g1]
   rw [g2.len, List.length_map]
  simp only [nilN_eql, optA_some, ifA_t, nilCk_ptr, ti89_f0, Nat.zero_add, Nat.add_zero, l0, hlm, intA_eql, ifA_ite]
  by_cases h100 : L.length = 100
  ·rw [if_pos (by omega)]
   exact leaf u G2 ((L, Q), [], false, 4) (by unfold tkS; rw [if_neg hvn, if_neg hk1, if_neg hpl, if_neg hno, if_neg hk2, if_pos h100]) hup (hP.mono (by omega)) true fun _ => rfl
  rw [if_neg (by omega)]
  simp only [drA_true, nilCk_ptr, ti89_f0, ti24_f1, ti24_f2, Nat.zero_add, Nat.add_zero, l0, lu 1 _ rfl, lu 2 _ rfl, optA_some, rsOf_d, ap_nil, true_and, aggL_d, noRsA_nil, bd135_1, stepK_some, sets_nil']
  refine box_open rfl fun p G3 hG3 hle3 hp => ?_
  have hP3 := hP.le hle3
  have hpf : ¬ sfoot k m mp L p := fun hh => by have := hP.isS hh; rw [hp] at this; cases this
  have hpp : p ∉ L.map (·.p) := fun hh => hpf (.inr (.inr (.inr hh)))
  have hpo : G3 p = some (newRm p t).obj := by
   rw [hG3]
   simp only [AV.cells, newRm, Rm.obj, Rm.cells, hb.2.2]
   rfl
  have g1' := hle3 _ _ g1
  have okn : (newRm p t).Ok := ⟨hv.1, .inl rfl, ⟨hb.1, hb.2.1⟩, ⟨Int.le_refl 0, by show (0 : Int) < 30; decide⟩, ⟨by simp [newRm], by simp [newRm]⟩, fun _ => rfl, fun _ => ⟨rfl, rfl⟩, fun hh => absurd hh (by show ¬ (0 : Int) = 1; decide), fun _ => rfl⟩
  have hadd := hP3.add (r := newRm p t) g1' g2 g3 hpo hno hpp okn (by omega)
  have hmu : muA Try.prog 3 (.map m) (.d (.int .i64 t.id)) (.ptr p 0 0 0) G3 = some (.junk, [(m, .map (es ++ [⟨.int .i64 t.id, .ptr p 0 0 0, cl⟩]) (cl + 1))]) := muA_ptr (mapNew g1' g2 (by rw [rkv_fst]; exact hno))
  simp only [aggL_ptr, noRsA_nil, hmu, stepK_some, sets_cons, sets_nil']
  exact leaf p _ ((L ++ [newRm p t], Q), [], true, 0) (by unfold tkS; rw [if_neg hvn, if_neg hk1, if_neg hpl, if_neg hno, if_neg hk2, if_neg h100]) hpp (hadd.mono (by omega)) true fun _ => rfl
end
end Go.Proofs.Ytofjhihigmimbaa
namespace Go.Proofs.Ytofjhihigmimbaa
open Go Go.AM Go.Proofs
def Bad (ps : List (Bool × List UInt8)) : Prop := ps.length < 1 ∨ 8 < ps.length ∨ tooLong ps = true
instance (ps : List (Bool × List UInt8)) : Decidable (Bad ps) := by unfold Bad; exact inferInstance
def Rm.answ (ps : List (Bool × List UInt8)) (r : Rm) : Rm := { r with state := 1, age := 0, nl := false, ps := ps }
def waiting (L : List Rm) (id : Int) : Option Rm := L.find? fun r => r.id == id && decide (r.state = 0)
def anS (f : Bool → Bool) (L : List Rm) (Q : List Pn) (id : Int) (ps : List (Bool × List UInt8)) : List Rm × Bool × List Tr × Int :=
 if Bad ps then (L, false, [], 2)
 else match waiting L id with
  | some r => (L.map fun x => if x.id = id then x.answ ps else x, false, rsps f id r.b ps, 0)
  | none => if 0 < manyOf Q id then (L, true, rsps f id (bOf Q id) ps, 0) else (L, false, [], 5)
def PDn (Q : List Pn) (id : Int) (Q' : List Pn) : Prop := ∀ x, manyOf Q' x = (if x = id then manyOf Q x - 1 else manyOf Q x) ∧ (0 < manyOf Q' x → bOf Q' x = bOf Q x)
theorem PcOk.of {ps : List (Bool × List UInt8)} (h : ¬ Bad ps) (hn : ∀ x ∈ ps, x.1 = true → x.2 = []) : PcOk ps := by
 refine ⟨Nat.le_of_not_lt fun hh => h (.inr (.inl hh)), fun x hx => ⟨Nat.le_of_not_lt fun hh => h (.inr (.inr ?_)), hn x hx⟩⟩
 unfold tooLong
 rw [List.any_eq_true]
 exact ⟨x, hx, decide_eq_true hh⟩
theorem Rm.Ok.answ {r : Rm} (h : r.Ok) {ps : List (Bool × List UInt8)} (hb : ¬ Bad ps) (hp : PcOk ps) : (r.answ ps).Ok :=
 ⟨h.id, .inr (.inl rfl), h.b, ⟨Int.le_refl 0, by show (0 : Int) < 30; decide⟩, hp, fun hh => (by cases hh), fun hh => absurd rfl hh, fun _ => Nat.le_of_not_lt fun hh => hb (.inl hh), fun _ => rfl⟩
theorem waiting_some {L : List Rm} (hn : (L.map (·.id)).Nodup) {i : Nat} {r : Rm} (hi : L[i]? = some r) (hs : r.state = 0) : waiting L r.id = some r := by
 have hm := List.mem_of_getElem? hi
 clear hi
 unfold waiting
 induction L with
 | nil => simp at hm
 | cons a l ih =>
  rw [List.map_cons, List.nodup_cons] at hn
  rw [List.find?_cons]
  rcases List.mem_cons.1 hm with rfl | h2
  ·simp [hs]
  ·have : a.id ≠ r.id := fun he => hn.1 (he ▸ List.mem_map.2 ⟨r, h2, rfl⟩)
   have hb : (a.id == r.id) = false := by simpa using this
   rw [hb]
   exact ih hn.2 h2
theorem waiting_none {L : List Rm} {id : Int} (h : ∀ r ∈ L, r.id = id → r.state ≠ 0) : waiting L id = none := by
 unfold waiting
 rw [List.find?_eq_none]
 intro r hr hh
 simp only [Bool.and_eq_true, beq_iff_eq, decide_eq_true_eq] at hh
 exact h r hr hh.1 hh.2
section
variable {H G : AHeap} {k m mp : Nat} {L : List Rm} {Q : List Pn} {n : Nat} {K : AV → AHeap → Prop}
theorem fz_open {H : AHeap} {X : AHeap → Prop} (H1 : AHeap) (h : Fz H H1) (hx : X H1) : fzX true H X := ⟨H1, h, hx⟩
theorem PDn.set {Q : List Pn} (hn : (Q.map (·.id)).Nodup) {i : Nat} {q : Pn} (hi : Q[i]? = some q) : PDn Q q.id (Q.set i { q with many := q.many - 1 }) := fun x => by
 obtain ⟨h1, h2⟩ := of_set (q' := { q with many := q.many - 1 }) hn hi rfl (x := x)
 have hm := of_mem hn (List.mem_of_getElem? hi)
 by_cases hx : x = q.id
 ·obtain ⟨a, b⟩ := h1 hx
  rw [if_pos hx]
  subst hx
  rw [a, b, hm.1, hm.2]
  exact ⟨rfl, fun _ => rfl⟩
 ·obtain ⟨a, b⟩ := h2 hx
  rw [if_neg hx, a, b]
  exact ⟨rfl, fun _ => rfl⟩
theorem PDn.del {Q : List Pn} (hn : (Q.map (·.id)).Nodup) {i : Nat} {q : Pn} (hi : Q[i]? = some q) (h1 : q.many = 1) : PDn Q q.id (Q.eraseIdx i) := fun x => by
 obtain ⟨g1, g2⟩ := of_del hn hi (x := x)
 have hm := of_mem hn (List.mem_of_getElem? hi)
 by_cases hx : x = q.id
 ·have a := g1 hx
  rw [if_pos hx, a]
  subst hx
  rw [hm.1, h1]
  exact ⟨by omega, fun hh => by omega⟩
 ·obtain ⟨a, b⟩ := g2 hx
  rw [if_neg hx, a, b]
  exact ⟨rfl, fun _ => rfl⟩
theorem pcD_take {ps : List (Bool × List UInt8)} {j : Nat} (h : j < ps.length) : pcD (ps.take (j + 1)) = pcD (ps.take j) ++ [[.sl (ps.getD j (true, [])).1 (bs (ps.getD j (true, [])).2)]] := by
 rw [List.take_succ_eq_append_getElem h, List.getD_eq_getElem?_getD, List.getElem?_eq_getElem h]
 simp only [pcD, List.map_append, List.map_cons, List.map_nil]
 rfl
theorem pcD_1 {ps : List (Bool × List UInt8)} : ∀ c ∈ pcD ps, c.length = 1 := fun c hc => by
 obtain ⟨x, _, rfl⟩ := List.mem_map.1 hc
 rfl
theorem sanswer_c (h : PS H k m mp L Q n) (hn : n < 2 ^ 40) {id : Int} {nl : Bool} {ps : List (Bool × List UInt8)} (hpl : ps.length < 2 ^ 40) (hpn : ∀ x ∈ ps, x.1 = true → x.2 = [])
  (hk : ∀ H' Q', (if (anS (fun x => x) L Q id ps).2.1 then PDn Q id Q' else Q' = Q) → PS H' k m mp (anS (fun x => x) L Q id ps).1 Q' n → ∀ nl', (nl' = true → (anS (fun x => x) L Q id ps).2.2.1 = []) → K (.tup [.d (.sl nl' ((anS (fun x => x) L Q id ps).2.2.1.map Tr.dats)), .d (.int .i64 (anS (fun x => x) L Q id ps).2.2.2)]) H') : CallsA Try.prog 39 [.ptr k 0 0 0, .d (.int .i64 id), .d (.sl nl (pcD ps))] H K := by
 have hlen : (pcD ps).length = ps.length := by simp [pcD]
 apply C39j
 unfold S39j
 have leaf : ∀ (G' : AHeap) (Q' : List Pn) (r : List Rm × Bool × List Tr × Int), anS (fun x => x) L Q id ps = r → (if r.2.1 then PDn Q id Q' else Q' = Q) → PS G' k m mp r.1 Q' n → ∀ nl', (nl' = true → r.2.2.1 = []) → retF [.d (.sl nl' (r.2.2.1.map Tr.dats)), .d (.int .i64 r.2.2.2)] G' K := by
  intro G' Q' r hr h0 h1 nl' h2
  subst hr
  rw [ret2_dd]
  exact ⟨G', le_refl', hk G' Q' h0 h1 nl' h2⟩
 simp only [frzLK_ptr, frzLK_nil]
 refine h.none ?_
 simp only [ifA_f, frzLK_d, frzLK_func, frzLK_nil]
 refine long_c hpl ?_
 refine jnX_inv (fun vs G' => G' = H ∧ vs = [.ptr k 0 0 0, .d (.int .i64 id), .d (.sl nl (pcD ps)), .junk, .d (.bool (decide (Bad ps))), .junk, .junk, .junk]) ?_ fun X hX => ?_
 rotate_left
 ·simp only [lenSl_d, hlen, optA_some, frzLK_d, frzLK_nil]
  refine within_c ?_
  simp only [unA_not, optA_some]
  by_cases hw : (1 : Int) ≤ ps.length ∧ (ps.length : Int) ≤ 8
  ·simp only [decide_eq_true hw, Bool.not_true, ifA_f]
   refine hX _ _ ⟨rfl, ?_⟩
   have : tooLong ps = decide (Bad ps) := by
    cases ht : tooLong ps
    ·symm
     refine decide_eq_false fun hh => ?_
     rcases hh with hh | hh | hh
     ·omega
     ·omega
     ·rw [ht] at hh; cases hh
    ·symm
     exact decide_eq_true (.inr (.inr ht))
   rw [this]
  ·simp only [decide_eq_false hw, Bool.not_false, ifA_t]
   refine hX _ _ ⟨rfl, ?_⟩
   have : Bad ps := by
    by_cases hh : ps.length < 1
    ·exact .inl hh
    ·exact .inr (.inl (by omega))
   rw [decide_eq_true this]
 rintro vs G' ⟨rfl, rfl⟩
 simp only [List.getD_cons_succ, List.getD_cons_zero, ifA_ite]
 by_cases hbad : Bad ps
 ·rw [if_pos hbad]
  exact leaf G' Q (L, false, [], 2) (by unfold anS; rw [if_pos hbad]) rfl h true fun _ => rfl
 rw [if_neg hbad]
 have hpc := PcOk.of hbad hpn
 have hl8 := hpc.len
 have hl1 : 1 ≤ ps.length := Nat.le_of_not_lt fun hh => hbad (.inl hh)
 have l0 : ldV false 1 (.ptr k 0 0 0) G' = some (.map m) := ldV_at h.node rfl rfl
 have l1 : ldV false 1 (.ptr k 0 0 1) G' = some (.map mp) := ldV_at h.node rfl rfl
 simp only [nilCk_ptr, ti89_f0, Nat.zero_add, Nat.add_zero, l0, optA_some, keyI]
 by_cases hwt : ∃ (i : Nat) (r : Rm), L[i]? = some r ∧ r.id = id ∧ r.state = 0
 ·-- it waits for its answer
  obtain ⟨i, r, hi, rfl, hs0⟩ := hwt
  have hok := h.ok r (List.mem_of_getElem? hi)
  have hr := h.obj r (List.mem_of_getElem? hi)
  have hps0 := (hok.no (by omega)).1
  have hnl0 := (hok.no (by omega)).2
  have han : anS (fun x => x) L Q r.id ps = (L.set i (r.answ ps), false, rsps (fun x => x) r.id r.b ps, 0) := by
   have e := map_key_set (key := (·.id)) (g := Rm.answ ps) h.ids hi
   unfold anS
   rw [if_neg hbad, waiting_some h.ids hi hs0]
   simp only
   rw [e]
  have hupd := h.upd hi (r' := r.answ ps) rfl rfl (hok.answ hbad hpc)
  have lr0 : ldV false 1 (.ptr r.p 0 0 0) G' = some (.d (.int .i64 r.state)) := ldV_at hr rfl rfl
  simp only [h.look hi, optA_some]
  refine jnX_inv (fun vs G2 => G2 = G' ∧ vs = [.ptr k 0 0 0, .d (.int .i64 r.id), .d (.sl nl (pcD ps)), .ptr r.p 0 0 0, .d (.bool true), .junk, .junk, .junk]) ?_ fun X hX => ?_
  rotate_left
  ·simp only [List.getD_cons_succ, List.getD_cons_zero, nilP_neq, optA_some, ifA_t, nilCk_ptr, ti135_f0, Nat.zero_add, Nat.add_zero, lr0, intA_eql, decide_eq_true hs0]
   exact hX _ _ ⟨rfl, rfl⟩
  rintro vs G2 ⟨rfl, rfl⟩
  have cell (v : AV) : AObj := .mem 0 0 4 [[.d (.int .i64 1), .d (.int .i64 r.b), v, .d (.int .i64 0)]]
  have s1 : stoA false 1 (.ptr r.p 0 0 0) (.d (.int .i64 1)) G2 = some (.junk, [(r.p, ({ r with state := 1 } : Rm).obj)]) := stoA_at hr (Nat.le_refl 0) rfl (show 0 < 4 by decide) rfl rfl
  have s2 : stoA false 1 (.ptr r.p 0 0 3) (.d (.int .i64 0)) (G2.set r.p ({ r with state := 1 } : Rm).obj) = some (.junk, [(r.p, ({ r with state := 1, age := 0 } : Rm).obj)]) := stoA_at (set_self (o := ({ r with state := 1 } : Rm).obj)) (Nat.le_refl 0) rfl (show 3 < 4 by decide) rfl rfl
  simp only [List.getD_cons_succ, List.getD_cons_zero, ifA_t, nilCk_ptr, ti135_f0, ti135_f3, Nat.zero_add, Nat.add_zero, optA_some, s1, stepK_some, sets_cons, sets_nil', s2, set_set, lenSl_d, hlen]
  -- the pieces are kept
  refine loop_ind (fun c vs G3 => ∃ (j : Nat) (v : AV), j ≤ ps.length ∧ c = ps.length - j ∧ vs = [.d (.int .i64 r.id), .ptr r.p 0 0 0, .d (.sl nl (pcD ps)), .d (.int .i64 (ps.length : Int)), .d (.int .i64 (j : Int))] ∧ Ms 1 G3 v (pcD (ps.take j)) ∧ G3 r.p = some (.mem 0 0 4 [[.d (.int .i64 1), .d (.int .i64 r.b), v, .d (.int .i64 0)]]) ∧ (∀ i, (G2 i).isSome → i ≠ r.p → G3 i = G2 i) ∧ (∀ i, idOf v = some i → G2 i = none)) (n := ps.length) ⟨0, .d (.sl true []), Nat.zero_le _, rfl, rfl, Ms.nil, ?_, fun i _ hne => set_ne hne, fun i hi => by cases hi⟩ ?_
  ·rw [set_self]
   simp only [Rm.obj, Rm.cells, hps0, hnl0]
   rfl
  rintro X c vs G3 ⟨j, v, hj, rfl, rfl, hv, ho, hfr, hnew⟩ hX
  have hvp : ∀ i, idOf v = some i → i ≠ r.p := fun i hi he => by have := hnew i hi; rw [he, hr] at this; cases this
  by_cases hjl : j < ps.length
  ·have hlt : (j : Int) < (ps.length : Int) := by omega
   have hw : IntKind.i64.wrap ((j : Int) + 1) = ((j + 1 : Nat) : Int) := by rw [wrap_i64 (by omega) (by omega)]; omega
   have lv : ldV false 1 (.ptr r.p 0 0 2) G3 = some v := ldV_at ho rfl rfl
   have hx := hpc.ok _ (List.mem_of_getElem? (pc_get hjl))
   simp only [List.getD_cons_succ, List.getD_cons_zero, intA_lss, optA_some, hlt, decide_true, ifA_t]
   rw [ix51 (pc_get hjl) (H := G3), optA_some, ldB, optA_some]
   refine fz_open G3 (.refl _) ?_
   simp only [drA_true, nilCk_ptr, ti135_f2, Nat.zero_add, lv, optA_some, rsOf_d, ap_nil, true_and, aggL_d, noRsA_nil, frzLK_d, frzLK_nil]
   refine ⟨_, clone_c (by omega) hx.2 ⟨rfl, le_refl'⟩, ?_⟩
   simp only [rsOf_d, ap_nil, true_and, aggL_d, noRsA_nil]
   intro n1 hn1
   simp only [bs22_x, stepK_some, sets_nil']
   refine hv.app (ys := [[.sl (ps.getD j (true, [])).1 (bs (ps.getD j (true, [])).2)]]) elemsA_1 (by decide) (by decide) (by simp) (by simp [pcD, mostBytes]; omega) fun v' G4 a1 a2 a3 _ => ?_
   have ho4 : G4 r.p = some (.mem 0 0 4 [[.d (.int .i64 1), .d (.int .i64 r.b), v, .d (.int .i64 0)]]) := by rw [a2 r.p (by rw [ho]; rfl) (fun hh => hvp _ hh rfl)]; exact ho
   have hagg : aggL v' = [] := by rcases a1.2 with ⟨rfl, _⟩ | ⟨i, ver, L, rfl, _⟩ <;> rfl
   have st : stoA false 1 (.ptr r.p 0 0 2) v' G4 = some (.junk, [(r.p, .mem 0 0 4 [[.d (.int .i64 1), .d (.int .i64 r.b), v', .d (.int .i64 0)]])]) := stoA_at ho4 (Nat.le_refl 0) rfl (show 2 < 4 by decide) a1.st.1 a1.st.2
   have hnew' : ∀ i, idOf v' = some i → G2 i = none := fun i hi => by
    rcases a3 i hi with h1 | h1
    ·exact hnew i h1
    ·cases hg : G2 i with
     | none => rfl
     | some o =>
      by_cases hip : i = r.p
      ·rw [hip, ho] at h1; cases h1
      ·rw [hfr i (by rw [hg]; rfl) hip, hg] at h1; cases h1
   simp only [nilCk_ptr, ti135_f2, Nat.zero_add, optA_some, hagg, noRsA_nil, st, stepK_some, sets_cons, sets_nil', List.getD_cons_succ, List.getD_cons_zero, intA_add, hw]
   refine hX (ps.length - (j + 1)) _ _ (by omega) ⟨j + 1, v', by omega, rfl, rfl, ?_, set_self, fun i hi hne => ?_, hnew'⟩
   ·rw [pcD_take hjl]
    exact a1.keep fun i hi => set_ne (a1.ne ho4 (by simp [osz]) hi)
   ·rw [set_ne hne, a2 i (by rw [hfr i hi hne]; exact hi) (fun hh => by have := hnew i hh; rw [this] at hi; cases hi), hfr i hi hne]
  ·have hjl : j = ps.length := by omega
   subst hjl
   rw [List.take_length] at hv
   simp only [List.getD_cons_succ, List.getD_cons_zero, intA_lss, optA_some, Int.lt_irrefl, decide_false, ifA_f]
   obtain ⟨us, f1, _, _, f4⟩ := hv.frz
   have hus : ∀ o, (r.p, o) ∉ us := fun o hm => by
    have := f4 r.p
    rcases hv.2 with ⟨rfl, _⟩ | ⟨i, ver, L', rfl, g1, _⟩
    ·simp only [AM.frz, Option.some.injEq, Prod.mk.injEq] at f1; rw [← f1.2] at hm; cases hm
    ·simp only [AM.frz, g1, if_true] at f1
     split at f1
     ·split at f1
      ·simp only [Option.some.injEq, Prod.mk.injEq] at f1
       rw [← f1.2] at hm
       simp only [List.mem_singleton, Prod.mk.injEq] at hm
       exact hvp i rfl hm.1.symm
      ·cases f1
     ·cases f1
   have hnlv : nilS v = false := by
    rcases hv.2 with ⟨rfl, h0⟩ | ⟨i, ver, L', rfl, _⟩
    ·have : (pcD ps).length = 0 := by rw [h0]; rfl
     omega
    ·rfl
   rw [hnlv] at f1
   refine fz_open _ (fz_cell (k := r.p) (e := 0) (off := 2) (cs := [.d (.int .i64 1), .d (.int .i64 r.b), v, .d (.int .i64 0)]) f1 ho hus rfl rfl) ?_
   have hobj : AObj.mem 0 0 4 (List.set [[AV.d (.int .i64 1), .d (.int .i64 r.b), v, .d (.int .i64 0)]] 0 (List.set [AV.d (.int .i64 1), .d (.int .i64 r.b), v, .d (.int .i64 0)] 2 (.d (.sl false (pcD ps))))) = (r.answ ps).obj := rfl
   rw [hobj]
   have hP5 : PS ((G3.sets us).set r.p (r.answ ps).obj) k m mp (L.set i (r.answ ps)) Q n := hupd.keep fun x hx => by
    by_cases hxp : x = r.p
    ·rw [hxp, set_self, set_self]
    ·rw [set_ne hxp, set_ne hxp]
     have hxs : (G2 x).isSome := by
      have := hupd.isS hx
      rw [set_ne hxp] at this; exact this
     have : idOf v ≠ some x := fun hh => by have := hnew x hh; rw [this] at hxs; cases hxs
     rw [f4 x this, hfr x hxs hxp]
   have hr5 := hP5.obj (r.answ ps) (List.mem_of_getElem? (List.getElem?_set_self (List.getElem?_eq_some_iff.1 hi).1))
   have q1 : ldV false 1 (.ptr r.p 0 0 1) ((G3.sets us).set r.p (r.answ ps).obj) = some (.d (.int .i64 r.b)) := ldV_at hr5 rfl rfl
   have q2 : ldV false 1 (.ptr r.p 0 0 2) ((G3.sets us).set r.p (r.answ ps).obj) = some (.d (.sl false (pcD ps))) := ldV_at hr5 rfl rfl
   simp only [drA_true, nilCk_ptr, ti135_f1, ti135_f2, Nat.zero_add, q1, q2, optA_some, aggL_d, noRsA_nil, frzLK_d, frzLK_nil]
   refine ⟨_, resp_c hok.b.2 hpc ⟨rfl, le_refl'⟩, ?_⟩
   exact leaf _ Q _ han rfl hP5 _ fun hh => by simpa using hh
 ·-- it does not
  have hnw : ∀ r ∈ L, r.id = id → r.state ≠ 0 := fun r hr he hs => by
   obtain ⟨i, hi⟩ := List.getElem?_of_mem hr
   exact hwt ⟨i, r, hi, he, hs⟩
  have han : anS (fun x => x) L Q id ps = if 0 < manyOf Q id then (L, true, rsps (fun x => x) id (bOf Q id) ps, 0) else (L, false, [], 5) := by
   unfold anS
   rw [if_neg hbad, waiting_none hnw]
  have hlk : ∃ v, lookA .nilptr (.map m) (.d (.int .i64 id)) false G' = some v ∧ (v = .nilptr ∨ ∃ r ∈ L, v = .ptr r.p 0 0 0 ∧ r.state ≠ 0) := by
   rcases rid_cases L id with ⟨i, r, hi, rfl⟩ | hno
   ·exact ⟨_, h.look hi, .inr ⟨r, List.mem_of_getElem? hi, rfl, hnw r (List.mem_of_getElem? hi) rfl⟩⟩
   ·exact ⟨_, h.look_no hno, .inl rfl⟩
  obtain ⟨v, hv, hvc⟩ := hlk
  simp only [hv, optA_some]
  refine jnX_inv (fun vs G2 => G2 = G' ∧ vs = [.ptr k 0 0 0, .d (.int .i64 id), .d (.sl nl (pcD ps)), v, .d (.bool false), .junk, .junk, .junk]) ?_ fun X hX => ?_
  rotate_left
  ·rcases hvc with rfl | ⟨r, hr, rfl, hs⟩
   ·simp only [List.getD_cons_succ, List.getD_cons_zero, nilN_neq, optA_some, ifA_f]
    exact hX _ _ ⟨rfl, rfl⟩
   ·have lr0 : ldV false 1 (.ptr r.p 0 0 0) G' = some (.d (.int .i64 r.state)) := ldV_at (h.obj r hr) rfl rfl
    simp only [List.getD_cons_succ, List.getD_cons_zero, nilP_neq, optA_some, ifA_t, nilCk_ptr, ti135_f0, Nat.zero_add, Nat.add_zero, lr0, intA_eql, decide_eq_false hs]
    exact hX _ _ ⟨rfl, rfl⟩
  rintro vs G2 ⟨rfl, rfl⟩
  obtain ⟨b0, m1, m2, m3, m4⟩ := h.many id
  simp only [List.getD_cons_succ, List.getD_cons_zero, ifA_f, nilCk_ptr, ti89_f1, Nat.zero_add, l1, optA_some, keyI, m1]
  refine alloc_open fun u G3 hG3 hle3 hu => ?_
  have hP3 := h.le hle3
  have huf : ¬ sfoot k m mp L u := fun hh => by have := h.isS hh; rw [hu] at this; cases this
  have s1 : stoA true 2 (.ptr u 0 0 0) (.agg [.d (.int .i64 (manyOf Q id)), .d (.int .i64 b0)]) G3 = some (.junk, [(u, .mem 0 0 2 [[.d (.int .i64 (manyOf Q id)), .d (.int .i64 b0)]])]) := by
   rw [stoA_agg]
   simp only [frzL, frz, AHeap.sets, List.append_nil, stoA, stA, hG3, AV.storable, AV.cells, List.length_cons, List.length_nil, Nat.le_refl, and_self, if_true, List.getElem?_cons_zero, Bool.false_eq_true, if_false, setCells, List.take_zero, List.nil_append, List.set_cons_zero, List.drop_succ_cons, List.drop_zero, Nat.zero_add]
  simp only [s1, stepK_some, sets_cons, sets_nil']
  have hP4 : PS (G3.set u (.mem 0 0 2 [[.d (.int .i64 (manyOf Q id)), .d (.int .i64 b0)]])) k m mp L Q n := hP3.keep fun i hi => set_ne fun he => huf (he ▸ hi)
  generalize hG4 : G3.set u (.mem 0 0 2 [[.d (.int .i64 (manyOf Q id)), .d (.int .i64 b0)]]) = G4 at hP4
  have hu4 : G4 u = some (.mem 0 0 2 [[.d (.int .i64 (manyOf Q id)), .d (.int .i64 b0)]]) := by rw [← hG4]; exact set_self
  have k1 : ldV false 1 (.ptr k 0 0 1) G4 = some (.map mp) := ldV_at hP4.node rfl rfl
  have c0 : ldV false 1 (.ptr u 0 0 0) G4 = some (.d (.int .i64 (manyOf Q id))) := ldV_at hu4 rfl rfl
  have c1 : ldV false 1 (.ptr u 0 0 1) G4 = some (.d (.int .i64 b0)) := ldV_at hu4 rfl rfl
  refine jnX_inv (fun vs G5 => ∃ Q', PDn Q id Q' ∧ PS G5 k m mp L Q' n ∧ G5 u = G4 u ∧ 0 < manyOf Q id ∧ vs = [.d (.int .i64 id), .d (.sl nl (pcD ps)), v, .ptr u 0 0 0, .junk, .junk, .junk]) ?_ fun X hX => ?_
  ·rintro vs G5 ⟨Q', q1, q2, q3, q4, rfl⟩
   have c5 : ldV false 1 (.ptr u 0 0 1) G5 = some (.d (.int .i64 b0)) := ldV_at (q3.trans hu4) rfl rfl
   have hb0 := m2 q4
   have hb256 : bOf Q id < 256 := by
    rcases pid_cases Q id with ⟨i, q, hi, rfl⟩ | hno
    ·rw [(of_mem h.qids (List.mem_of_getElem? hi)).2]; exact (h.qok q (List.mem_of_getElem? hi)).2.2.2
    ·rw [of_no hno] at q4; omega
   simp only [List.getD_cons_succ, List.getD_cons_zero, ti133_f1, Nat.zero_add, c5, optA_some, frzLK_d, frzLK_nil]
   rw [hb0]
   refine resp_c hb256 hpc ?_
   exact leaf G5 Q' (L, true, rsps (fun x => x) id (bOf Q id) ps, 0) (by rw [han, if_pos q4]) q1 q2 _ fun hh => by simpa using hh
  ·simp only [List.getD_cons_succ, List.getD_cons_zero, ti133_f0, Nat.zero_add, Nat.add_zero, c0, optA_some, intA_eql, ifA_ite]
   by_cases h0 : manyOf Q id = 0
   ·rw [if_pos h0]
    exact leaf G4 Q (L, false, [], 5) (by rw [han, if_neg (by omega)]) rfl hP4 true fun _ => rfl
   rw [if_neg h0]
   obtain ⟨i, q, hi, rfl⟩ : ∃ (i : Nat) (q : Pn), Q[i]? = some q ∧ q.id = id := by
    rcases pid_cases Q id with h1 | hno
    ·exact h1
    ·exact absurd (of_no hno) h0
   have hm := of_mem h.qids (List.mem_of_getElem? hi)
   have hq := h.qok q (List.mem_of_getElem? hi)
   obtain ⟨es, cl, g1, g2⟩ := hP4.pmap
   have hkv : (Q.map Pn.kv)[i]? = some (q.id, .agg [.d (.int .i64 q.many), .d (.int .i64 q.b)]) := by rw [List.getElem?_map, hi]; rfl
   have ump : u ≠ mp := fun he => huf (.inr (.inr (.inl he)))
   by_cases h1 : manyOf Q q.id = 1
   ·rw [if_pos h1]
    simp only [nilCk_ptr, ti89_f1, Nat.zero_add, k1, optA_some, mapDel g1 g2 (by rw [pkv_fst]; exact h.qids) hkv, stepK_some, sets_cons, sets_nil']
    refine hX _ _ ⟨Q.eraseIdx i, PDn.del h.qids hi (by rw [← hm.1]; exact h1), ?_, set_ne ump, by omega, rfl⟩
    refine hP4.pset ?_ ?_ fun x hx => h.qok x ((List.eraseIdx_sublist Q i).subset hx)
    ·rw [map_erase]; exact g2.del i
    ·rw [map_erase]; exact (List.eraseIdx_sublist _ i).nodup h.qids
   ·rw [if_neg h1]
    have hw : IntKind.i64.wrap (manyOf Q q.id - 1) = manyOf Q q.id - 1 := wrap_i64 (by omega) (by omega)
    have hmu : muA Try.prog 3 (.map mp) (.d (.int .i64 q.id)) (.agg [.d (.int .i64 (manyOf Q q.id - 1)), .d (.int .i64 b0)]) G4 = some (.junk, _) := muA_agg (mapPut g1 g2 (by rw [pkv_fst]; exact h.qids) hkv)
    refine fz_open G4 (.refl _) ?_
    simp only [drA_true, nilCk_ptr, ti89_f1, ti133_f0, ti133_f1, Nat.zero_add, Nat.add_zero, k1, c0, c1, optA_some, intA_sub, hw, rsOf_d, ap_nil, true_and, aggL_d, noRsA_nil, bd133_2, stepK_some, sets_nil', aggL_agg, noRsA_cons, noRs_d, hmu, sets_cons]
    refine hX _ _ ⟨Q.set i { q with many := q.many - 1 }, PDn.set h.qids hi, ?_, set_ne ump, by omega, rfl⟩
    have hb0 : b0 = q.b := by rw [m2 (by omega), hm.2]
    refine hP4.pset ?_ ?_ fun x hx => ?_
    ·rw [List.map_set]
     have := Kv.put (v' := .agg [.d (.int .i64 (q.many - 1)), .d (.int .i64 q.b)]) g2 hkv
     rw [hm.1, hb0]
     exact this
    ·rw [set_ids (q' := { q with many := q.many - 1 }) hi rfl]; exact h.qids
    ·rcases List.mem_or_eq_of_mem_set hx with h3 | h3
     ·exact h.qok x h3
     ·rw [h3]; exact ⟨by show 1 ≤ q.many - 1; omega, by show q.many - 1 ≤ _; omega, hq.2.2⟩
end
end Go.Proofs.Ytofjhihigmimbaa
namespace Go.Proofs.Ytofjhihigmimbaa
open Go Go.AM Go.Proofs
def Rm.tick (r : Rm) : Rm := if r.state = 0 then r else { r with age := r.age + 1 }
def Rm.keep (r : Rm) : Bool := decide (r.age < 30)
def tickL (L : List Rm) : List Rm := (L.map Rm.tick).filter Rm.keep
def tkD (L : List Rm) (D : List Int) : List Rm := (L.map fun r => if r.id ∈ D then r.tick else r).filter Rm.keep
theorem tick_same {r : Rm} : r.tick.id = r.id ∧ r.tick.p = r.p := by unfold Rm.tick; split <;> exact ⟨rfl, rfl⟩
theorem filter_set {M : List Rm} (h : ∀ y ∈ M, y.keep = true) : ∀ {i : Nat} {x : Rm}, i < M.length → (M.set i x).filter Rm.keep = if x.keep then M.set i x else M.eraseIdx i := by
 induction M with
 | nil => intro i x hi; simp at hi
 | cons a M ih =>
  have h1 := h a (by simp)
  have h2 : ∀ y ∈ M, y.keep = true := fun y hy => h y (by simp [hy])
  have h3 : M.filter Rm.keep = M := List.filter_eq_self.2 h2
  intro i x hi
  cases i with
  | zero =>
   rw [List.set_cons_zero, List.filter_cons, h3, List.eraseIdx_cons_zero]
  | succ i =>
   rw [List.set_cons_succ, List.filter_cons, h1, if_pos rfl, ih h2 (by simpa using hi), List.eraseIdx_cons_succ]
   split <;> rfl
theorem tkD_step {L : List Rm} (h : ∀ r ∈ L, r.keep = true) {D : List Int} {id : Int} (hd : id ∉ D) : tkD L (D ++ [id]) = ((tkD L D).map fun x => if x.id = id then x.tick else x).filter Rm.keep := by
 unfold tkD
 induction L with
 | nil => rfl
 | cons a L ih =>
  have h1 := h a (by simp)
  have ih := ih fun r hr => h r (by simp [hr])
  simp only [List.map_cons, List.filter_cons]
  by_cases ha : a.id ∈ D
  ·have ha' : a.id ∈ D ++ [id] := List.mem_append_left _ ha
   have hne : a.id ≠ id := fun he => hd (he ▸ ha)
   simp only [if_pos ha, if_pos ha']
   split
   ·rename_i hk
    rw [List.map_cons, if_neg (by rw [tick_same.1]; exact hne), List.filter_cons, if_pos hk, ih]
   ·exact ih
  ·simp only [if_neg ha, h1, if_true, List.map_cons, List.filter_cons]
   by_cases he : a.id = id
   ·have ha' : a.id ∈ D ++ [id] := by simp [he]
    simp only [if_pos ha', if_pos he, ih]
   ·have ha' : a.id ∉ D ++ [id] := by simp [he, ha]
    simp only [if_neg ha', if_neg he, h1, if_true, ih]
theorem tkD_nil {L : List Rm} (h : ∀ r ∈ L, r.keep = true) : tkD L [] = L := by
 unfold tkD
 simp only [List.not_mem_nil, if_false, List.map_id']
 exact List.filter_eq_self.2 h
theorem tkD_all {L : List Rm} {D : List Int} (h : ∀ r ∈ L, r.id ∈ D) : tkD L D = tickL L := by
 unfold tkD tickL
 congr 1
 exact List.map_congr_left fun r hr => if_pos (h r hr)
theorem tkD_mem {L : List Rm} {D : List Int} {r : Rm} (hr : r ∈ tkD L D) : r.keep = true ∧ ∃ y ∈ L, y.id = r.id ∧ (r.id ∉ D → y = r) := by
 unfold tkD at hr
 obtain ⟨h1, h2⟩ := List.mem_filter.1 hr
 obtain ⟨y, hy, he⟩ := List.mem_map.1 h1
 refine ⟨h2, y, hy, ?_, fun hd => ?_⟩
 ·subst he; split
  ·exact tick_same.1.symm
  ·rfl
 ·split at he
  ·rename_i hyd; subst he; rw [tick_same.1] at hd; exact absurd hyd hd
  ·exact he
section
variable {H G : AHeap} {k m mp : Nat} {L : List Rm} {Q : List Pn} {n : Nat} {K : AV → AHeap → Prop}
theorem PS.del (h : PS H k m mp L Q n) {i : Nat} {es : List MEnt} {cl : Nat} (h1 : H m = some (.map es cl)) (h2 : Kv es (L.map Rm.kv)) (h3 : (∀ e ∈ es, e.born < cl) ∧ (es.map (·.born)).Nodup) : PS (H.set m (.map (es.eraseIdx i) cl)) k m mp (L.eraseIdx i) Q n := by
 have hkm : k ≠ m := fun he => by have := h.node; rw [he, h1] at this; cases this
 obtain ⟨es2, cl2, g1, g2⟩ := h.pmap
 refine ⟨by rw [set_ne hkm]; exact h.node, ⟨_, cl, set_self, by rw [map_erase]; exact h2.del i, fun e he => h3.1 e (erase_mem he), ?_⟩, ⟨es2, cl2, by rw [set_ne (Ne.symm h.ne)]; exact g1, g2⟩, h.ne, fun q hq => ?_, ?_, ?_, h.qids, fun q hq => h.ok q (erase_mem hq), h.qok, ?_⟩
 ·rw [map_erase]; exact (List.eraseIdx_sublist _ i).nodup h3.2
 ·have := h.obj q (erase_mem hq)
  rw [set_ne fun he => by rw [he, h1] at this; cases this]; exact this
 ·rw [map_erase]; exact (List.eraseIdx_sublist _ i).nodup h.ids
 ·rw [map_erase]; exact (List.eraseIdx_sublist _ i).nodup h.ps
 ·exact Nat.le_trans (List.length_eraseIdx_le ..) h.len
theorem kv_at {es : List MEnt} {L : List Rm} (h : Kv es (L.map Rm.kv)) {i : Nat} {e : MEnt} (he : es[i]? = some e) : ∃ r, L[i]? = some r ∧ e.key = .int .i64 r.id ∧ e.val = .ptr r.p 0 0 0 := by
 have := congrArg (fun x => x[i]?) h
 simp only [List.getElem?_map, he, Option.map_some] at this
 cases hr : L[i]? with
 | none => rw [hr] at this; cases this
 | some r =>
  rw [hr] at this
  simp only [Option.map_some, Option.some.injEq, Prod.mk.injEq] at this
  exact ⟨r, rfl, this.1, this.2⟩
theorem kv_to {es : List MEnt} {L : List Rm} (h : Kv es (L.map Rm.kv)) {i : Nat} {r : Rm} (hr : L[i]? = some r) : ∃ e, es[i]? = some e ∧ e.key = .int .i64 r.id ∧ e.val = .ptr r.p 0 0 0 := by
 have := congrArg (fun x => x[i]?) h
 simp only [List.getElem?_map, hr, Option.map_some] at this
 cases he : es[i]? with
 | none => rw [he] at this; cases this
 | some e =>
  rw [he] at this
  simp only [Option.map_some, Option.some.injEq, Prod.mk.injEq] at this
  exact ⟨e, rfl, this.1, this.2⟩
theorem find_born {es : List MEnt} (hn : (es.map (·.born)).Nodup) {e : MEnt} (he : e ∈ es) : es.find? (fun x => x.born == e.born) = some e := by
 induction es with
 | nil => simp at he
 | cons a l ih =>
  rw [List.map_cons, List.nodup_cons] at hn
  rw [List.find?_cons]
  rcases List.mem_cons.1 he with rfl | h2
  ·simp
  ·have : a.born ≠ e.born := fun hh => hn.1 (hh ▸ List.mem_map.2 ⟨e, h2, rfl⟩)
   have hb : (a.born == e.born) = false := by simpa using this
   rw [hb]
   exact ih hn.2 h2
theorem ok_keep {r : Rm} (h : r.Ok) : r.keep = true := decide_eq_true h.age.2
set_option maxHeartbeats 1000000 in
theorem stick_c (h : PS H k m mp L Q n) (hk : ∀ H', PS H' k m mp (tickL L) Q n → K (.d (.int .i64 0)) H') : CallsA Try.prog 40 [.ptr k 0 0 0] H K := by
 apply C40
 unfold S40
 have keepL : ∀ r ∈ L, r.keep = true := fun r hr => ok_keep (h.ok r hr)
 simp only [frzLK_ptr, frzLK_nil]
 refine h.none ?_
 have l0 : ldV false 1 (.ptr k 0 0 0) H = some (.map m) := ldV_at h.node rfl rfl
 obtain ⟨es0, cl, g1, g2, g3⟩ := h.map
 have hrg : ∀ n10, rgA (.map m) H n10 = some (.it n10, [(n10, .iter m cl [] cl)]) := fun n10 => by simp only [rgA, g1]
 simp only [ifA_f, nilCk_ptr, ti89_f0, Nat.zero_add, Nat.add_zero, l0, optA_some, hrg]
 intro j hj
 simp only [stepK_some, sets_cons, sets_nil']
 have hjf : ¬ sfoot k m mp L j := fun hh => by have := h.isS hh; rw [hj] at this; cases this
 have hP0 : PS (H.set j (.iter m cl [] cl)) k m mp L Q n := h.keep fun i hi => set_ne fun he => hjf (he ▸ hi)
 refine loop_ind (fun c vs G => ∃ (D : List Int) (seen : List Nat) (es : List MEnt), D.Nodup ∧ (∀ x ∈ D, x ∈ L.map (·.id)) ∧ c = L.length - D.length ∧ vs = [.ptr k 0 0 0, .it j] ∧ PS G k m mp (tkD L D) Q n ∧ G j = some (.iter m cl seen cl) ∧ G m = some (.map es cl) ∧ Kv es ((tkD L D).map Rm.kv) ∧ (∀ e ∈ es, e.born < cl) ∧ (es.map (·.born)).Nodup ∧ (∀ e ∈ es, e.born ∈ seen ↔ ∃ id ∈ D, e.key = .int .i64 id)) (n := L.length) ⟨[], [], es0, List.nodup_nil, by simp, by simp, rfl, by rw [tkD_nil keepL]; exact hP0, set_self, ?_, by rw [tkD_nil keepL]; exact g2, g3.1, g3.2, by simp⟩ ?_
 ·rw [set_ne fun he => hjf (.inr (.inl he.symm))]; exact g1
 rintro X c vs G ⟨D, seen, es, d1, d2, rfl, rfl, hP, i1, e1, e2, e3, e4, e5⟩ hX
 simp only [List.getD_cons_succ, List.getD_cons_zero, nxA, i1, e1]
 refine ⟨fun _ hne => ?_, fun hend => ?_, fun x hx hxs => ?_⟩
 ·cases es with
  | nil => exact absurd rfl hne
  | cons a l =>
   rw [List.all_cons]
   have : decide (cl ≤ a.born) = false := decide_eq_false (by have := e3 a (by simp); omega)
   rw [this]; rfl
 ·-- all have had their tick
  have hall : ∀ r ∈ L, r.id ∈ D := fun r hr => Classical.byContradiction fun hd => by
   have hmem : r ∈ tkD L D := by
    unfold tkD
    rw [List.mem_filter]
    exact ⟨List.mem_map.2 ⟨r, hr, if_neg hd⟩, keepL r hr⟩
   obtain ⟨i, hi⟩ := List.getElem?_of_mem hmem
   obtain ⟨e, he, hek, _⟩ := kv_to e2 hi
   have hem := List.mem_of_getElem? he
   refine hend e hem (fun hs => ?_) (e3 e hem)
   obtain ⟨id, hid, hke⟩ := (e5 e hem).1 hs
   rw [hek] at hke
   cases hke
   exact hd hid
  rw [tkD_all hall] at hP
  simp only [extractA_0, optA_some, ifA_f, ret1_d]
  exact ⟨G, le_refl', hk G hP⟩
 ·-- one more
  obtain ⟨i, hi⟩ := List.getElem?_of_mem hx
  obtain ⟨r, hr, hxk, hxv⟩ := kv_at e2 hi
  have hrm := List.mem_of_getElem? hr
  have hrd : r.id ∉ D := fun hd => hxs ((e5 x hx).2 ⟨r.id, hd, hxk⟩)
  obtain ⟨hrk, y, hyL, hyid, hyr⟩ := tkD_mem hrm
  have hrL : r ∈ L := hyr hrd ▸ hyL
  have hok := h.ok r hrL
  have hro := hP.obj r hrm
  have hjr : r.p ≠ j := fun he => by rw [he, i1] at hro; cases hro
  have hjm : m ≠ j := fun he => by rw [he, i1] at e1; cases e1
  have hkj : k ≠ j := fun he => by have := hP.node; rw [he, i1] at this; cases this
  obtain ⟨es2, cl2, q1, _⟩ := hP.pmap
  have hpj : mp ≠ j := fun he => by rw [he, i1] at q1; cases q1
  have hPj : PS (G.set j (.iter m cl (seen ++ [x.born]) cl)) k m mp (tkD L D) Q n := hP.keep fun z hz => set_ne fun he => by
   rcases hz with hz | hz | hz | hz
   ·exact hkj (hz ▸ he)
   ·exact hjm (hz ▸ he)
   ·exact hpj (hz ▸ he)
   ·obtain ⟨w, hw, rfl⟩ := List.mem_map.1 hz
    have := hP.obj w hw
    rw [he, i1] at this; cases this
  generalize hG1 : G.set j (.iter m cl (seen ++ [x.born]) cl) = G1 at *
  have i1' : G1 j = some (.iter m cl (seen ++ [x.born]) cl) := by rw [← hG1]; exact set_self
  have e1' : G1 m = some (.map es cl) := by rw [← hG1, set_ne hjm]; exact e1
  have hro1 := hPj.obj r hrm
  have hent : entA (.it j) G1 = some (.tup [.d x.key, x.val]) := by
   have hl : (seen ++ [x.born]).getLast? = some x.born := by simp
   simp only [entA, i1', e1', hl, find_born e4 hx, if_true]
  have lr : ∀ (q : Nat) (v : AV), r.cells[q]? = some v → ldV false 1 (.ptr r.p 0 0 q) G1 = some v := fun q v hv => ldV_at hro1 rfl hv
  have d1' : (D ++ [r.id]).Nodup := List.nodup_append.2 ⟨d1, by simp, fun a ha b hb => by rw [List.mem_singleton] at hb; rintro rfl; exact hrd (hb ▸ ha)⟩
  have d2' : ∀ z ∈ D ++ [r.id], z ∈ L.map (·.id) := fun z hz => by
   rcases List.mem_append.1 hz with hz | hz
   ·exact d2 z hz
   ·rw [List.mem_singleton] at hz; rw [hz]; exact List.mem_map.2 ⟨r, hrL, rfl⟩
  have hdl : D.length + 1 ≤ L.length := by
   have := nodup_sub _ _ d1' d2'
   simpa using this
  have e5' : ∀ e ∈ es, e.born ∈ seen ++ [x.born] ↔ ∃ id ∈ D ++ [r.id], e.key = .int .i64 id := fun e he => by
   constructor
   ·intro hs
    rcases List.mem_append.1 hs with hs | hs
    ·obtain ⟨id, hid, hh⟩ := (e5 e he).1 hs
     exact ⟨id, List.mem_append_left _ hid, hh⟩
    ·rw [List.mem_singleton] at hs
     have a1 := find_born e4 he
     have a2 := find_born e4 hx
     rw [hs, a2] at a1
     cases a1
     exact ⟨r.id, by simp, hxk⟩
   ·rintro ⟨id, hid, hh⟩
    rcases List.mem_append.1 hid with hid | hid
    ·exact List.mem_append_left _ ((e5 e he).2 ⟨id, hid, hh⟩)
    ·rw [List.mem_singleton] at hid
     subst hid
     obtain ⟨i', hi'⟩ := List.getElem?_of_mem he
     obtain ⟨r', hr', hk', _⟩ := kv_at e2 hi'
     rw [hk'] at hh
     have hid' : r'.id = r.id := by simpa using hh
     have b1 : ((tkD L D).map (·.id))[i]? = some r.id := by rw [List.getElem?_map, hr]; rfl
     have b2 : ((tkD L D).map (·.id))[i']? = some r.id := by rw [List.getElem?_map, hr', Option.map_some, hid']
     have hl := (List.getElem?_eq_some_iff.1 b1).1
     have : i = i' := (List.getElem?_inj hl hP.ids).1 (b1.trans b2.symm)
     subst this
     rw [hi] at hi'; cases hi'
     simp
  have hstep : tkD L (D ++ [r.id]) = if r.tick.keep then (tkD L D).set i r.tick else (tkD L D).eraseIdx i := by
   rw [tkD_step keepL hrd, map_key_set (key := (·.id)) (g := Rm.tick) hP.ids hr]
   exact filter_set (fun y hy => (tkD_mem hy).1) (List.getElem?_eq_some_iff.1 hr).1
  have hm : L.length - (D ++ [r.id]).length < L.length - D.length := by simp; omega
  simp only [extractA_0, extractA_1, optA_some, ifA_t, hent, hxv, nilCk_ptr, ti135_f0, ti135_f3, Nat.zero_add, Nat.add_zero, lr 0 _ rfl, lr 3 _ rfl, intA_eql, ifA_ite]
  by_cases hs0 : r.state = 0
  ·rw [if_pos hs0]
   have ht : r.tick = r := by unfold Rm.tick; rw [if_pos hs0]
   have e : tkD L (D ++ [r.id]) = tkD L D := by
    rw [hstep, ht, hrk, if_pos rfl]
    have hl := (List.getElem?_eq_some_iff.1 hr)
    obtain ⟨hl, hh⟩ := hl
    rw [← hh]; exact List.set_getElem_self hl
   exact hX _ _ _ hm ⟨D ++ [r.id], seen ++ [x.born], es, d1', d2', rfl, rfl, by rw [e]; exact hPj, i1', e1', by rw [e]; exact e2, e3, e4, e5'⟩
  rw [if_neg hs0]
  have ht : r.tick = { r with age := r.age + 1 } := by unfold Rm.tick; rw [if_neg hs0]
  have hag := hok.age
  have hw : IntKind.i64.wrap (r.age + 1) = r.age + 1 := wrap_i64 (by omega) (by omega)
  have s1 : stoA false 1 (.ptr r.p 0 0 3) (.d (.int .i64 (r.age + 1))) G1 = some (.junk, [(r.p, ({ r with age := r.age + 1 } : Rm).obj)]) := stoA_at hro1 (Nat.le_refl 0) rfl (show 3 < 4 by decide) rfl rfl
  have c3 : ldV false 1 (.ptr r.p 0 0 3) (G1.set r.p ({ r with age := r.age + 1 } : Rm).obj) = some (.d (.int .i64 (r.age + 1))) := ldV_at (set_self (o := ({ r with age := r.age + 1 } : Rm).obj)) rfl rfl
  simp only [intA_add, hw, optA_some, s1, stepK_some, sets_cons, sets_nil', c3, intA_eql, ifA_ite]
  have i2 : (G1.set r.p ({ r with age := r.age + 1 } : Rm).obj) j = some (.iter m cl (seen ++ [x.born]) cl) := by rw [set_ne (Ne.symm hjr)]; exact i1'
  have hrpm : m ≠ r.p := fun he => by rw [← he, e1'] at hro1; cases hro1
  have e1'' : (G1.set r.p ({ r with age := r.age + 1 } : Rm).obj) m = some (.map es cl) := by rw [set_ne hrpm]; exact e1'
  by_cases h30 : r.age + 1 = 30
  ·rw [if_pos h30]
   have hkeep : r.tick.keep = false := by rw [ht]; exact decide_eq_false (by show ¬ r.age + 1 < 30; omega)
   have e : tkD L (D ++ [r.id]) = (tkD L D).eraseIdx i := by rw [hstep, hkeep]; rfl
   -- its object is of no more use
   have hPd : PS (G1.set m (.map (es.eraseIdx i) cl)) k m mp ((tkD L D).eraseIdx i) Q n := hPj.del e1' e2 ⟨e3, e4⟩
   have hnp : ¬ sfoot k m mp ((tkD L D).eraseIdx i) r.p := fun hh => by
    rcases hh with hh | hh | hh | hh
    ·have := hPj.node; rw [← hh, hro1] at this; cases this
    ·exact hrpm hh.symm
    ·obtain ⟨es3, cl3, q3, _⟩ := hPj.pmap
     rw [← hh, hro1] at q3; cases q3
    ·obtain ⟨w, hw, hwp⟩ := List.mem_map.1 hh
     obtain ⟨z, hz, hz2⟩ := List.mem_eraseIdx_iff_getElem?.1 hw
     have b1 : ((tkD L D).map (·.p))[i]? = some r.p := by rw [List.getElem?_map, hr]; rfl
     have b2 : ((tkD L D).map (·.p))[z]? = some r.p := by rw [List.getElem?_map, hz2, Option.map_some, hwp]
     have hl := (List.getElem?_eq_some_iff.1 b1).1
     exact hz ((List.getElem?_inj hl hP.ps).1 (b1.trans b2.symm)).symm
   have k0 : ldV false 1 (.ptr k 0 0 0) (G1.set r.p ({ r with age := r.age + 1 } : Rm).obj) = some (.map m) := ldV_at (by rw [set_ne fun he => by have := hPj.node; rw [he, hro1] at this; cases this]; exact hPj.node) rfl rfl
   have hkv : ((tkD L D).map Rm.kv)[i]? = some (r.id, .ptr r.p 0 0 0) := by rw [List.getElem?_map, hr]; rfl
   rw [hxk]
   simp only [nilCk_ptr, ti89_f0, Nat.zero_add, Nat.add_zero, k0, optA_some, mapDel e1'' e2 (by rw [rkv_fst]; exact hP.ids) hkv, stepK_some, sets_cons, sets_nil']
   refine hX _ _ _ hm ⟨D ++ [r.id], seen ++ [x.born], es.eraseIdx i, d1', d2', rfl, rfl, ?_, ?_, set_self, ?_, fun e he => e3 e (erase_mem he), ?_, fun e he => e5' e (erase_mem he)⟩
   ·rw [e]
    refine hPd.keep fun z hz => ?_
    by_cases hzm : z = m
    ·rw [hzm, set_self, set_self]
    ·rw [set_ne hzm, set_ne hzm, set_ne (show z ≠ r.p from fun he => hnp (he ▸ hz))]
   ·rw [set_ne (Ne.symm hjm)]; exact i2
   ·rw [e, map_erase]; exact e2.del i
   ·rw [map_erase]; exact (List.eraseIdx_sublist _ i).nodup e4
  ·rw [if_neg h30]
   have hkeep : r.tick.keep = true := by rw [ht]; exact decide_eq_true (by show r.age + 1 < 30; omega)
   have e : tkD L (D ++ [r.id]) = (tkD L D).set i { r with age := r.age + 1 } := by rw [hstep, hkeep, ht]; rfl
   have okt : ({ r with age := r.age + 1 } : Rm).Ok := ⟨hok.id, hok.state, hok.b, ⟨by show 0 ≤ r.age + 1; omega, by show r.age + 1 < 30; omega⟩, hok.pc, hok.nl, hok.no, hok.yes, fun hh => absurd hh hs0⟩
   have e' : ((tkD L D).set i { r with age := r.age + 1 }).map Rm.kv = (tkD L D).map Rm.kv := map_set_same hr rfl
   exact hX _ _ _ hm ⟨D ++ [r.id], seen ++ [x.born], es, d1', d2', rfl, rfl, by rw [e]; exact hPj.upd hr rfl rfl okt, i2, e1'', by rw [e, e']; exact e2, e3, e4, e5'⟩
def rsrt (L : List Rm) : List Int := (L.map (·.id)).mergeSort fun x y => decide (x ≤ y)
theorem rkv_keys {es : List MEnt} (h : Kv es (L.map Rm.kv)) : es.map (·.key) = (L.map (·.id)).map (Dat.int .i64) := by
 have := congrArg (List.map (·.1)) h
 simpa [Rm.kv, List.map_map, Function.comp_def] using this
theorem PS.keysOk (h : PS H k m mp L Q n) : ∃ es cl, H m = some (.map es cl) ∧ KeysOk es cl (L.map (·.id)) := by
 obtain ⟨es, cl, h1, h2, h3⟩ := h.map
 refine ⟨es, cl, h1, rkv_keys h2, h.ids, h3, by rw [List.length_map]; have := h.len; omega, fun x hx => ?_⟩
 obtain ⟨q, hq, rfl⟩ := List.mem_map.1 hx
 exact wf_id (h.ok q hq).id
theorem srem_c (h : PS H k m mp L Q n) (hk : ∀ nl H', AHeap.le H H' → K (.d (.sl nl (intsD (rsrt L)))) H') : CallsA Try.prog 23 [.ptr k 0 0 0] H K := by
 apply C23
 unfold S23
 have l0 : ldV false 1 (.ptr k 0 0 0) H = some (.map m) := ldV_at h.node rfl rfl
 simp only [frzLK_ptr, frzLK_nil]
 refine h.none ?_
 simp only [ifA_f, nilCk_ptr, ti89_f0, Nat.zero_add, Nat.add_zero, l0, optA_some, frzLK_map, frzLK_nil]
 apply C61
 unfold S61
 refine box_open rfl fun u G hG hle hu => ?_
 rw [ret1_func]
 refine ⟨G, le_refl', ?_⟩
 simp only [frzLK_func, frzLK_nil]
 obtain ⟨es, cl, m1, m2⟩ := (h.le hle).keysOk
 refine sorted_keys ⟨_, Try.func60, ne_of_beq_false (by kernel_rfl), rfl⟩ Try.underlying3 keysS95 hG m1 m2 ?_
 rw [ret1_d]
 exact ⟨G, le_refl', hk _ G hle⟩
theorem snew_c (hk : ∀ k m mp H', PS H' k m mp [] [] 0 → AHeap.le H H' → H k = none → H m = none → H mp = none → K (.ptr k 0 0 0) H') : CallsA Try.prog 20 [] H K := by
 apply C20
 unfold S20
 intro m hm
 simp only [stepK_some, sets_cons, sets_nil']
 intro mp hmp
 simp only [stepK_some, sets_cons, sets_nil']
 have hne : mp ≠ m := fun he => by rw [he, set_self] at hmp; cases hmp
 have hmp0 : H mp = none := by rw [set_ne hne] at hmp; exact hmp
 have bd : ∀ G : AHeap, bdA Try.prog ti89 [0, 1] [.map m, .map mp] G = some (.agg [.map m, .map mp], []) := fun G => by
  have c0 : Try.prog.cellsOf 86 = 1 := by kernel_rfl
  have c1 : Try.prog.cellsOf 87 = 1 := by kernel_rfl
  simp only [bdA, bd89, c0, c1, fillA, setCells, List.zip_cons_cons, List.zip_nil_right, Option.map_some, Nat.reduceLeDiff, List.cons_append, go_sem]
 simp only [bd, stepK_some, sets_nil']
 refine box_open rfl fun k G hG hle hk' => ?_
 rw [ret1_ptr]
 have hG : G k = some (.mem 0 0 2 [[.map m, .map mp]]) := hG
 have hle0 : AHeap.le H ((H.set m (.map [] 0)).set mp (.map [] 0)) := le_set_own (le_set_own le_refl' hm) hmp0
 refine ⟨G, le_refl', hk k m mp G ⟨hG, ⟨[], 0, hle _ _ (by rw [set_ne (Ne.symm hne)]; exact set_self), Kv.nil, by simp, by simp⟩, ⟨[], 0, hle _ _ set_self, Kv.nil⟩, Ne.symm hne, by simp, by simp, by simp, by simp, by simp, by simp, by simp⟩ (le_trans' hle0 hle) (le_none hle0 hk') hm hmp0⟩
end
end Go.Proofs.Ytofjhihigmimbaa
namespace Go.Proofs.Ytofjhihigmimbaa
open Go Go.AM Go.Proofs
def dry (ps : List (Bool × List UInt8)) : List (Bool × List UInt8) := ps.map fun x => (false, x.2)
def Rm.row (r : Rm) : List Dat := [.int .i64 r.id, .int .i64 r.state, .int .i64 r.b, .sl (decide (r.state ≠ 1)) (pcD (dry r.ps)), .int .i64 r.age]
def Pn.row (q : Pn) : List Dat := [.int .i64 q.id, .int .i64 q.many, .int .i64 q.b]
structure RS (H : AHeap) (r : Nat) (v1 v2 : AV) (L : List Rm) (R : List Pn) (n : Nat) : Prop where
 node : H r = some (.mem 0 0 2 [[v1, v2]])
 m1 : Ms 5 H v1 (L.map Rm.row)
 m2 : Ms 3 H v2 (R.map Pn.row)
 ids : (L.map (·.id)).Nodup
 qids : (R.map (·.id)).Nodup
 ok : ∀ r ∈ L, r.Ok
 qok : ∀ q ∈ R, 0 ≤ q.many ∧ q.many ≤ n ∧ 1 ≤ q.b ∧ q.b < 256
 len : L.length ≤ 100
 qlen : R.length ≤ n
def rsfoot (r : Nat) (v1 v2 : AV) (i : Nat) : Prop := i = r ∨ idOf v1 = some i ∨ idOf v2 = some i
theorem dry_ok {ps : List (Bool × List UInt8)} (h : PcOk ps) : PcOk (dry ps) := ⟨by unfold dry; rw [List.length_map]; exact h.len, fun x hx => by
 obtain ⟨y, hy, rfl⟩ := List.mem_map.1 hx
 exact ⟨(h.ok y hy).1, fun hh => by cases hh⟩⟩
theorem rsp_dry {id : Int} {b : Nat} {ps : List (Bool × List UInt8)} : rsps (fun _ => false) id b (dry ps) = rsps (fun _ => false) id b ps := by
 have hl : (dry ps).length = ps.length := by unfold dry; rw [List.length_map]
 have : ∀ j, j ≤ ps.length → rspL (fun _ => false) id b (dry ps) j = rspL (fun _ => false) id b ps j := by
  intro j
  induction j with
  | zero => intro _; rfl
  | succ j ih =>
   intro hj
   have e : rsp1 (fun _ => false) id (dry ps) j = rsp1 (fun _ => false) id ps j := by
    have : ((dry ps).getD j (true, [])).2 = (ps.getD j (true, [])).2 := by
     unfold dry
     rw [List.getD_eq_getElem?_getD, List.getD_eq_getElem?_getD, List.getElem?_map, List.getElem?_eq_getElem (show j < ps.length by omega)]
     rfl
    simp only [rsp1, hl, this]
   rw [rspL, rspL, ih (by omega), e]
 unfold rsps
 rw [hl]
 exact this _ (Nat.le_refl _)
section
variable {H G : AHeap} {r : Nat} {v1 v2 : AV} {L : List Rm} {R : List Pn} {n : Nat} {K : AV → AHeap → Prop}
theorem RS.ne (h : RS H r v1 v2 L R n) : (∀ i, idOf v1 = some i → i ≠ r) ∧ (∀ i, idOf v2 = some i → i ≠ r) ∧ ∀ i, idOf v1 = some i → idOf v2 ≠ some i := by
 refine ⟨fun i hi => h.m1.ne h.node (by simp [osz]) hi, fun i hi => h.m2.ne h.node (by simp [osz]) hi, fun i hi hj => ?_⟩
 obtain ⟨ver, L1, g1⟩ := h.m1.isObj hi
 obtain ⟨ver2, L2, g2⟩ := h.m2.isObj hj
 rw [g1] at g2
 cases g2
theorem RS.keep (h : RS H r v1 v2 L R n) (hf : ∀ i, rsfoot r v1 v2 i → G i = H i) : RS G r v1 v2 L R n :=
 ⟨by rw [hf r (.inl rfl)]; exact h.node, h.m1.keep fun i hi => hf i (.inr (.inl hi)), h.m2.keep fun i hi => hf i (.inr (.inr hi)), h.ids, h.qids, h.ok, h.qok, h.len, h.qlen⟩
theorem RS.isS (h : RS H r v1 v2 L R n) {i : Nat} (hi : rsfoot r v1 v2 i) : (H i).isSome := by
 rcases hi with rfl | hi | hi
 ·rw [h.node]; rfl
 ·obtain ⟨ver, L1, g1⟩ := h.m1.isObj hi
  rw [g1]; rfl
 ·obtain ⟨ver, L1, g1⟩ := h.m2.isObj hi
  rw [g1]; rfl
theorem RS.le (h : RS H r v1 v2 L R n) (hle : AHeap.le H G) : RS G r v1 v2 L R n := h.keep fun i hi => by
 obtain ⟨o, ho⟩ := Option.isSome_iff_exists.1 (h.isS hi)
 rw [ho]; exact hle _ _ ho
theorem RS.on (h : RS H r v1 v2 L R n) {D : Nat → Prop} (hd : ∀ i, rsfoot r v1 v2 i → D i) : RS (H.only D) r v1 v2 L R n := h.keep fun i hi => only_in (hd i hi)
theorem RS.mono (h : RS H r v1 v2 L R n) {n' : Nat} (hn : n ≤ n') : RS H r v1 v2 L R n' :=
 { h with qok := fun q hq => by have := h.qok q hq; omega, qlen := Nat.le_trans h.qlen hn }
theorem RS.len1 (h : RS H r v1 v2 L R n) : lenSl v1 = some (.d (.int .i64 L.length)) := by rw [h.m1.len, List.length_map]
theorem RS.len2 (h : RS H r v1 v2 L R n) : lenSl v2 = some (.d (.int .i64 R.length)) := by rw [h.m2.len, List.length_map]
theorem RS.at1 (h : RS H r v1 v2 L R n) {j : Nat} {x : Rm} (hj : L[j]? = some x) : ∃ i ver Lm, indexAddrA ti46 5 v1 (.d (.int .i64 (j : Int))) = some (.ptr i ver j 0) ∧ idOf v1 = some i ∧ H i = some (.mem ver 0 5 Lm) ∧ Lm[j]? = some (x.row.map AV.d) :=
 h.m1.at (ti := ti46) (et := 120) rfl (by rw [List.getElem?_map, hj]; rfl)
theorem RS.at2 (h : RS H r v1 v2 L R n) {j : Nat} {x : Pn} (hj : R[j]? = some x) : ∃ i ver Lm, indexAddrA ti47 3 v2 (.d (.int .i64 (j : Int))) = some (.ptr i ver j 0) ∧ idOf v2 = some i ∧ H i = some (.mem ver 0 3 Lm) ∧ Lm[j]? = some (x.row.map AV.d) :=
 h.m2.at (ti := ti47) (et := 152) rfl (by rw [List.getElem?_map, hj]; rfl)
theorem RS.ld (h : RS H r v1 v2 L R n) : ldV false 1 (.ptr r 0 0 0) H = some v1 ∧ ldV false 1 (.ptr r 0 0 1) H = some v2 := ⟨ldV_at h.node rfl rfl, ldV_at h.node rfl rfl⟩
theorem ldR {i ver j sz : Nat} {Lm : List (List AV)} {row : List Dat} {o : Nat} {x : Dat} (h1 : H i = some (.mem ver 0 sz Lm)) (h2 : Lm[j]? = some (row.map AV.d)) (h : row[o]? = some x) : ldV false 1 (.ptr i ver j o) H = some (.d x) :=
 ldV_at h1 h2 (by rw [List.getElem?_map, h]; rfl)
theorem stR {i ver j sz : Nat} {Lm : List (List AV)} {row : List Dat} {o : Nat} {x : Dat} (h1 : H i = some (.mem ver 0 sz Lm)) (h2 : Lm[j]? = some (row.map AV.d)) (h : o < row.length) : stoA false 1 (.ptr i ver j o) (.d x) H = some (.junk, [(i, .mem ver 0 sz (Lm.set j ((row.set o x).map AV.d)))]) := by
 rw [stoA_at h1 (Nat.zero_le _) h2 (by rw [List.length_map]; exact h) rfl rfl, List.map_set]
theorem setR {Lm : List (List AV)} {j : Nat} {a b : List AV} (h : Lm[j]? = some a) : (Lm.set j b)[j]? = some b := List.getElem?_set_self (List.getElem?_eq_some_iff.1 h).1
theorem RS.put1 (h : RS H r v1 v2 L R n) {i ver j : Nat} {Lm : List (List AV)} {x y : Rm} (hj : L[j]? = some x) (hi : idOf v1 = some i) (hL : H i = some (.mem ver 0 5 Lm)) (hid : y.id = x.id) (hok : y.Ok) : RS (H.set i (.mem ver 0 5 (Lm.set j (y.row.map AV.d)))) r v1 v2 (L.set j y) R n := by
 obtain ⟨n1, n2, n3⟩ := h.ne
 have hl := (List.getElem?_eq_some_iff.1 hj).1
 refine ⟨by rw [set_ne (Ne.symm (n1 i hi))]; exact h.node, ?_, h.m2.keep fun z hz => set_ne fun he => n3 i hi (he ▸ hz), ?_, h.qids, fun z hz => ?_, h.qok, by rw [List.length_set]; exact h.len, h.qlen⟩
 ·rw [List.map_set]
  exact h.m1.put hi hL (by rw [List.length_map]; exact hl) rfl
 ·rw [map_set_same hj hid]; exact h.ids
 ·rcases List.mem_or_eq_of_mem_set hz with h3 | h3
  ·exact h.ok z h3
  ·rw [h3]; exact hok
theorem RS.put2 (h : RS H r v1 v2 L R n) {i ver j : Nat} {Lm : List (List AV)} {x y : Pn} {n' : Nat} (hn : n ≤ n') (hj : R[j]? = some x) (hi : idOf v2 = some i) (hL : H i = some (.mem ver 0 3 Lm)) (hid : y.id = x.id) (hok : 0 ≤ y.many ∧ y.many ≤ n' ∧ 1 ≤ y.b ∧ y.b < 256) : RS (H.set i (.mem ver 0 3 (Lm.set j (y.row.map AV.d)))) r v1 v2 L (R.set j y) n' := by
 obtain ⟨n1, n2, n3⟩ := h.ne
 have hl := (List.getElem?_eq_some_iff.1 hj).1
 refine ⟨by rw [set_ne (Ne.symm (n2 i hi))]; exact h.node, h.m1.keep fun z hz => set_ne fun he => n3 z hz (he ▸ hi), ?_, h.ids, ?_, h.ok, fun z hz => ?_, h.len, by rw [List.length_set]; exact Nat.le_trans h.qlen hn⟩
 ·rw [List.map_set]
  exact h.m2.put hi hL (by rw [List.length_map]; exact hl) rfl
 ·rw [map_set_same hj hid]; exact h.qids
 ·rcases List.mem_or_eq_of_mem_set hz with h3 | h3
  ·have := h.qok z h3; omega
  ·rw [h3]; exact hok
theorem rsfind_c (h : RS H r v1 v2 L R n) {id : Int} (h1 : ∀ (i : Nat) (x : Rm), L[i]? = some x → x.id = id → K (.d (.int .i64 i)) H) (h2 : id ∉ L.map (·.id) → K (.d (.int .i64 (-1))) H) : CallsA Try.prog 90 [.ptr r 0 0 0, .d (.int .i64 id)] H K := by
 apply C90
 unfold S90
 have hll := h.len
 obtain ⟨l1, _⟩ := h.ld
 refine loop_ind (fun n vs G => ∃ j : Nat, j ≤ L.length ∧ n = L.length - j ∧ vs = [.ptr r 0 0 0, .d (.int .i64 id), .d (.int .i64 (j : Int))] ∧ G = H ∧ ∀ (i : Nat) (q : Rm), i < j → L[i]? = some q → q.id ≠ id) (n := L.length) ⟨0, Nat.zero_le _, rfl, rfl, rfl, fun i q hi => absurd hi (Nat.not_lt_zero _)⟩ ?_
 rintro X n vs G ⟨j, hj, rfl, rfl, rfl, hno⟩ hX
 by_cases hjl : j = L.length
 ·subst hjl
  simp only [List.getD_cons_succ, List.getD_cons_zero, nilCk_ptr, ti49_f0, Nat.zero_add, Nat.add_zero, l1, h.len1, intA_lss, Int.lt_irrefl, decide_false, ifA_f, optA_some, ret1_d]
  refine ⟨_, le_refl', h2 fun hm => ?_⟩
  obtain ⟨q, hq, he⟩ := List.mem_map.1 hm
  obtain ⟨i, hi⟩ := List.getElem?_of_mem hq
  exact hno i q (List.getElem?_eq_some_iff.1 hi).1 hi he
 ·obtain ⟨q, hq⟩ : ∃ q, L[j]? = some q := ⟨_, List.getElem?_eq_getElem (by omega)⟩
  obtain ⟨i, ver, Lm, f1, f2, f3, f4⟩ := h.at1 hq
  have hlt : (j : Int) < (L.length : Int) := by omega
  have hw : IntKind.i64.wrap ((j : Int) + 1) = ((j + 1 : Nat) : Int) := by rw [wrap_i64 (by omega) (by omega)]; omega
  have f5 := ldR (o := 0) (x := .int .i64 q.id) f3 f4 rfl
  simp only [List.getD_cons_succ, List.getD_cons_zero, nilCk_ptr, ti49_f0, ti120_f0, Nat.zero_add, Nat.add_zero, l1, h.len1, intA_lss, hlt, decide_true, ifA_t, optA_some, f1, f5, intA_eql, ifA_ite, ret1_d]
  by_cases he : q.id = id
  ·rw [if_pos he]; exact ⟨_, le_refl', h1 j q hq he⟩
  ·rw [if_neg he]
   simp only [intA_add, hw, optA_some]
   refine hX (L.length - (j + 1)) _ _ (by omega) ⟨j + 1, by omega, rfl, rfl, rfl, fun i2 q2 hi2 hq2 => ?_⟩
   by_cases h3 : i2 = j
   ·subst h3; rw [hq] at hq2; cases hq2; exact he
   ·exact hno i2 q2 (by omega) hq2
theorem bd152_3 {a b c : Dat} {H : AHeap} : bdA Try.prog ti152 [0, 1, 2] [.d a, .d b, .d c] H = some (.agg [.d a, .d b, .d c], []) := by
 simp only [bdA, bd152, cell3, fillA, setCells, List.zip_cons_cons, List.zip_nil_right, Option.map_some, Nat.reduceLeDiff, List.cons_append, go_sem]
theorem bs152_1 {a b c : Dat} {H : AHeap} {n : Nat} : bsA ti152 1 [0] [.agg [.d a, .d b, .d c]] H n = some (.lit [[a, b, c]], []) := rfl
theorem pUp_at {Q : List Pn} (hn : (Q.map (·.id)).Nodup) {i : Nat} {q : Pn} (hi : Q[i]? = some q) {b : Nat} : pUp Q q.id b = Q.set i { q with many := q.many + 1, b := b } := by
 have e := map_key_set (key := (·.id)) (g := fun q => { q with many := q.many + 1, b := b }) hn hi
 unfold pUp
 rw [if_pos (List.mem_map.2 ⟨q, List.mem_of_getElem? hi, rfl⟩)]
 exact e
theorem pUp_of {Q : List Pn} (hn : (Q.map (·.id)).Nodup) {id : Int} {b : Nat} (x : Int) : manyOf (pUp Q id b) x = (if x = id then manyOf Q id + 1 else manyOf Q x) ∧ (x = id → bOf (pUp Q id b) x = b) ∧ (x ≠ id → bOf (pUp Q id b) x = bOf Q x) := by
 rcases pid_cases Q id with ⟨i, q, hi, rfl⟩ | hno
 ·rw [pUp_at hn hi]
  have hm := of_mem hn (List.mem_of_getElem? hi)
  obtain ⟨h1, h2⟩ := of_set (q' := { q with many := q.many + 1, b := b }) hn hi rfl (x := x)
  by_cases hx : x = q.id
  ·rw [if_pos hx]; obtain ⟨a, c⟩ := h1 hx; rw [a, c, hm.1]; exact ⟨rfl, fun _ => rfl, fun hh => absurd hx hh⟩
  ·rw [if_neg hx]; obtain ⟨a, c⟩ := h2 hx; rw [a, c]; exact ⟨rfl, fun hh => absurd hh hx, fun _ => rfl⟩
 ·have e : pUp Q id b = Q ++ [⟨id, 1, b⟩] := by unfold pUp; rw [if_neg hno]
  rw [e]
  obtain ⟨h1, h2⟩ := of_add (q := ⟨id, 1, b⟩) hn hno (x := x)
  by_cases hx : x = id
  ·rw [if_pos hx]; obtain ⟨a, c⟩ := h1 hx; rw [a, c, of_no hno]; exact ⟨rfl, fun _ => rfl, fun hh => absurd hx hh⟩
  ·rw [if_neg hx]; obtain ⟨a, c⟩ := h2 hx; rw [a, c]; exact ⟨rfl, fun hh => absurd hh hx, fun _ => rfl⟩
theorem PlR.up {Q R : List Pn} (h : PlR Q R) (hn : (Q.map (·.id)).Nodup) (hr : (R.map (·.id)).Nodup) {id : Int} {b : Nat} : PlR (pUp Q id b) (pUp R id b) := fun x => by
 obtain ⟨a1, a2, a3⟩ := pUp_of (b := b) (id := id) hn x
 obtain ⟨b1, b2, b3⟩ := pUp_of (b := b) (id := id) hr x
 rw [a1, b1]
 by_cases hx : x = id
 ·rw [if_pos hx, if_pos hx, (h id).1, a2 hx, b2 hx]; exact ⟨rfl, fun _ => rfl⟩
 ·rw [if_neg hx, if_neg hx, a3 hx, b3 hx]; exact h x
theorem rplain_c (h : RS H r v1 v2 L R n) (hn : n < 2 ^ 40) {t : Tr} (hb : 1 ≤ t.bits.toNat ∧ t.bits.toNat < 256 ∧ (t.bits.toNat : Int) = t.bits) (hk : ∀ H' v2', RS H' r v1 v2' L (pUp R t.id t.bits.toNat) (n + 1) → K (.tup []) H') : CallsA Try.prog 91 [.ptr r 0 0 0, t.av] H K := by
 apply C91
 unfold S91
 refine box_open rfl fun u G hG hle hu => ?_
 have hG : G u = some (.mem 0 0 8 [t.cells]) := hG
 have hR := h.le hle
 obtain ⟨_, l2⟩ := hR.ld
 have lu : ∀ (i : Nat) (x : AV), t.cells[i]? = some x → ldV false 1 (.ptr u 0 0 i) G = some x := fun i x hx => ldV_at hG rfl hx
 have hql := h.qlen
 refine loop_ind (fun c vs G' => ∃ j : Nat, j ≤ R.length ∧ c = R.length - j ∧ vs = [.ptr r 0 0 0, .ptr u 0 0 0, .d (.int .i64 (j : Int))] ∧ G' = G ∧ ∀ (i : Nat) (q : Pn), i < j → R[i]? = some q → q.id ≠ t.id) (n := R.length) ⟨0, Nat.zero_le _, rfl, rfl, rfl, fun i q hi => absurd hi (Nat.not_lt_zero _)⟩ ?_
 rintro X c vs G' ⟨j, hj, rfl, rfl, rfl, hno⟩ hX
 by_cases hjl : j < R.length
 ·obtain ⟨q, hq⟩ : ∃ q, R[j]? = some q := ⟨_, List.getElem?_eq_getElem hjl⟩
  obtain ⟨i, ver, Lm, f1, f2, f3, f4⟩ := hR.at2 hq
  have hqo := h.qok q (List.mem_of_getElem? hq)
  have hlt : (j : Int) < (R.length : Int) := by omega
  have hw : IntKind.i64.wrap ((j : Int) + 1) = ((j + 1 : Nat) : Int) := by rw [wrap_i64 (by omega) (by omega)]; omega
  have c0 := ldR (o := 0) (x := .int .i64 q.id) f3 f4 rfl
  have c1 := ldR (o := 1) (x := .int .i64 q.many) f3 f4 rfl
  simp only [List.getD_cons_succ, List.getD_cons_zero, nilCk_ptr, ti49_f1, ti152_f0, ti24_f1, Nat.zero_add, Nat.add_zero, l2, hR.len2, intA_lss, hlt, decide_true, ifA_t, optA_some, f1, c0, lu 1 _ rfl, drA_true, intA_eql, ifA_ite]
  by_cases he : q.id = t.id
  ·rw [if_pos he]
   have hw2 : IntKind.i64.wrap (q.many + 1) = q.many + 1 := wrap_i64 (by omega) (by omega)
   have s1 := stR (o := 1) (x := .int .i64 (q.many + 1)) f3 f4 (by simp [Pn.row])
   have hui : u ≠ i := fun hh => by rw [hh, f3] at hG; cases hG
   have hri : r ≠ i := fun hh => by have := hR.node; rw [hh, f3] at this; cases this
   have l2' : ldV false 1 (.ptr r 0 0 1) (G'.set i (.mem ver 0 3 (Lm.set j ((q.row.set 1 (.int .i64 (q.many + 1))).map AV.d)))) = some v2 := ldV_at (by rw [set_ne hri]; exact hR.node) rfl rfl
   have u2 : ldV false 1 (.ptr u 0 0 2) (G'.set i (.mem ver 0 3 (Lm.set j ((q.row.set 1 (.int .i64 (q.many + 1))).map AV.d)))) = some (.d (.int .i64 t.bits)) := ldV_at (by rw [set_ne hui]; exact hG) rfl rfl
   have s2 := stR (H := G'.set i (.mem ver 0 3 (Lm.set j ((q.row.set 1 (.int .i64 (q.many + 1))).map AV.d)))) (o := 2) (x := .int .i64 t.bits) set_self (setR f4) (by simp [Pn.row])
   simp only [ti152_f1, ti152_f2, ti24_f2, Nat.zero_add, c1, optA_some, intA_add, hw2, s1, stepK_some, sets_cons, sets_nil', l2', u2, f1, aggL_d, noRsA_nil, s2, set_set, List.set_set]
   rw [ret0]
   refine ⟨_, le_refl', hk _ v2 ?_⟩
   have := hR.put2 (n' := n + 1) (by omega) hq f2 f3 (y := { q with many := q.many + 1, b := t.bits.toNat }) rfl ⟨by show 0 ≤ q.many + 1; omega, by show q.many + 1 ≤ _; omega, hb.1, hb.2.1⟩
   rw [← he, pUp_at h.qids hq]
   have e : ({ q with many := q.many + 1, b := t.bits.toNat } : Pn).row = (q.row.set 1 (.int .i64 (q.many + 1))).set 2 (.int .i64 t.bits) := by simp [Pn.row, hb.2.2]
   rw [e] at this
   exact this
  ·rw [if_neg he]
   simp only [intA_add, hw, optA_some]
   refine hX (R.length - (j + 1)) _ _ (by omega) ⟨j + 1, by omega, rfl, rfl, rfl, fun i2 q2 hi2 hq2 => ?_⟩
   by_cases h3 : i2 = j
   ·subst h3; rw [hq] at hq2; cases hq2; exact he
   ·exact hno i2 q2 (by omega) hq2
 ·have hjl : j = R.length := by omega
  subst hjl
  have hnot : t.id ∉ R.map (·.id) := fun hm => by
   obtain ⟨q, hq, he⟩ := List.mem_map.1 hm
   obtain ⟨i, hi⟩ := List.getElem?_of_mem hq
   exact hno i q (List.getElem?_eq_some_iff.1 hi).1 hi he
  simp only [List.getD_cons_succ, List.getD_cons_zero, nilCk_ptr, ti49_f1, ti24_f1, ti24_f2, Nat.zero_add, Nat.add_zero, l2, hR.len2, intA_lss, Int.lt_irrefl, decide_false, ifA_f, optA_some, drA_true, lu 1 _ rfl, lu 2 _ rfl, rsOf_d, ap_nil, true_and, aggL_d, noRsA_nil, bd152_3, stepK_some, sets_nil', rsOf_agg, aggL_agg, noRsA_cons, noRs_d]
  intro n1 hn1
  simp only [bs152_1, stepK_some, sets_nil']
  refine hR.m2.app (ys := [[.int .i64 t.id, .int .i64 1, .int .i64 t.bits]]) elemsA_1 (by decide) (by decide) (by simp) (by simp [mostBytes]; omega) fun w G2 a1 a2 a3 _ => ?_
  have hr2 : G2 r = some (.mem 0 0 2 [[v1, v2]]) := by rw [a2 r (by rw [hR.node]; rfl) (fun hh => hR.ne.2.1 _ hh rfl)]; exact hR.node
  have hagg : aggL w = [] := by rcases a1.2 with ⟨rfl, _⟩ | ⟨i, ver, L, rfl, _⟩ <;> rfl
  have st : stoA false 1 (.ptr r 0 0 1) w G2 = some (.junk, [(r, .mem 0 0 2 [[v1, w]])]) := stoA_at hr2 (Nat.le_refl 0) rfl (by simp) a1.st.1 a1.st.2
  simp only [hagg, noRsA_nil, st, stepK_some, sets_cons, sets_nil']
  rw [ret0]
  have e : pUp R t.id t.bits.toNat = R ++ [⟨t.id, 1, t.bits.toNat⟩] := by unfold pUp; rw [if_neg hnot]
  refine ⟨_, le_refl', hk _ w ⟨set_self, (hR.m1.keep fun i hi => a2 i (by obtain ⟨ver, L1, g1⟩ := hR.m1.isObj hi; rw [g1]; rfl) fun hh => hR.ne.2.2 i hi hh).keep fun i hi => set_ne (hR.ne.1 i hi), ?_, h.ids, ?_, h.ok, fun q hq => ?_, h.len, by rw [e]; simp; omega⟩⟩
  ·rw [e, List.map_append]
   have : ([⟨t.id, 1, t.bits.toNat⟩] : List Pn).map Pn.row = [[.int .i64 t.id, .int .i64 1, .int .i64 t.bits]] := by simp [Pn.row, hb.2.2]
   rw [this]
   exact a1.keep fun i hi => set_ne (a1.ne hr2 (by simp [osz]) hi)
  ·rw [e, List.map_append, List.nodup_append]
   exact ⟨h.qids, by simp, fun a ha b hb => by simp only [List.map_cons, List.map_nil, List.mem_singleton] at hb; rintro rfl; exact hnot (hb ▸ ha)⟩
  ·rw [e] at hq
   rcases List.mem_append.1 hq with h1 | h1
   ·have := h.qok q h1; omega
   ·rw [List.mem_singleton] at h1; rw [h1]; exact ⟨by show (0 : Int) ≤ 1; decide, by show (1 : Int) ≤ _; omega, hb.1, hb.2.1⟩
end
end Go.Proofs.Ytofjhihigmimbaa
namespace Go.Proofs.Ytofjhihigmimbaa
open Go Go.AM Go.Proofs
section
variable {H G : AHeap} {r : Nat} {v1 v2 : AV} {L : List Rm} {R : List Pn} {n : Nat} {K : AV → AHeap → Prop}
theorem bd120_2 {a b : Dat} {H : AHeap} : bdA Try.prog ti120 [0, 2] [.d a, .d b] H = some (.agg [.d a, .d (.int .i64 0), .d b, .d (.sl true []), .d (.int .i64 0)], []) := by
 simp only [bdA, bd120, cell3, cell51, fillA, setCells, List.zip_cons_cons, List.zip_nil_right, Option.map_some, Nat.reduceLeDiff, List.cons_append, go_sem]
theorem bs120_1 {a b c d e : Dat} {H : AHeap} {n : Nat} : bsA ti120 1 [0] [.agg [.d a, .d b, .d c, .d d, .d e]] H n = some (.lit [[a, b, c, d, e]], []) := rfl
theorem rtakeS_c (h : RS H r v1 v2 L R n) (hn : n < 2 ^ 40) (p : Nat) {t : Tr}
  (hk : ∀ H' w1 w2, RS H' r w1 w2 (tkS (fun _ => false) p L R t).1.1 (tkS (fun _ => false) p L R t).1.2 (n + 1) → ∀ nl, (nl = true → (tkS (fun _ => false) p L R t).2.1 = []) → K (.tup [.d (.sl nl ((tkS (fun _ => false) p L R t).2.1.map Tr.dats)), .d (.bool (tkS (fun _ => false) p L R t).2.2.1), .d (.int .i64 (tkS (fun _ => false) p L R t).2.2.2)]) H') : CallsA Try.prog 56 [.ptr r 0 0 0, t.av] H K := by
 apply C56
 unfold S56
 refine box_open rfl fun u G hG hle hu => ?_
 have hG : G u = some (.mem 0 0 8 [t.cells]) := hG
 have hR := h.le hle
 have leaf : ∀ (G' : AHeap) (w1 w2 : AV) (q : (List Rm × List Pn) × (List Tr × Bool × Int)), tkS (fun _ => false) p L R t = q → RS G' r w1 w2 q.1.1 q.1.2 (n + 1) → ∀ nl, (nl = true → q.2.1 = []) → retF [.d (.sl nl (q.2.1.map Tr.dats)), .d (.bool q.2.2.1), .d (.int .i64 q.2.2.2)] G' K := by
  intro G' w1 w2 q hq h1 nl h2
  subst hq
  rw [ret3_d]
  exact ⟨G', le_refl', hk G' w1 w2 h1 nl h2⟩
 simp only [ld8 hG, optA_some, frzLK_tr, frzLK_nil]
 refine rvalid_c ?_
 simp only [unA_not, optA_some]
 by_cases hv : t.Valid
 rotate_left
 ·simp only [decide_eq_false hv, Bool.not_false, ifA_t]
  exact leaf G v1 v2 ((L, R), [], false, 2) (by unfold tkS; rw [if_pos hv]) (hR.mono (by omega)) true fun _ => rfl
 simp only [decide_eq_true hv, Bool.not_true, ifA_f]
 have hvn : ¬ ¬ t.Valid := fun hh => hh hv
 have lu : ∀ (i : Nat) (x : AV), t.cells[i]? = some x → ldV false 1 (.ptr u 0 0 i) G = some x := fun i x hx => ldV_at hG rfl hx
 simp only [ti24_f1, Nat.zero_add, lu 1 _ rfl, optA_some, frzLK_ptr, frzLK_d, frzLK_nil]
 obtain ⟨l1, l2⟩ := hR.ld
 have hbits : t.kind = 0 → 1 ≤ t.bits.toNat ∧ t.bits.toNat < 256 ∧ (t.bits.toNat : Int) = t.bits := fun h0 => by
  rcases hv.2.2 with h1 | h1 | h1
  ·omega
  ·omega
  ·omega
 have kinds : t.kind = 0 ∨ t.kind = 1 ∨ t.kind = 2 := by
  rcases hv.2.2 with h1 | h1 | h1
  ·exact .inl h1.1
  ·exact .inr (.inl h1.1)
  ·exact .inr (.inr h1.1)
 have plain : t.kind = 0 → t.once = false → CallsA Try.prog 91 [.ptr r 0 0 0, t.av] G fun v61 H62 => retF [.d (.sl true []), .d (.bool true), .d (.int .i64 0)] H62 K := fun h0 ho => by
  refine rplain_c hR hn (hbits h0) fun H' w2 hr' => ?_
  exact leaf H' v1 w2 ((L, pUp R t.id t.bits.toNat), [], true, 0) (by unfold tkS; rw [if_neg hvn, if_neg (by omega), if_pos ⟨h0, ho⟩]) hr' true fun _ => rfl
 refine rsfind_c hR (fun i x hi hid => ?_) fun hno => ?_
 ·-- it is remembered
  obtain ⟨i0, ver, Lm, f1, f2, f3, f4⟩ := hR.at1 hi
  have hok := hR.ok x (List.mem_of_getElem? hi)
  have hmem : t.id ∈ L.map (·.id) := List.mem_map.2 ⟨x, List.mem_of_getElem? hi, hid⟩
  have hset : tkL' L t = L.set i (x.touch t) := by
   have := map_key_set (key := (·.id)) (g := Rm.touch t) hR.ids hi
   rw [hid] at this
   exact this
  have hag : againOf (fun _ => false) L t = if t.kind = 2 then [] else rsps (fun _ => false) t.id t.bits.toNat x.ps := by
   have := rfind_id hR.ids hi
   rw [hid] at this
   unfold againOf
   rw [this]
  have htk : t.kind ≠ 1 → ¬ (t.kind = 0 ∧ t.once = false) → tkS (fun _ => false) p L R t = ((L.set i (x.touch t), R), if t.kind = 2 then [] else rsps (fun _ => false) t.id t.bits.toNat x.ps, false, 0) := fun hk1 hpl => by
   unfold tkS
   rw [if_neg hvn, if_neg hk1, if_neg hpl, if_pos hmem, hset, hag]
  have hput := hR.put1 hi f2 f3 (touch_same (t := t)).1 (hok.touch t)
  refine jnX_inv (fun vs G' => G' = G ∧ vs = [.ptr r 0 0 0, .ptr u 0 0 0, .d (.int .i64 (i : Int)), .d (.bool (decide (t.kind = 1 ∨ t.kind = 2 ∧ x.state = 0)))]) ?_ fun X hX => ?_
  rotate_left
  ·simp only [ti24_f0, Nat.zero_add, Nat.add_zero, lu 0 _ rfl, optA_some, intA_eql, ifA_ite]
   rcases kinds with h0 | h0 | h0
   ·rw [if_neg (by omega), if_neg (by omega)]
    exact hX _ _ ⟨rfl, by rw [decide_eq_false (by omega)]⟩
   ·rw [if_pos h0]
    exact hX _ _ ⟨rfl, by rw [decide_eq_true (.inl h0)]⟩
   ·have c1 := ldR (o := 1) (x := .int .i64 x.state) f3 f4 rfl
    rw [if_neg (by omega), if_pos h0]
    simp only [intA_lss, decide_eq_false (show ¬ ((i : Int) < 0) by omega), optA_some, ifA_f, nilCk_ptr, ti49_f0, ti120_f1, Nat.zero_add, Nat.add_zero, l1, f1, c1, intA_eql]
    refine hX _ _ ⟨rfl, ?_⟩
    have : decide (t.kind = 1 ∨ t.kind = 2 ∧ x.state = 0) = decide (x.state = 0) := decide_eq_decide.2 ⟨fun hh => by omega, fun hh => .inr ⟨h0, hh⟩⟩
    rw [this]
  rintro vs G' ⟨rfl, rfl⟩
  simp only [List.getD_cons_succ, List.getD_cons_zero, ifA_ite]
  by_cases hb : t.kind = 1 ∨ t.kind = 2 ∧ x.state = 0
  ·rw [if_pos hb]
   rcases hb with hb | ⟨hb, hs⟩
   ·exact leaf G' v1 v2 ((L, R), [], false, 0) (by unfold tkS; rw [if_neg hvn, if_pos hb]) (hR.mono (by omega)) true fun _ => rfl
   ·have e : x.touch t = x := by
     unfold Rm.touch
     rw [if_neg (by omega)]
     have := hok.fresh hs
     cases x; simp only at this; subst this; rfl
    have e2 : L.set i x = L := by
     obtain ⟨hl, hh⟩ := List.getElem?_eq_some_iff.1 hi
     rw [← hh]; exact List.set_getElem_self hl
    exact leaf G' v1 v2 ((L, R), [], false, 0) (by rw [htk (by omega) (by omega), if_pos hb, e, e2]) (hR.mono (by omega)) true fun _ => rfl
  rw [if_neg hb]
  simp only [ti24_f0, Nat.zero_add, Nat.add_zero, lu 0 _ rfl, optA_some, intA_eql, ifA_ite]
  by_cases h2 : t.kind = 2
  ·rw [if_pos h2]
   have s1 := stR (o := 1) (x := .int .i64 2) f3 f4 (by simp [Rm.row])
   have s2 := stR (H := G'.set i0 (.mem ver 0 5 (Lm.set i ((x.row.set 1 (.int .i64 2)).map AV.d)))) (o := 3) (x := .sl true []) set_self (setR f4) (by simp [Rm.row])
   have s3 := stR (H := G'.set i0 (.mem ver 0 5 (Lm.set i (((x.row.set 1 (.int .i64 2)).set 3 (.sl true [])).map AV.d)))) (o := 4) (x := .int .i64 0) set_self (setR f4) (by simp [Rm.row])
   simp only [drA_true, nilCk_ptr, ti49_f0, ti120_f1, ti120_f3, ti120_f4, Nat.zero_add, Nat.add_zero, l1, f1, optA_some, aggL_d, noRsA_nil, s1, stepK_some, sets_cons, sets_nil', s2, set_set, List.set_set, s3]
   refine leaf _ v1 v2 ((L.set i (x.touch t), R), [], false, 0) (by rw [htk (by omega) (by omega), if_pos h2]) (RS.mono ?_ (Nat.le_succ n)) true fun _ => rfl
   have e : (x.touch t).row = ((x.row.set 1 (.int .i64 2)).set 3 (.sl true [])).set 4 (.int .i64 0) := by
    unfold Rm.touch
    by_cases hs1 : x.state = 1
    ·rw [if_pos ⟨h2, hs1⟩]; rfl
    ·rw [if_neg (fun hh => hs1 hh.2)]
     have hs2 : x.state = 2 := by rcases hok.state with h3 | h3 | h3 <;> omega
     have hp := (hok.no hs1).1
     simp only [Rm.row, hp, hs2, dry]
     rfl
   rw [e] at hput
   exact hput
  rw [if_neg h2]
  have h0 : t.kind = 0 := by rcases kinds with h3 | h3 | h3 <;> omega
  have hbt := hbits h0
  simp only [ti24_f4, Nat.zero_add, lu 4 _ rfl, optA_some, unA_not, ld8 hG, frzLK_ptr, frzLK_tr, frzLK_nil]
  cases ho : t.once
  ·simp only [Bool.not_false, ifA_t]
   exact plain h0 ho
  ·have e : x.touch t = { x with age := 0 } := by unfold Rm.touch; rw [if_neg (by omega)]
   have s1 := stR (o := 4) (x := .int .i64 0) f3 f4 (by simp [Rm.row])
   have e2 : (x.touch t).row = x.row.set 4 (.int .i64 0) := by rw [e]; rfl
   rw [← e2] at s1
   have hui : u ≠ i0 := fun hh => by rw [hh, f3] at hG; cases hG
   have u1 : ∀ (j : Nat) (y : AV), t.cells[j]? = some y → ldV false 1 (.ptr u 0 0 j) (G'.set i0 (.mem ver 0 5 (Lm.set i ((x.touch t).row.map AV.d)))) = some y := fun j y hy => ldV_at (by rw [set_ne hui]; exact hG) rfl hy
   have c3 := ldR (H := G'.set i0 (.mem ver 0 5 (Lm.set i ((x.touch t).row.map AV.d)))) (o := 3) (x := .sl (decide (x.state ≠ 1)) (pcD (dry x.ps))) set_self (setR f4) (by rw [e]; rfl)
   simp only [Bool.not_true, ifA_f, intA_geq, decide_eq_true (show (0 : Int) ≤ (i : Int) by omega), ifA_t, nilCk_ptr, ti49_f0, ti120_f3, ti120_f4, Nat.zero_add, Nat.add_zero, l1, f1, optA_some, s1, stepK_some, sets_cons, sets_nil', drA_true, ti24_f1, ti24_f2, u1 1 _ rfl, u1 2 _ rfl, c3, frzLK_d, frzLK_nil]
   rw [← hbt.2.2]
   refine rresp_c hbt.2.1 (dry_ok hok.pc) ?_
   rw [rsp_dry]
   exact leaf _ v1 v2 ((L.set i (x.touch t), R), rsps (fun _ => false) t.id t.bits.toNat x.ps, false, 0) (by rw [htk (by omega) (by rw [ho]; simp), if_neg h2]) (hput.mono (by omega)) _ fun hh => by simpa using hh
 ·-- it is not
  have hll := hR.len
  refine jnX_inv (fun vs G' => G' = G ∧ vs = [.ptr r 0 0 0, .ptr u 0 0 0, .d (.int .i64 (-1)), .d (.bool (decide (t.kind = 1 ∨ t.kind = 2)))]) ?_ fun X hX => ?_
  rotate_left
  ·simp only [ti24_f0, Nat.zero_add, Nat.add_zero, lu 0 _ rfl, optA_some, intA_eql, ifA_ite]
   rcases kinds with h0 | h0 | h0
   ·rw [if_neg (by omega), if_neg (by omega)]
    exact hX _ _ ⟨rfl, by rw [decide_eq_false (by omega)]⟩
   ·rw [if_pos h0]
    exact hX _ _ ⟨rfl, by rw [decide_eq_true (.inl h0)]⟩
   ·rw [if_neg (by omega), if_pos h0]
    simp only [intA_lss, decide_eq_true (show ((-1 : Int) < 0) by decide), optA_some, ifA_t]
    exact hX _ _ ⟨rfl, by rw [decide_eq_true (.inr h0)]⟩
  rintro vs G' ⟨rfl, rfl⟩
  simp only [List.getD_cons_succ, List.getD_cons_zero, ifA_ite]
  by_cases hb : t.kind = 1 ∨ t.kind = 2
  ·rw [if_pos hb]
   refine leaf G' v1 v2 ((L, R), [], false, 0) ?_ (hR.mono (by omega)) true fun _ => rfl
   unfold tkS
   rw [if_neg hvn]
   by_cases h1 : t.kind = 1
   ·rw [if_pos h1]
   ·rw [if_neg h1, if_neg (by omega), if_neg hno, if_pos (by omega)]
  rw [if_neg hb]
  have h0 : t.kind = 0 := by rcases kinds with h3 | h3 | h3 <;> omega
  have hbt := hbits h0
  simp only [ti24_f0, ti24_f4, Nat.zero_add, Nat.add_zero, lu 0 _ rfl, lu 4 _ rfl, optA_some, intA_eql, decide_eq_false (show ¬ t.kind = 2 by omega), ifA_f, unA_not, ld8 hG, frzLK_ptr, frzLK_tr, frzLK_nil]
  cases ho : t.once
  ·simp only [Bool.not_false, ifA_t]
   exact plain h0 ho
  simp only [Bool.not_true, ifA_f, intA_geq, decide_eq_false (show ¬ ((0 : Int) ≤ -1) by decide), nilCk_ptr, ti49_f0, Nat.zero_add, Nat.add_zero, l1, hR.len1, optA_some, ifA_ite]
  have htk : tkS (fun _ => false) p L R t = if L.length = 100 then ((L, R), [], false, 4) else ((L ++ [newRm p t], R), [], true, 0) := by
   unfold tkS
   rw [if_neg hvn, if_neg (by omega), if_neg (by rw [ho]; simp), if_neg hno, if_neg (by omega)]
  by_cases h100 : L.length = 100
  ·rw [if_pos (by omega)]
   exact leaf G' v1 v2 ((L, R), [], false, 4) (by rw [htk, if_pos h100]) (hR.mono (by omega)) true fun _ => rfl
  rw [if_neg (by omega)]
  simp only [drA_true, nilCk_ptr, ti49_f0, ti24_f1, ti24_f2, Nat.zero_add, Nat.add_zero, l1, lu 1 _ rfl, lu 2 _ rfl, optA_some, rsOf_d, ap_nil, true_and, aggL_d, noRsA_nil, bd120_2, stepK_some, sets_nil', rsOf_agg, aggL_agg, noRsA_cons, noRs_d]
  intro n1 hn1
  simp only [bs120_1, stepK_some, sets_nil']
  refine hR.m1.app (ys := [[.int .i64 t.id, .int .i64 0, .int .i64 t.bits, .sl true [], .int .i64 0]]) elemsA_1 (by decide) (by decide) (by simp) (by simp [mostBytes]; omega) fun w G2 a1 a2 a3 _ => ?_
  have hr2 : G2 r = some (.mem 0 0 2 [[v1, v2]]) := by rw [a2 r (by rw [hR.node]; rfl) (fun hh => hR.ne.1 _ hh rfl)]; exact hR.node
  have hagg : aggL w = [] := by rcases a1.2 with ⟨rfl, _⟩ | ⟨i, ver, L, rfl, _⟩ <;> rfl
  have st : stoA false 1 (.ptr r 0 0 0) w G2 = some (.junk, [(r, .mem 0 0 2 [[w, v2]])]) := stoA_at hr2 (Nat.le_refl 0) rfl (by simp) a1.st.1 a1.st.2
  simp only [hagg, noRsA_nil, st, stepK_some, sets_cons, sets_nil']
  have okn : (newRm p t).Ok := ⟨hv.1, .inl rfl, ⟨hbt.1, hbt.2.1⟩, ⟨Int.le_refl 0, by show (0 : Int) < 30; decide⟩, ⟨by simp [newRm], by simp [newRm]⟩, fun _ => rfl, fun _ => ⟨rfl, rfl⟩, fun hh => absurd hh (by show ¬ (0 : Int) = 1; decide), fun _ => rfl⟩
  refine leaf _ w v2 ((L ++ [newRm p t], R), [], true, 0) (by rw [htk, if_neg h100]) ⟨set_self, ?_, (hR.m2.keep fun i hi => a2 i (by obtain ⟨ver, L1, g1⟩ := hR.m2.isObj hi; rw [g1]; rfl) fun hh => hR.ne.2.2 i hh hi).keep fun i hi => set_ne (hR.ne.2.1 i hi), ?_, h.qids, fun q hq => ?_, fun q hq => by have := h.qok q hq; omega, by simp; omega, Nat.le_trans h.qlen (by omega)⟩ true fun _ => rfl
  ·rw [List.map_append]
   have : ([newRm p t] : List Rm).map Rm.row = [[.int .i64 t.id, .int .i64 0, .int .i64 t.bits, .sl true [], .int .i64 0]] := by simp [Rm.row, newRm, hbt.2.2, dry, pcD]
   rw [this]
   exact a1.keep fun i hi => set_ne (a1.ne hr2 (by simp [osz]) hi)
  ·rw [List.map_append, List.nodup_append]
   exact ⟨h.ids, by simp, fun a ha b hb => by simp only [List.map_cons, List.map_nil, List.mem_singleton] at hb; rintro rfl; exact hno ((show a = t.id from hb) ▸ ha)⟩
  ·rcases List.mem_append.1 hq with h1 | h1
   ·exact h.ok q h1
   ·rw [List.mem_singleton] at h1; rw [h1]; exact okn
end
end Go.Proofs.Ytofjhihigmimbaa
namespace Go.Proofs.Ytofjhihigmimbaa
open Go Go.AM Go.Proofs
theorem stoN {sz : Nat} {l : List Dat} {G : AHeap} {u : Nat} {old : List AV} (hl : l.length = sz) (hG : G u = some (.mem 0 0 sz [old])) (ho : old.length = sz) : stoA true sz (.ptr u 0 0 0) (.agg (l.map AV.d)) G = some (.junk, [(u, .mem 0 0 sz [l.map AV.d])]) := by
 have hl' : (l.map AV.d).length = sz := by rw [List.length_map, hl]
 rw [stoA_agg, frzL_map]
 simp only [AHeap.sets, stoA, stA, hG, AV.storable, AV.cells, hl', ho, Nat.le_refl, and_self, if_true, List.getElem?_cons_zero, Bool.false_eq_true, if_false, Nat.zero_add, setCells, List.take_zero, List.nil_append, List.set_cons_zero]
 rw [List.drop_eq_nil_of_le (Nat.le_of_eq ho), List.append_nil]
theorem ldN {sz i ver j : Nat} {Lm : List (List AV)} {row : List Dat} {H : AHeap} (hr : row.length = sz) (h1 : H i = some (.mem ver 0 sz Lm)) (h2 : Lm[j]? = some (row.map AV.d)) : ldV true sz (.ptr i ver j 0) H = some (.agg (row.map AV.d)) := by
 have hl : (row.map AV.d).length = sz := by rw [List.length_map, hr]
 simp only [ldV, h1, if_true, h2, partV, List.drop_zero, List.take_of_length_le (Nat.le_of_eq hl), hl]
theorem tickL_take {L : List Rm} {j : Nat} {x : Rm} (h : L[j]? = some x) : tickL (L.take (j + 1)) = tickL (L.take j) ++ if x.tick.keep then [x.tick] else [] := by
 obtain ⟨hj, rfl⟩ := List.getElem?_eq_some_iff.1 h
 rw [List.take_succ_eq_append_getElem hj]
 unfold tickL
 rw [List.map_append, List.filter_append]
 congr 1
 simp only [List.map_cons, List.map_nil, List.filter_cons, List.filter_nil]
theorem tickL_sub {L : List Rm} : (tickL L).length ≤ L.length := by
 unfold tickL
 exact Nat.le_trans (List.length_filter_le ..) (by rw [List.length_map]; exact Nat.le_refl _)
theorem tick_ok {x : Rm} (h : x.Ok) (hk : x.tick.keep = true) : x.tick.Ok := by
 have hk : x.tick.age < 30 := of_decide_eq_true hk
 unfold Rm.tick at hk ⊢
 by_cases hs : x.state = 0
 ·rw [if_pos hs]; exact h
 ·rw [if_neg hs] at hk ⊢
  exact ⟨h.id, h.state, h.b, ⟨by have := h.age; show 0 ≤ x.age + 1; omega, hk⟩, h.pc, h.nl, h.no, h.yes, fun hh => absurd hh hs⟩
theorem tickL_ids {L : List Rm} (hn : (L.map (·.id)).Nodup) : ((tickL L).map (·.id)).Nodup := by
 unfold tickL
 refine (List.Sublist.map (fun r : Rm => r.id) List.filter_sublist).nodup ?_
 rw [List.map_map]
 have : ((fun r : Rm => r.id) ∘ Rm.tick) = fun r => r.id := by funext r; exact tick_same.1
 rw [this]; exact hn
section
variable {H G : AHeap} {r : Nat} {v1 v2 : AV} {L : List Rm} {R : List Pn} {n : Nat} {K : AV → AHeap → Prop}
theorem rtickS_c (h : RS H r v1 v2 L R n) (hk : ∀ H' w1, RS H' r w1 v2 (tickL L) R n → K (.tup []) H') : CallsA Try.prog 58 [.ptr r 0 0 0] H K := by
 apply C58
 unfold S58
 have hll := h.len
 refine loop_ind (fun c vs G => ∃ (j : Nat) (v : AV), j ≤ L.length ∧ c = L.length - j ∧ vs = [.ptr r 0 0 0, v, .d (.int .i64 (j : Int))] ∧ RS G r v1 v2 L R n ∧ Ms 5 G v ((tickL (L.take j)).map Rm.row) ∧ (∀ i, rsfoot r v1 v2 i → idOf v ≠ some i)) (n := L.length) ⟨0, .d (.sl true []), Nat.zero_le _, rfl, rfl, h, Ms.nil, fun i _ hh => by cases hh⟩ ?_
 rintro X c vs G ⟨j, v, hj, rfl, rfl, hR, hv, hap⟩ hX
 obtain ⟨l1, _⟩ := hR.ld
 by_cases hjl : j < L.length
 ·obtain ⟨x, hx⟩ : ∃ x, L[j]? = some x := ⟨_, List.getElem?_eq_getElem hjl⟩
  obtain ⟨i, ver, Lm, f1, f2, f3, f4⟩ := hR.at1 hx
  have hok := h.ok x (List.mem_of_getElem? hx)
  have hlt : (j : Int) < (L.length : Int) := by omega
  have hw : IntKind.i64.wrap ((j : Int) + 1) = ((j + 1 : Nat) : Int) := by rw [wrap_i64 (by omega) (by omega)]; omega
  have hl5 := ldN (row := x.row) (sz := 5) rfl f3 f4
  simp only [List.getD_cons_succ, List.getD_cons_zero, nilCk_ptr, ti49_f0, Nat.zero_add, Nat.add_zero, l1, hR.len1, intA_lss, hlt, decide_true, ifA_t, optA_some]
  refine jnX_inv (fun vs G' => ∃ v : AV, vs = [.ptr r 0 0 0, v, .d (.int .i64 (j : Int))] ∧ RS G' r v1 v2 L R n ∧ Ms 5 G' v ((tickL (L.take (j + 1))).map Rm.row) ∧ (∀ i, rsfoot r v1 v2 i → idOf v ≠ some i)) ?_ fun X11 hX11 => ?_
  ·rintro vs G' ⟨v, rfl, h1, h2, h3⟩
   simp only [List.getD_cons_succ, List.getD_cons_zero, intA_add, hw, optA_some]
   exact hX (L.length - (j + 1)) _ _ (by omega) ⟨j + 1, v, by omega, rfl, rfl, h1, h2, h3⟩
  simp only [f1, hl5, optA_some]
  refine alloc_open fun u G1 hG1 hle1 hu => ?_
  have st := stoN (sz := 5) (l := x.row) (G := G1) (u := u) rfl hG1 rfl
  simp only [st, stepK_some, sets_cons, sets_nil']
  have hle2 : AHeap.le G (G1.set u (.mem 0 0 5 [x.row.map AV.d])) := le_set_own hle1 hu
  have hvu : idOf v ≠ some u := fun hh => by
   obtain ⟨ver, L1, g1⟩ := hv.isObj hh
   rw [hu] at g1; cases g1
  -- its age
  refine jnX_inv (fun vs G' => vs = [.ptr r 0 0 0, v, .d (.int .i64 (j : Int)), .ptr u 0 0 0] ∧ AHeap.le G G' ∧ G' u = some (.mem 0 0 5 [x.tick.row.map AV.d])) ?_ fun X24 hX24 => ?_
  rotate_left
  ·have c1 : ldV false 1 (.ptr u 0 0 1) (G1.set u (.mem 0 0 5 [x.row.map AV.d])) = some (.d (.int .i64 x.state)) := ldV_at set_self rfl rfl
   have c4 : ldV false 1 (.ptr u 0 0 4) (G1.set u (.mem 0 0 5 [x.row.map AV.d])) = some (.d (.int .i64 x.age)) := ldV_at set_self rfl rfl
   simp only [ti120_f1, ti120_f4, Nat.zero_add, c1, optA_some, intA_gtr, ifA_ite]
   by_cases hs : x.state = 0
   ·have ht : x.tick = x := by unfold Rm.tick; rw [if_pos hs]
    rw [if_neg (by omega)]
    exact hX24 _ _ ⟨rfl, hle2, by rw [ht]; exact set_self⟩
   ·have ht : x.tick = { x with age := x.age + 1 } := by unfold Rm.tick; rw [if_neg hs]
    have hag := hok.age
    have hst := hok.state
    have hw2 : IntKind.i64.wrap (x.age + 1) = x.age + 1 := wrap_i64 (by omega) (by omega)
    have s1 : stoA false 1 (.ptr u 0 0 4) (.d (.int .i64 (x.age + 1))) (G1.set u (.mem 0 0 5 [x.row.map AV.d])) = some (.junk, [(u, .mem 0 0 5 [x.tick.row.map AV.d])]) := by
     rw [stoA_at (set_self (o := .mem 0 0 5 [x.row.map AV.d])) (Nat.le_refl 0) rfl (show 4 < 5 by decide) rfl rfl, ht]
     rfl
    rw [if_pos (by omega)]
    simp only [c4, optA_some, intA_add, hw2, s1, stepK_some, sets_cons, sets_nil', set_set]
    exact hX24 _ _ ⟨rfl, le_set_own hle1 hu, set_self⟩
  rintro vs G' ⟨rfl, hle3, hu3⟩
  have c4 : ldV false 1 (.ptr u 0 0 4) G' = some (.d (.int .i64 x.tick.age)) := ldV_at hu3 rfl rfl
  have hv3 : Ms 5 G' v ((tickL (L.take j)).map Rm.row) := hv.le hle3
  simp only [List.getD_cons_succ, List.getD_cons_zero, ti120_f4, Nat.zero_add, c4, optA_some, intA_lss, ifA_ite]
  by_cases hkp : x.tick.age < 30
  ·have hk1 : x.tick.keep = true := decide_eq_true hkp
   rw [if_pos hkp]
   have hl5' := ldN (row := x.tick.row) (sz := 5) (j := 0) (Lm := [x.tick.row.map AV.d]) rfl hu3 rfl
   simp only [hl5', optA_some]
   intro n1 hn1
   have hb : ∀ m, bsA ti120 1 [0] [.agg (x.tick.row.map AV.d)] G' m = some (.lit [x.tick.row], []) := fun m => bs120_1
   simp only [hb, stepK_some, sets_nil']
   have htl := tickL_sub (L := L.take j)
   rw [List.length_take] at htl
   refine hv3.app (ys := [x.tick.row]) elemsA_1 (by decide) (by decide) (by simp [Rm.row]) (by simp [mostBytes]; omega) fun w G2 a1 a2 a3 _ => ?_
   refine hX11 _ _ ⟨w, rfl, (hR.le hle3).keep fun i hi => a2 i ((hR.le hle3).isS hi) (hap i hi), ?_, fun i hi hh => ?_⟩
   ·rw [tickL_take hx, hk1, if_pos rfl, List.map_append]
    exact a1
   ·rcases a3 i hh with h1 | h1
    ·exact hap i hi h1
    ·have := (hR.le hle3).isS hi; rw [h1] at this; cases this
  ·have hk1 : x.tick.keep = false := decide_eq_false hkp
   rw [if_neg hkp]
   refine hX11 _ _ ⟨v, rfl, hR.le hle3, ?_, hap⟩
   rw [tickL_take hx, hk1]
   simpa using hv3
 ·have hjl : j = L.length := by omega
  subst hjl
  rw [List.take_length] at hv
  have st : stoA false 1 (.ptr r 0 0 0) v G = some (.junk, [(r, .mem 0 0 2 [[v, v2]])]) := stoA_at hR.node (Nat.le_refl 0) rfl (by simp) hv.st.1 hv.st.2
  simp only [List.getD_cons_succ, List.getD_cons_zero, nilCk_ptr, ti49_f0, Nat.zero_add, Nat.add_zero, l1, hR.len1, intA_lss, Int.lt_irrefl, decide_false, ifA_f, optA_some, st, stepK_some, sets_cons, sets_nil']
  rw [ret0]
  have htl := tickL_sub (L := L)
  refine ⟨_, le_refl', hk _ v ⟨set_self, hv.keep fun i hi => set_ne (hv.ne hR.node (by simp [osz]) hi), hR.m2.keep fun i hi => set_ne (hR.ne.2.1 i hi), tickL_ids h.ids, h.qids, fun x hx => ?_, h.qok, by omega, h.qlen⟩⟩
  unfold tickL at hx
  obtain ⟨g1, g2⟩ := List.mem_filter.1 hx
  obtain ⟨y, hy, rfl⟩ := List.mem_map.1 g1
  exact tick_ok (h.ok y hy) g2
theorem intsD_1 {l : List Int} : ∀ c ∈ intsD l, c.length = 1 := by simp [intsD]
theorem intsD_len {l : List Int} : (intsD l).length = l.length := by simp [intsD]
theorem sl_lo {v : AV} {S : List Int} {k : Nat} (h : Ms 1 G v (intsD S)) (hk : k ≤ S.length) : ∃ x, sliceA 1 v (some (.d (.int .i64 (k : Int)))) none none G = some x ∧ elemsA x G = some (avs (intsD (S.drop k))) := by
 rcases h.2 with ⟨rfl, h0⟩ | ⟨i, ver, Lm, rfl, h1, h2, h3⟩
 ·have hS : S = [] := by cases S with | nil => rfl | cons a b => simp [intsD] at h0
  subst hS
  have hk0 : k = 0 := by simpa using hk
  subst hk0
  exact ⟨_, rfl, rfl⟩
 ·rw [intsD_len] at h2 h3 ⊢
  refine ⟨.rs i ver 1 (0 + k) (S.length - k), ?_, ?_⟩
  ·simp only [sliceA, h1, if_true, bnd, Int.natCast_nonneg, Int.toNat_natCast, hk, Nat.zero_add, h3, and_self]
  ·have e : ((Lm.drop (0 + k)).take (S.length - k)) = avs (intsD (S.drop k)) := by
    rw [Nat.zero_add]
    have : (Lm.take S.length).drop k = avs (intsD (S.drop k)) := by rw [h2]; simp only [avs, intsD, List.map_drop]
    rw [← this, List.drop_take]
   simp only [elemsA, h1, if_true, e]
   rw [if_pos (by rw [avs_length, intsD_len, List.length_drop])]
theorem sl_hi {v : AV} {S : List Int} {k : Nat} (h : Ms 1 G v (intsD S)) (hk : k ≤ S.length) : ∃ x, sliceA 1 v none (some (.d (.int .i64 (k : Int)))) none G = some x ∧ Ms 1 G x (intsD (S.take k)) ∧ idOf x = idOf v := by
 rcases h.2 with ⟨rfl, h0⟩ | ⟨i, ver, Lm, rfl, h1, h2, h3⟩
 ·have hS : S = [] := by cases S with | nil => rfl | cons a b => simp [intsD] at h0
  subst hS
  have hk0 : k = 0 := by simpa using hk
  subst hk0
  exact ⟨_, rfl, Ms.nil, rfl⟩
 ·rw [intsD_len] at h2 h3 ⊢
  refine ⟨.rs i ver 1 0 k, ?_, ⟨intsD_1, .inr ⟨i, ver, Lm, ?_, h1, ?_, ?_⟩⟩, rfl⟩
  ·simp only [sliceA, h1, if_true, bnd, Int.natCast_nonneg, Int.toNat_natCast, Nat.zero_le, Nat.zero_add, Nat.add_zero, Nat.sub_zero, true_and]
   rw [if_pos ⟨by omega, trivial⟩]
  ·rw [intsD_len, List.length_take, Nat.min_eq_left hk]
  ·rw [intsD_len, List.length_take, Nat.min_eq_left hk]
   have : (Lm.take S.length).take k = avs (intsD (S.take k)) := by rw [h2]; simp only [avs, intsD, List.map_take]
   rw [← this, List.take_take, Nat.min_eq_left hk]
  ·rw [intsD_len, List.length_take]; omega
theorem bs3_x {x : Int} {m : Nat} : bsA ti3 1 [0] [.d (.int .i64 x)] G m = some (.lit [[.int .i64 x]], []) := rfl
theorem ins_c {v : AV} {S : List Int} {k : Nat} {x : Int} (h : Ms 1 G v (intsD S)) (hk : k ≤ S.length) (hS : S.length ≤ 1000) {X : AV → AHeap → Prop} (hX : ∀ w G', Ms 1 G' w (intsD (S.take k ++ x :: S.drop k)) → (∀ i, (G i).isSome → idOf v ≠ some i → G' i = G i) → (∀ i, idOf w = some i → idOf v = some i ∨ G i = none) → X w G') :
  newK G (fun n33 => bsA ti3 1 [0] [.d (.int .i64 x)] G n33) fun v31 H32 => apart (rsOf (.d (.int .i64 x))) v ∧ (apart v31 v ∧ (optA (sliceA 1 v (some (.d (.int .i64 (k : Int)))) none none H32) fun v34 => newK H32 (fun n37 => apA 1 8 v31 v34 H32 n37) fun v35 H36 => optA (sliceA 1 v none (some (.d (.int .i64 (k : Int)))) none H36) fun v38 => newK H36 (fun n41 => apA 1 8 v38 v35 H36 n41) X)) := by
 intro n1 hn1
 simp only [bs3_x, stepK_some, sets_nil', rsOf_d, ap_nil, true_and]
 refine ⟨?_, ?_⟩
 ·rcases h.2 with ⟨rfl, _⟩ | ⟨i, ver, Lm, rfl, _⟩ <;> trivial
 obtain ⟨y, e1, e2⟩ := sl_lo h hk
 simp only [e1, optA_some]
 have ow : AM.Own G 1 G (.lit [[.int .i64 x]]) (intsD [x]) := Own.lit le_refl' (by simp [intsD])
 refine ow.app e2 (by decide) (by decide) intsD_1 (by rw [intsD_len, intsD_len, List.length_drop]; simp [mostBytes]; omega) fun t G1 o1 o2 o3 _ => ?_
 have hle : AHeap.le G G1 := o1.le
 have h1 : Ms 1 G1 v (intsD S) := h.le hle
 obtain ⟨z, s1, s2, s3⟩ := sl_hi h1 hk
 simp only [s1, optA_some]
 have e3 : intsD [x] ++ intsD (S.drop k) = intsD (x :: S.drop k) := by simp [intsD]
 rw [e3] at o1
 refine s2.app o1.elems (by decide) (by decide) intsD_1 (by rw [intsD_len, intsD_len, List.length_take, List.length_cons, List.length_drop]; simp [mostBytes]; omega) fun w G2 a1 a2 a3 _ => ?_
 have e4 : intsD (S.take k) ++ intsD (x :: S.drop k) = intsD (S.take k ++ x :: S.drop k) := by simp [intsD]
 rw [e4] at a1
 refine hX w G2 a1 (fun i hi hne => ?_) fun i hi => ?_
 ·obtain ⟨o, ho⟩ := Option.isSome_iff_exists.1 hi
  have := hle _ _ ho
  rw [a2 i (by rw [this]; rfl) (by rw [s3]; exact hne), this, ho]
 ·rcases a3 i hi with h2 | h2
  ·rw [s3] at h2; exact .inl h2
  ·exact .inr (le_none hle h2)
theorem rrem_c (h : RS H r v1 v2 L R n) (hk : ∀ nl H', AHeap.le H H' → K (.d (.sl nl (intsD (rsrt L)))) H') : CallsA Try.prog 24 [.ptr r 0 0 0] H K := by
 apply C24
 unfold S24
 have hll := h.len
 have hsub : ∀ {j : Nat} {S : List Int}, S.Perm ((L.take j).map (·.id)) → S.length ≤ 100 := fun {j S} hp => by
  rw [hp.length_eq, List.length_map, List.length_take]; omega
 refine loop_ind (fun c vs G => ∃ (j : Nat) (v x3 : AV) (S : List Int), j ≤ L.length ∧ c = L.length - j ∧ vs = [.ptr r 0 0 0, v, .d (.int .i64 (j : Int)), x3] ∧ AHeap.le H G ∧ Ms 1 G v (intsD S) ∧ (∀ i, idOf v = some i → H i = none) ∧ S.Perm ((L.take j).map (·.id)) ∧ S.Pairwise (· ≤ ·)) (n := L.length) ⟨0, .d (.sl true []), .junk, [], Nat.zero_le _, rfl, rfl, le_refl', Ms.nil, (fun i hi => by cases hi), by simp, by simp⟩ ?_
 rintro X c vs G ⟨j, v, x3, S, hj, rfl, rfl, hle, hv, hnew, hperm, hsort⟩ hX
 have hR := h.le hle
 obtain ⟨l1, _⟩ := hR.ld
 have hS := hsub hperm
 by_cases hjl : j < L.length
 ·obtain ⟨x, hx⟩ : ∃ x, L[j]? = some x := ⟨_, List.getElem?_eq_getElem hjl⟩
  obtain ⟨i, ver, Lm, f1, f2, f3, f4⟩ := hR.at1 hx
  have c0 := ldR (o := 0) (x := .int .i64 x.id) f3 f4 rfl
  have hlt : (j : Int) < (L.length : Int) := by omega
  have hw : IntKind.i64.wrap ((j : Int) + 1) = ((j + 1 : Nat) : Int) := by rw [wrap_i64 (by omega) (by omega)]; omega
  have hlv : lenSl v = some (.d (.int .i64 S.length)) := by rw [hv.len, intsD_len]
  simp only [List.getD_cons_succ, List.getD_cons_zero, nilCk_ptr, ti49_f0, Nat.zero_add, Nat.add_zero, l1, hR.len1, intA_lss, hlt, decide_true, ifA_t, optA_some, hlv]
  refine loop_ind (fun c vs G' => ∃ k : Nat, k ≤ S.length ∧ k = c ∧ vs = [.ptr r 0 0 0, v, .d (.int .i64 (j : Int)), .d (.int .i64 (k : Int))] ∧ G' = G ∧ ∀ y ∈ S.drop k, x.id ≤ y) (n := S.length) ⟨S.length, Nat.le_refl _, rfl, rfl, rfl, by simp⟩ ?_
  rintro X2 c vs G' ⟨k, hk, rfl, rfl, rfl, hbig⟩ hX2
  -- the place is found
  have put : (∀ y ∈ S.take k, y ≤ x.id) → newK G' (fun n33 => bsA ti3 1 [0] [.d (.int .i64 x.id)] G' n33) fun v31 H32 => apart (rsOf (.d (.int .i64 x.id))) v ∧ (apart v31 v ∧ (optA (sliceA 1 v (some (.d (.int .i64 (k : Int)))) none none H32) fun v34 => newK H32 (fun n37 => apA 1 8 v31 v34 H32 n37) fun v35 H36 => optA (sliceA 1 v none (some (.d (.int .i64 (k : Int)))) none H36) fun v38 => newK H36 (fun n41 => apA 1 8 v38 v35 H36 n41) fun v39 H40 => optA (intA .add (.d (.int .i64 (j : Int))) (.d (.int .i64 1))) fun v42 => X [.ptr r 0 0 0, v39, v42, .d (.int .i64 (k : Int))] H40)) := fun hsm => by
   refine ins_c hv hk (by omega) fun w G2 a1 a2 a3 => ?_
   simp only [intA_add, hw, optA_some]
   refine hX (L.length - (j + 1)) _ _ (by omega) ⟨j + 1, w, _, S.take k ++ x.id :: S.drop k, by omega, rfl, rfl, fun i o hi => ?_, a1, fun i hi => ?_, ?_, ?_⟩
   ·have := hle i o hi
    rw [a2 i (by rw [this]; rfl) (fun hh => by have := hnew i hh; rw [this] at hi; cases hi), this]
   ·rcases a3 i hi with h1 | h1
    ·exact hnew i h1
    ·exact le_none hle h1
   ·have e : (L.take (j + 1)).map (·.id) = (L.take j).map (·.id) ++ [x.id] := by
     obtain ⟨hl, hh⟩ := List.getElem?_eq_some_iff.1 hx
     rw [List.take_succ_eq_append_getElem hl, List.map_append, hh]; rfl
    rw [e]
    refine List.Perm.trans List.perm_middle ?_
    rw [List.take_append_drop]
    exact (hperm.cons _).trans (List.perm_append_singleton _ _).symm
   ·rw [List.pairwise_append]
    refine ⟨hsort.sublist (List.take_sublist _ _), ?_, fun a ha b hb => ?_⟩
    ·rw [List.pairwise_cons]
     exact ⟨hbig, hsort.sublist (List.drop_sublist _ _)⟩
    ·rcases List.mem_cons.1 hb with rfl | hb
     ·exact hsm a ha
     ·exact Int.le_trans (hsm a ha) (hbig b hb)
  by_cases hk0 : k = 0
  ·subst hk0
   simp only [List.getD_cons_succ, List.getD_cons_zero, drA_true, intA_gtr, Int.ofNat_eq_zero, Int.lt_irrefl, show ¬ ((0 : Int) < ((0 : Nat) : Int)) by decide, decide_false, ifA_f, optA_some, nilCk_ptr, ti49_f0, ti120_f0, Nat.zero_add, Nat.add_zero, l1, f1, c0, aggL_d, noRsA_nil]
   exact put (by simp)
  ·have hgt : (0 : Int) < (k : Int) := by omega
   have hwk : IntKind.i64.wrap ((k : Int) - 1) = ((k - 1 : Nat) : Int) := by rw [wrap_i64 (by omega) (by omega)]; omega
   have hsk : S[k - 1]? = some (S.getD (k - 1) 0) := by rw [List.getD_eq_getElem?_getD, List.getElem?_eq_getElem (show k - 1 < S.length by omega)]; rfl
   obtain ⟨i', ver', Lm', g1, g2, g3, g4⟩ := hv.at (ti := ti55) (et := 3) rfl (intsD_get hsk)
   have cS : ldV false 1 (.ptr i' ver' (k - 1) 0) G' = some (.d (.int .i64 (S.getD (k - 1) 0))) := ldV_at g3 g4 rfl
   simp only [List.getD_cons_succ, List.getD_cons_zero, drA_true, intA_gtr, decide_eq_true hgt, ifA_t, optA_some, intA_sub, hwk, g1, cS, nilCk_ptr, ti49_f0, ti120_f0, Nat.zero_add, Nat.add_zero, l1, f1, c0, ifA_ite]
   by_cases hcmp : x.id < S.getD (k - 1) 0
   ·rw [if_pos hcmp]
    refine hX2 (k - 1) _ _ (by omega) ⟨k - 1, by omega, rfl, rfl, rfl, fun y hy => ?_⟩
    have e : S.drop (k - 1) = S.getD (k - 1) 0 :: S.drop k := by
     have := List.drop_eq_getElem_cons (show k - 1 < S.length by omega)
     rw [this, show k - 1 + 1 = k by omega, List.getD_eq_getElem?_getD, List.getElem?_eq_getElem (show k - 1 < S.length by omega)]
     rfl
    rw [e] at hy
    rcases List.mem_cons.1 hy with rfl | hy
    ·omega
    ·exact hbig y hy
   ·rw [if_neg hcmp]
    simp only [aggL_d, noRsA_nil]
    refine put fun y hy => ?_
    obtain ⟨q, hq⟩ := List.getElem?_of_mem hy
    have hqk : q < k := by have := (List.getElem?_eq_some_iff.1 hq).1; rw [List.length_take] at this; omega
    rw [List.getElem?_take_of_lt hqk] at hq
    have hle' : y ≤ S.getD (k - 1) 0 := by
     by_cases hqe : q = k - 1
     ·subst hqe; rw [hsk] at hq; cases hq; exact Int.le_refl _
     ·obtain ⟨ha, hb⟩ := List.getElem?_eq_some_iff.1 hq
      obtain ⟨hc, hd⟩ := List.getElem?_eq_some_iff.1 hsk
      have := List.pairwise_iff_getElem.1 hsort q (k - 1) ha hc (by omega)
      rw [hb, hd] at this; exact this
    omega
 ·have hjl : j = L.length := by omega
  subst hjl
  rw [List.take_length] at hperm
  simp only [List.getD_cons_succ, List.getD_cons_zero, nilCk_ptr, ti49_f0, Nat.zero_add, Nat.add_zero, l1, hR.len1, intA_lss, Int.lt_irrefl, decide_false, ifA_f, optA_some]
  have e : S = rsrt L := by
   unfold rsrt
   rw [← sort_perm hperm]
   symm
   exact List.mergeSort_of_pairwise (by simpa using hsort)
  subst e
  have o : AM.Own H 1 G v (intsD (rsrt L)) := by
   refine ⟨hle, intsD_1, ?_⟩
   rcases hv.2 with h0 | ⟨i, ver, Lm, rfl, a, b, c⟩
   ·exact .inl h0
   ·exact .inr (.inr ⟨i, ver, Lm, rfl, a, b, c, hnew i rfl⟩)
  exact o.ret le_refl' (hk _ H le_refl')
end
end Go.Proofs.Ytofjhihigmimbaa
namespace Go.Proofs.Ytofjhihigmimbaa
open Go Go.AM Go.Proofs
theorem retZ_2 {x y : Dat} {H : AHeap} {K : AV → AHeap → Prop} : retZ [.d x, .d y] H K = finZ (.tup [.d x, .d y]) H K := by
 unfold retZ
 rw [frzLK_d, frzLK_d, frzLK_nil]; rfl
theorem ms_frz {sz : Nat} {H : AHeap} {v w : AV} {l : List (List Dat)} {us : Ups} (h : Ms sz H v l) (hf : AM.frz v H = some (w, us)) : (∀ i o, (i, o) ∈ us → idOf v = some i) ∧ ∃ us', AM.frz v (H.sets us) = some (w, us') ∧ ∀ i o, (i, o) ∈ us' → idOf v = some i := by
 rcases h.2 with ⟨rfl, rfl⟩ | ⟨i, ver, L, rfl, h1, h2, h3⟩
 ·simp only [AM.frz, Option.some.injEq, Prod.mk.injEq] at hf
  obtain ⟨rfl, rfl⟩ := hf
  exact ⟨by simp, [], rfl, by simp⟩
 ·simp only [AM.frz, h1, if_true, List.drop_zero, h2, toDatss_avs, Option.some.injEq, Prod.mk.injEq] at hf
  obtain ⟨rfl, rfl⟩ := hf
  refine ⟨by simp [idOf], [(i, .mem ver (max (max 0 (0 + l.length)) (0 + l.length)) sz L)], ?_, by simp [idOf]⟩
  simp only [AHeap.sets, AM.frz, set_self, if_true, List.drop_zero, h2, toDatss_avs]
theorem ms_frzA {sz : Nat} {H : AHeap} {v : AV} {l : List (List Dat)} (h : Ms sz H v l) : frzA v H = AM.frz v H := by
 rcases h.2 with ⟨rfl, rfl⟩ | ⟨i, ver, L, rfl, _⟩ <;> rfl
theorem dry_take {ps : List (Bool × List UInt8)} {j : Nat} (h : j < ps.length) : pcD (dry (ps.take (j + 1))) = pcD (dry (ps.take j)) ++ [[.sl false (bs (ps.getD j (true, [])).2)]] := by
 rw [List.take_succ_eq_append_getElem h, List.getD_eq_getElem?_getD, List.getElem?_eq_getElem h]
 simp only [pcD, dry, List.map_append, List.map_cons, List.map_nil]
 rfl
theorem any_take {ps : List (Bool × List UInt8)} {j : Nat} (h : j < ps.length) : ((ps.take (j + 1)).any fun x => decide (64 < x.2.length)) = ((ps.take j).any (fun x => decide (64 < x.2.length)) || decide (64 < (ps.getD j (true, [])).2.length)) := by
 rw [List.take_succ_eq_append_getElem h, List.getD_eq_getElem?_getD, List.getElem?_eq_getElem h, List.any_append]
 simp
section
variable {H G : AHeap} {r : Nat} {v1 v2 : AV} {L : List Rm} {R : List Pn} {n : Nat} {K : AV → AHeap → Prop}
theorem rsfind2_c (h : RS H r v1 v2 L R n) {id : Int} (hk : ∀ pl : Int, ((∃ (i : Nat) (x : Rm), L[i]? = some x ∧ x.id = id ∧ pl = (i : Int)) ∨ (id ∉ L.map (·.id) ∧ pl = -1)) → K (.d (.int .i64 pl)) H) : CallsA Try.prog 90 [.ptr r 0 0 0, .d (.int .i64 id)] H K :=
 rsfind_c h (fun i x hi hid => hk _ (.inl ⟨i, x, hi, hid, rfl⟩)) fun hno => hk _ (.inr ⟨hno, rfl⟩)
set_option maxHeartbeats 1000000 in
theorem ranswerS_c (h : RS H r v1 v2 L R n) (hn : n < 2 ^ 40) {id : Int} {nl : Bool} {ps : List (Bool × List UInt8)} (hpl : ps.length ≤ 1000) (hpd : ∀ x ∈ ps, x.2.length < 2 ^ 40) (hpn : ∀ x ∈ ps, x.1 = true → x.2 = [])
  (hk : ∀ H' w1 w2 R', (if (anS (fun _ => false) L R id ps).2.1 then PDn R id R' else R' = R) → RS H' r w1 w2 (anS (fun _ => false) L R id ps).1 R' n → ∀ nl', (nl' = true → (anS (fun _ => false) L R id ps).2.2.1 = []) → K (.tup [.d (.sl nl' ((anS (fun _ => false) L R id ps).2.2.1.map Tr.dats)), .d (.int .i64 (anS (fun _ => false) L R id ps).2.2.2)]) H') : CallsA Try.prog 57 [.ptr r 0 0 0, .d (.int .i64 id), .d (.sl nl (pcD ps))] H K := by
 have hlen : (pcD ps).length = ps.length := by simp [pcD]
 have hlen2 : ∀ l : List (Bool × List UInt8), (pcD (dry l)).length = l.length := fun l => by simp [pcD, dry]
 apply C57
 unfold S57
 have leaf : ∀ (G' H1 : AHeap) (w1 w2 : AV) (R' : List Pn) (q : List Rm × Bool × List Tr × Int), Fz G' H1 → anS (fun _ => false) L R id ps = q → (if q.2.1 then PDn R id R' else R' = R) → RS H1 r w1 w2 q.1 R' n → ∀ nl', (nl' = true → q.2.2.1 = []) → retZ [.d (.sl nl' (q.2.2.1.map Tr.dats)), .d (.int .i64 q.2.2.2)] G' K := by
  intro G' H1 w1 w2 R' q hfz hq h0 h1 nl' h2
  subst hq
  rw [retZ_2]
  exact ⟨H1, hfz, H1, le_refl', hk H1 w1 w2 R' h0 h1 nl' h2⟩
 refine jnX_inv (fun vs G' => G' = H ∧ vs = [.ptr r 0 0 0, .d (.int .i64 id), .d (.sl nl (pcD ps)), .d (.bool (decide (ps.length < 1 ∨ 8 < ps.length))), .junk, .junk, .junk]) ?_ fun X hX => ?_
 rotate_left
 ·simp only [lenSl_d, hlen, optA_some, intA_lss, intA_gtr, ifA_ite]
  by_cases h1 : (ps.length : Int) < 1
  ·rw [if_pos h1]
   exact hX _ _ ⟨rfl, by rw [decide_eq_true (.inl (by omega))]⟩
  ·rw [if_neg h1]
   refine hX _ _ ⟨rfl, ?_⟩
   have : decide (ps.length < 1 ∨ 8 < ps.length) = decide ((8 : Int) < ps.length) := decide_eq_decide.2 ⟨fun hh => by omega, fun hh => .inr (by omega)⟩
   rw [this]
 rintro vs G' ⟨rfl, rfl⟩
 simp only [List.getD_cons_succ, List.getD_cons_zero]
 generalize hb0 : decide (ps.length < 1 ∨ 8 < ps.length) = b0
 -- copies of the pieces
 refine loop_ind (fun c vs G => ∃ (j : Nat) (v x6 : AV), j ≤ ps.length ∧ c = ps.length - j ∧ vs = [.ptr r 0 0 0, .d (.int .i64 id), .d (.sl nl (pcD ps)), .d (.bool (b0 || (ps.take j).any fun x => decide (64 < x.2.length))), v, .d (.int .i64 (j : Int)), x6] ∧ AHeap.le G' G ∧ Ms 1 G v (pcD (dry (ps.take j))) ∧ ∀ i, idOf v = some i → G' i = none) (n := ps.length) ⟨0, .d (.sl true []), .junk, Nat.zero_le _, rfl, by simp, le_refl', Ms.nil, fun i hi => by cases hi⟩ ?_
 rintro X c vs G ⟨j, v, x6, hj, rfl, rfl, hle, hv, hnew⟩ hX
 by_cases hjl : j < ps.length
 ·have hlt : (j : Int) < (ps.length : Int) := by omega
  have hw : IntKind.i64.wrap ((j : Int) + 1) = ((j + 1 : Nat) : Int) := by rw [wrap_i64 (by omega) (by omega)]; omega
  have hd := hpd _ (List.mem_of_getElem? (pc_get hjl))
  simp only [List.getD_cons_succ, List.getD_cons_zero, lenSl_d, hlen, intA_lss, optA_some, hlt, decide_true, ifA_t]
  refine jnX_inv (fun vs G2 => G2 = G ∧ vs = [.ptr r 0 0 0, .d (.int .i64 id), .d (.sl nl (pcD ps)), .d (.bool (b0 || (ps.take (j + 1)).any fun x => decide (64 < x.2.length))), v, .d (.int .i64 (j : Int)), x6]) ?_ fun X15 hX15 => ?_
  rotate_left
  ·cases hb : (b0 || (ps.take j).any fun x => decide (64 < x.2.length))
   ·simp only [ifA_f]
    rw [ix51 (pc_get hjl) (H := G), optA_some, ldB, optA_some]
    simp only [lenSl_d, bs_length, optA_some, intA_gtr]
    refine hX15 _ _ ⟨rfl, ?_⟩
    rw [any_take hjl, ← Bool.or_assoc, hb, Bool.false_or]
    have : decide ((64 : Int) < ((ps.getD j (true, [])).2.length : Int)) = decide (64 < (ps.getD j (true, [])).2.length) := decide_eq_decide.2 (by omega)
    rw [this]
   ·simp only [ifA_t]
    refine hX15 _ _ ⟨rfl, ?_⟩
    rw [any_take hjl, ← Bool.or_assoc, hb, Bool.true_or]
  rintro vs G2 ⟨rfl, rfl⟩
  simp only [List.getD_cons_succ, List.getD_cons_zero]
  intro n0 hn0
  simp only [bs5_0, stepK_some, sets_nil']
  rw [ix51 (pc_get hjl) (H := G2), optA_some, ldB, optA_some]
  refine cpB hd fun y G3 hc hfr => ?_
  obtain ⟨us, g1, g2, g3⟩ := hc.frz (G := G3) fun _ _ => rfl
  intro n1 hn1
  have hbs := bs22_cp (H := G3) (n := n1) g2
  simp only [hbs, stepK_some]
  have hle3 : AHeap.le G2 (G3.sets us) := fun i o hi => by
   rw [hc.out g3 hi, hfr i (by rw [hi]; rfl), hi]
  have hv3 := hv.le hle3
  refine hv3.app (ys := [[.sl false (bs (ps.getD j (true, [])).2)]]) elemsA_1 (by decide) (by decide) (by simp) (by rw [hlen2, List.length_take]; simp [mostBytes]; omega) fun w G4 a1 a2 a3 _ => ?_
  simp only [intA_add, hw, optA_some]
  refine hX (ps.length - (j + 1)) _ _ (by omega) ⟨j + 1, w, _, by omega, rfl, rfl, fun i o hi => ?_, by rw [dry_take hjl]; exact a1, fun i hi => ?_⟩
  ·have := hle3 i o (hle i o hi)
   rw [a2 i (by rw [this]; rfl) (fun hh => by have := hnew i hh; rw [this] at hi; cases hi), this]
  ·rcases a3 i hi with h1 | h1
   ·exact hnew i h1
   ·exact le_none hle (le_none hle3 h1)
 have hjl : j = ps.length := by omega
 subst hjl
 clear hX
 rw [List.take_length] at hv
 have hbad : (b0 || (ps.take ps.length).any fun x => decide (64 < x.2.length)) = decide (Bad ps) := by
  rw [List.take_length, ← hb0]
  cases ht : (ps.any fun x => decide (64 < x.2.length))
  ·rw [Bool.or_false]
   refine decide_eq_decide.2 ⟨fun hh => hh.elim .inl fun h2 => .inr (.inl h2), fun hh => ?_⟩
   rcases hh with hh | hh | hh
   ·exact .inl hh
   ·exact .inr hh
   ·unfold tooLong at hh; rw [ht] at hh; cases hh
  ·rw [Bool.or_true]
   exact (decide_eq_true (show Bad ps from .inr (.inr ht))).symm
 rw [hbad]
 have hR := h.le hle
 simp only [List.getD_cons_succ, List.getD_cons_zero, lenSl_d, hlen, intA_lss, optA_some, Int.lt_irrefl, decide_false, ifA_f, ifA_ite]
 by_cases hbd : Bad ps
 ·rw [if_pos hbd]
  exact leaf G G v1 v2 R (L, false, [], 2) (.refl _) (by unfold anS; rw [if_pos hbd]) rfl hR true fun _ => rfl
 rw [if_neg hbd]
 have hl8 : ps.length ≤ 8 := Nat.le_of_not_lt fun hh => hbd (.inr (.inl hh))
 have hl1 : 1 ≤ ps.length := Nat.le_of_not_lt fun hh => hbd (.inl hh)
 have hdry : PcOk (dry ps) := ⟨by unfold dry; rw [List.length_map]; exact hl8, fun x hx => by
  obtain ⟨y, hy, rfl⟩ := List.mem_map.1 hx
  refine ⟨Nat.le_of_not_lt fun hh => hbd (.inr (.inr ?_)), fun hh => by cases hh⟩
  unfold tooLong
  rw [List.any_eq_true]
  exact ⟨y, hy, decide_eq_true hh⟩⟩
 have hnlv : nilS v = false := by
  rcases hv.2 with ⟨rfl, h0⟩ | ⟨i, ver, L', rfl, _⟩
  ·have : (pcD (dry ps)).length = 0 := by rw [h0]; rfl
   rw [hlen2] at this; omega
  ·rfl
 have hvf : ∀ i, rsfoot r v1 v2 i → idOf v ≠ some i := fun i hi hh => by
  have := h.isS hi; rw [hnew i hh] at this; cases this
 simp only [frzLK_ptr, frzLK_d, frzLK_nil]
 obtain ⟨l1, l2⟩ := hR.ld
 refine rsfind2_c hR fun pl hpl => ?_
 refine jnX_inv (fun vs G2 => ∃ W : Bool, G2 = G ∧ (W = true → ∃ (i : Nat) (x : Rm), L[i]? = some x ∧ x.id = id ∧ x.state = 0 ∧ pl = (i : Int)) ∧ (W = false → waiting L id = none) ∧ vs = [.ptr r 0 0 0, .d (.int .i64 id), .d (.sl nl (pcD ps)), .d (.bool (decide (Bad ps))), v, .d (.int .i64 (ps.length : Int)), .d (.int .i64 pl), x6, .d (.bool W)]) ?_ fun X hX => ?_
 rotate_left
 ·simp only [intA_geq, optA_some, ifA_ite]
  rcases hpl with ⟨i, x, hi, hid, rfl⟩ | ⟨hno, rfl⟩
  ·obtain ⟨i0, ver, Lm, f1, f2, f3, f4⟩ := hR.at1 hi
   have c1 := ldR (o := 1) (x := .int .i64 x.state) f3 f4 rfl
   rw [if_pos (by omega)]
   simp only [nilCk_ptr, ti49_f0, ti120_f1, Nat.zero_add, Nat.add_zero, l1, f1, c1, optA_some, intA_eql]
   refine hX _ _ ⟨decide (x.state = 0), rfl, fun hh => ⟨i, x, hi, hid, of_decide_eq_true hh, rfl⟩, fun hh => ?_, rfl⟩
   refine waiting_none fun y hy he hs => ?_
   have : y = x := by
    have a1 := rfind_id h.ids hi
    obtain ⟨j', hj'⟩ := List.getElem?_of_mem hy
    have a2 := rfind_id h.ids hj'
    rw [he, ← hid] at a2
    rw [a1] at a2; cases a2; rfl
   subst this
   exact of_decide_eq_false hh hs
  ·rw [if_neg (by omega)]
   refine hX _ _ ⟨false, rfl, (fun hh => by cases hh), fun _ => waiting_none fun y hy he _ => hno (List.mem_map.2 ⟨y, hy, he⟩), rfl⟩
 rintro vs G2 ⟨W, rfl, hW1, hW0, rfl⟩
 simp only [List.getD_cons_succ, List.getD_cons_zero]
 obtain ⟨us, q1, q2, q3⟩ : ∃ us, AM.frz v G2 = some (.d (.sl false (pcD (dry ps))), us) ∧ (∀ i o, (i, o) ∈ us → idOf v = some i) ∧ True := by
  obtain ⟨us, a1, _, _⟩ := hv.frz
  rw [hnlv] at a1
  exact ⟨us, a1, (ms_frz hv a1).1, trivial⟩
 cases W
 ·-- it does not wait: a plain one may
  simp only [ifA_f]
  have hwt := hW0 rfl
  have han : anS (fun _ => false) L R id ps = if 0 < manyOf R id then (L, true, rsps (fun _ => false) id (bOf R id) ps, 0) else (L, false, [], 5) := by
   unfold anS
   rw [if_neg hbd, hwt]
  have hql := h.qlen
  refine loop_ind (fun c vs G' => ∃ j : Nat, j ≤ R.length ∧ c = R.length - j ∧ vs = [.ptr r 0 0 0, .d (.int .i64 id), .d (.sl nl (pcD ps)), .d (.bool (decide (Bad ps))), v, .d (.int .i64 (ps.length : Int)), .d (.int .i64 (j : Int))] ∧ G' = G2 ∧ ∀ (i : Nat) (q : Pn), i < j → R[i]? = some q → q.id = id → q.many ≤ 0) (n := R.length) ⟨0, Nat.zero_le _, rfl, rfl, rfl, fun i q hi => absurd hi (Nat.not_lt_zero _)⟩ ?_
  rintro X c vs G3 ⟨j, hj, rfl, rfl, rfl, hno⟩ hX
  by_cases hjl : j < R.length
  ·obtain ⟨q, hq⟩ : ∃ q, R[j]? = some q := ⟨_, List.getElem?_eq_getElem hjl⟩
   obtain ⟨i, ver, Lm, f1, f2, f3, f4⟩ := hR.at2 hq
   have hqo := h.qok q (List.mem_of_getElem? hq)
   have hlt : (j : Int) < (R.length : Int) := by omega
   have hw : IntKind.i64.wrap ((j : Int) + 1) = ((j + 1 : Nat) : Int) := by rw [wrap_i64 (by omega) (by omega)]; omega
   have c0 := ldR (o := 0) (x := .int .i64 q.id) f3 f4 rfl
   have c1 := ldR (o := 1) (x := .int .i64 q.many) f3 f4 rfl
   simp only [List.getD_cons_succ, List.getD_cons_zero, nilCk_ptr, ti49_f1, Nat.zero_add, l2, hR.len2, intA_lss, hlt, decide_true, ifA_t, optA_some]
   refine jnX_inv (fun vs G' => G' = G3 ∧ vs = [.ptr r 0 0 0, .d (.int .i64 id), .d (.sl nl (pcD ps)), .d (.bool (decide (Bad ps))), v, .d (.int .i64 (ps.length : Int)), .d (.int .i64 (j : Int)), .d (.bool (decide (q.id = id ∧ 0 < q.many)))]) ?_ fun X83 hX83 => ?_
   rotate_left
   ·simp only [f1, ti152_f0, ti152_f1, Nat.zero_add, Nat.add_zero, c0, c1, l2, optA_some, intA_eql, intA_gtr, ifA_ite]
    by_cases he : q.id = id
    ·rw [if_pos he]
     have : decide (q.id = id ∧ 0 < q.many) = decide (0 < q.many) := decide_eq_decide.2 ⟨fun hh => hh.2, fun hh => ⟨he, hh⟩⟩
     exact hX83 _ _ ⟨rfl, by rw [this]⟩
    ·rw [if_neg he]
     exact hX83 _ _ ⟨rfl, by rw [show decide (q.id = id ∧ 0 < q.many) = false from decide_eq_false fun hh => he hh.1]⟩
   rintro vs G' ⟨rfl, rfl⟩
   simp only [List.getD_cons_succ, List.getD_cons_zero, ifA_ite]
   by_cases hc : q.id = id ∧ 0 < q.many
   ·rw [if_pos hc]
    obtain ⟨he, hm0⟩ := hc
    subst he
    have hm := of_mem h.qids (List.mem_of_getElem? hq)
    have hw2 : IntKind.i64.wrap (q.many - 1) = q.many - 1 := wrap_i64 (by omega) (by omega)
    have s1 := stR (o := 1) (x := .int .i64 (q.many - 1)) f3 f4 (by simp [Pn.row])
    have hri : r ≠ i := fun hh => by have := hR.node; rw [hh, f3] at this; cases this
    have hput := hR.put2 (n' := n) (Nat.le_refl n) hq f2 f3 (y := { q with many := q.many - 1 }) rfl ⟨by show 0 ≤ q.many - 1; omega, by show q.many - 1 ≤ _; omega, hqo.2.2⟩
    have e : ({ q with many := q.many - 1 } : Pn).row = q.row.set 1 (.int .i64 (q.many - 1)) := rfl
    rw [e] at hput
    generalize hG5 : G'.set i (.mem ver 0 3 (Lm.set j ((q.row.set 1 (.int .i64 (q.many - 1))).map AV.d))) = G5 at *
    have hi5 : G5 i = some (.mem ver 0 3 (Lm.set j ((q.row.set 1 (.int .i64 (q.many - 1))).map AV.d))) := by rw [← hG5]; exact set_self
    have l2' := hput.ld.2
    have c2 := ldR (o := 2) (x := .int .i64 q.b) hi5 (setR f4) rfl
    have hvi : ∀ z, idOf v = some z → z ≠ i := fun z hz hh => hvf i (.inr (.inr f2)) (hh ▸ hz)
    have hv5 : Ms 1 G5 v (pcD (dry ps)) := hv.keep fun z hz => by rw [← hG5]; exact set_ne (hvi z hz)
    obtain ⟨us5, p1, p2⟩ : ∃ us5, AM.frz v G5 = some (.d (.sl false (pcD (dry ps))), us5) ∧ ∀ i o, (i, o) ∈ us5 → idOf v = some i := by
     obtain ⟨us, a1, _, _⟩ := hv5.frz
     rw [hnlv] at a1
     exact ⟨us, a1, (ms_frz hv5 a1).1⟩
    have p1' : frzA v G5 = some (.d (.sl false (pcD (dry ps))), us5) := (ms_frzA hv5).trans p1
    simp only [nilCk_ptr, ti49_f1, ti152_f1, ti152_f2, Nat.zero_add, l2, f1, c1, optA_some, intA_sub, hw2, s1, stepK_some, sets_cons, sets_nil', hG5, l2', c2, frzLK_d, frzLK_of p1', frzLK_nil]
    refine rresp_c hqo.2.2.2 hdry ?_
    rw [rsp_dry]
    refine leaf _ (G5.sets us5) v1 v2 (R.set j { q with many := q.many - 1 }) (L, true, rsps (fun _ => false) q.id q.b ps, 0) (.refl _) (by rw [han, hm.1, if_pos hm0, hm.2]) (PDn.set h.qids hq) (hput.keep fun z hz => upsOut fun o ho => hvf z hz (p2 z o ho)) _ fun hh => by simpa using hh
   ·rw [if_neg hc]
    simp only [intA_add, hw, optA_some]
    refine hX (R.length - (j + 1)) _ _ (by omega) ⟨j + 1, by omega, rfl, rfl, rfl, fun i2 q2 hi2 hq2 he2 => ?_⟩
    by_cases h3 : i2 = j
    ·subst h3; rw [hq] at hq2; cases hq2
     exact Int.not_lt.1 fun hh => hc ⟨he2, hh⟩
    ·exact hno i2 q2 (by omega) hq2 he2
  ·have hjl : j = R.length := by omega
   subst hjl
   simp only [List.getD_cons_succ, List.getD_cons_zero, nilCk_ptr, ti49_f1, Nat.zero_add, l2, hR.len2, intA_lss, Int.lt_irrefl, decide_false, ifA_f, optA_some]
   have hm0 : ¬ 0 < manyOf R id := fun hh => by
    rcases pid_cases R id with ⟨i, q, hi, rfl⟩ | hnn
    ·rw [(of_mem h.qids (List.mem_of_getElem? hi)).1] at hh
     have := hno i q (List.getElem?_eq_some_iff.1 hi).1 hi rfl
     omega
    ·rw [of_no hnn] at hh; omega
   exact leaf G3 G3 v1 v2 R (L, false, [], 5) (.refl _) (by rw [han, if_neg hm0]) rfl hR true fun _ => rfl
 ·-- it waits
  obtain ⟨i, x, hi, rfl, hs0, rfl⟩ := hW1 rfl
  obtain ⟨i0, ver, Lm, f1, f2, f3, f4⟩ := hR.at1 hi
  have hok := hR.ok x (List.mem_of_getElem? hi)
  have hpc := PcOk.of hbd hpn
  have hokA := hok.answ hbd hpc
  have han : anS (fun _ => false) L R x.id ps = (L.set i (x.answ ps), false, rsps (fun _ => false) x.id x.b ps, 0) := by
   have e := map_key_set (key := (·.id)) (g := Rm.answ ps) h.ids hi
   unfold anS
   rw [if_neg hbd, waiting_some h.ids hi hs0]
   simp only
   rw [e]
  have hput := hR.put1 (y := x.answ ps) hi f2 f3 rfl hokA
  have hvi : ∀ z, idOf v = some z → z ≠ i0 := fun z hz hh => hvf i0 (.inr (.inl f2)) (hh ▸ hz)
  have s1 := stR (o := 1) (x := .int .i64 1) f3 f4 (by simp [Rm.row])
  have hcs : (Lm.set i ((x.row.set 1 (.int .i64 1)).map AV.d))[i]? = some ((x.row.set 1 (.int .i64 1)).map AV.d) := setR f4
  have s2 : stoA false 1 (.ptr i0 ver i 3) v (G2.set i0 (.mem ver 0 5 (Lm.set i ((x.row.set 1 (.int .i64 1)).map AV.d)))) = some (.junk, [(i0, .mem ver 0 5 (Lm.set i (((x.row.set 1 (.int .i64 1)).map AV.d).set 3 v)))]) := by
   rw [stoA_at (set_self (o := .mem ver 0 5 (Lm.set i ((x.row.set 1 (.int .i64 1)).map AV.d)))) (Nat.zero_le _) hcs (by simp [Rm.row]) hv.st.1 hv.st.2, List.set_set]
  have hcs2 : (Lm.set i (((x.row.set 1 (.int .i64 1)).map AV.d).set 3 v))[i]? = some (((x.row.set 1 (.int .i64 1)).map AV.d).set 3 v) := setR f4
  have s3 : stoA false 1 (.ptr i0 ver i 4) (.d (.int .i64 0)) (G2.set i0 (.mem ver 0 5 (Lm.set i (((x.row.set 1 (.int .i64 1)).map AV.d).set 3 v)))) = some (.junk, [(i0, .mem ver 0 5 (Lm.set i ((((x.row.set 1 (.int .i64 1)).map AV.d).set 3 v).set 4 (.d (.int .i64 0)))))]) := by
   rw [stoA_at (set_self (o := .mem ver 0 5 (Lm.set i (((x.row.set 1 (.int .i64 1)).map AV.d).set 3 v)))) (Nat.zero_le _) hcs2 (by simp [Rm.row]) rfl rfl, List.set_set]
  obtain ⟨cells, hcells⟩ : ∃ c, c = ((((x.row.set 1 (.int .i64 1)).map AV.d).set 3 v).set 4 (.d (.int .i64 0))) := ⟨_, rfl⟩
  rw [← hcells] at s3
  have hce : cells = [.d (.int .i64 x.id), .d (.int .i64 1), .d (.int .i64 x.b), v, .d (.int .i64 0)] := by rw [hcells]; rfl
  have hcs3 : (Lm.set i cells)[i]? = some cells := setR f4
  generalize hG5 : G2.set i0 (.mem ver 0 5 (Lm.set i cells)) = G5
  have hi5 : G5 i0 = some (.mem ver 0 5 (Lm.set i cells)) := by rw [← hG5]; exact set_self
  have c2 : ldV false 1 (.ptr i0 ver i 2) G5 = some (.d (.int .i64 x.b)) := ldV_at hi5 hcs3 (by rw [hce]; rfl)
  have hv5 : Ms 1 G5 v (pcD (dry ps)) := hv.keep fun z hz => by rw [← hG5]; exact set_ne (hvi z hz)
  obtain ⟨us5, p1⟩ : ∃ us5, AM.frz v G5 = some (.d (.sl false (pcD (dry ps))), us5) := by
   obtain ⟨us, a1, _, _⟩ := hv5.frz
   rw [hnlv] at a1
   exact ⟨us, a1⟩
  obtain ⟨p2, us6, p3, p4⟩ := ms_frz hv5 p1
  have p1' : frzA v G5 = some (.d (.sl false (pcD (dry ps))), us5) := (ms_frzA hv5).trans p1
  simp only [ifA_t, nilCk_ptr, ti49_f0, ti120_f1, ti120_f2, ti120_f3, ti120_f4, Nat.zero_add, Nat.add_zero, l1, f1, optA_some, s1, stepK_some, sets_cons, sets_nil', s2, set_set, s3, hG5, c2, frzLK_d, frzLK_of p1', frzLK_nil]
  refine rresp_c hok.b.2 hdry ?_
  rw [rsp_dry]
  have n6 : ∀ {us : Ups}, (∀ i o, (i, o) ∈ us → idOf v = some i) → ∀ o, (i0, o) ∉ us := fun hu o hm => hvi i0 (hu i0 o hm) rfl
  have hi6 : (G5.sets us5) i0 = some (.mem ver 0 5 (Lm.set i cells)) := (upsOut (n6 p2)).trans hi5
  have hfz := fz_cell (k := i0) (e := i) (off := 3) p3 hi6 (n6 p4) hcs3 (by rw [hce]; rfl)
  refine leaf _ _ v1 v2 R (L.set i (x.answ ps), false, rsps (fun _ => false) x.id x.b ps, 0) hfz han rfl (hput.keep fun z hz => ?_) _ fun hh => by simpa using hh
  by_cases hz0 : z = i0
  ·subst hz0
   rw [set_self, set_self, List.set_set]
   have : cells.set 3 (.d (.sl false (pcD (dry ps)))) = (x.answ ps).row.map AV.d := by rw [hce]; rfl
   rw [this]
  ·rw [set_ne hz0, set_ne hz0, upsOut fun o ho => hvf z hz (p4 z o ho), upsOut fun o ho => hvf z hz (p2 z o ho), ← hG5, set_ne hz0]
end
end Go.Proofs.Ytofjhihigmimbaa
namespace Go.Proofs.Ytofjhihigmimbaa
open Go Go.AM Go.Proofs
theorem tkS_same {f g : Bool → Bool} {p : Nat} {L : List Rm} {Q R : List Pn} {t : Tr} : (tkS f p L Q t).1.1 = (tkS g p L R t).1.1 ∧ (tkS f p L Q t).2.2 = (tkS g p L R t).2.2 := by
 unfold tkS
 by_cases h1 : ¬ t.Valid
 ·simp only [if_pos h1]; exact ⟨by first | rfl | trivial, by first | rfl | trivial⟩
 simp only [if_neg h1]
 by_cases h2 : t.kind = 1
 ·simp only [if_pos h2]; exact ⟨by first | rfl | trivial, by first | rfl | trivial⟩
 simp only [if_neg h2]
 by_cases h3 : t.kind = 0 ∧ t.once = false
 ·simp only [if_pos h3]; exact ⟨by first | rfl | trivial, by first | rfl | trivial⟩
 simp only [if_neg h3]
 by_cases h4 : t.id ∈ L.map (·.id)
 ·simp only [if_pos h4]; exact ⟨by first | rfl | trivial, by first | rfl | trivial⟩
 simp only [if_neg h4]
 by_cases h5 : t.kind = 2
 ·simp only [if_pos h5]; exact ⟨by first | rfl | trivial, by first | rfl | trivial⟩
 simp only [if_neg h5]
 by_cases h6 : L.length = 100
 ·simp only [if_pos h6]; exact ⟨by first | rfl | trivial, by first | rfl | trivial⟩
 ·simp only [if_neg h6]; exact ⟨by first | rfl | trivial, by first | rfl | trivial⟩
theorem rsps_sim {id : Int} {b : Nat} {ps : List (Bool × List UInt8)} : SimL (rsps (fun x => x) id b ps) (rsps (fun _ => false) id b ps) := rspL_sim rfl (fun _ _ => rfl) (Nat.le_refl _)
theorem tkS_sim {p : Nat} {L : List Rm} {Q R : List Pn} {t : Tr} : SimL (tkS (fun x => x) p L Q t).2.1 (tkS (fun _ => false) p L R t).2.1 := by
 unfold tkS
 split
 ·exact trivial
 split
 ·exact trivial
 split
 ·exact trivial
 split
 ·show SimL (againOf _ L t) (againOf _ L t)
  unfold againOf
  split
  ·split
   ·exact trivial
   ·exact rsps_sim
  ·exact trivial
 split
 ·exact trivial
 split
 ·exact trivial
 ·exact trivial
theorem tkS_pl {f g : Bool → Bool} {p : Nat} {L : List Rm} {Q R : List Pn} {t : Tr} (h : PlR Q R) (hn : (Q.map (·.id)).Nodup) (hr : (R.map (·.id)).Nodup) : PlR (tkS f p L Q t).1.2 (tkS g p L R t).1.2 := by
 unfold tkS
 by_cases h1 : ¬ t.Valid
 ·simp only [if_pos h1]; exact h
 simp only [if_neg h1]
 by_cases h2 : t.kind = 1
 ·simp only [if_pos h2]; exact h
 simp only [if_neg h2]
 by_cases h3 : t.kind = 0 ∧ t.once = false
 ·simp only [if_pos h3]; exact h.up hn hr
 simp only [if_neg h3]
 by_cases h4 : t.id ∈ L.map (·.id)
 ·simp only [if_pos h4]; exact h
 simp only [if_neg h4]
 by_cases h5 : t.kind = 2
 ·simp only [if_pos h5]; exact h
 simp only [if_neg h5]
 by_cases h6 : L.length = 100
 ·simp only [if_pos h6]; exact h
 ·simp only [if_neg h6]; exact h
theorem anS_same {f g : Bool → Bool} {L : List Rm} {Q R : List Pn} {id : Int} {ps : List (Bool × List UInt8)} (h : PlR Q R) : (anS f L Q id ps).1 = (anS g L R id ps).1 ∧ (anS f L Q id ps).2.1 = (anS g L R id ps).2.1 ∧ (anS f L Q id ps).2.2.2 = (anS g L R id ps).2.2.2 := by
 unfold anS
 by_cases hb : Bad ps
 ·rw [if_pos hb, if_pos hb]; exact ⟨rfl, rfl, rfl⟩
 ·rw [if_neg hb, if_neg hb]
  cases waiting L id with
  | some r => exact ⟨rfl, rfl, rfl⟩
  | none =>
   simp only
   rw [(h id).1]
   by_cases hm : 0 < manyOf R id
   ·rw [if_pos hm, if_pos hm]; exact ⟨rfl, rfl, rfl⟩
   ·rw [if_neg hm, if_neg hm]; exact ⟨rfl, rfl, rfl⟩
theorem anS_sim {L : List Rm} {Q R : List Pn} {id : Int} {ps : List (Bool × List UInt8)} (h : PlR Q R) : SimL (anS (fun x => x) L Q id ps).2.2.1 (anS (fun _ => false) L R id ps).2.2.1 := by
 unfold anS
 by_cases hb : Bad ps
 ·rw [if_pos hb, if_pos hb]; exact trivial
 ·rw [if_neg hb, if_neg hb]
  cases waiting L id with
  | some r => exact rsps_sim
  | none =>
   simp only
   by_cases hm : 0 < manyOf Q id
   ·rw [if_pos hm, if_pos (by rw [← (h id).1]; exact hm), (h id).2 hm]
    exact rsps_sim
   ·rw [if_neg hm, if_neg (by rw [← (h id).1]; exact hm)]; exact trivial
theorem anS_pl {L : List Rm} {Q R Q' R' : List Pn} {id : Int} {ps : List (Bool × List UInt8)} (h : PlR Q R) (h1 : if (anS (fun x => x) L Q id ps).2.1 then PDn Q id Q' else Q' = Q) (h2 : if (anS (fun _ => false) L R id ps).2.1 then PDn R id R' else R' = R) : PlR Q' R' := by
 rw [← (anS_same (f := fun x => x) (g := fun _ => false) (L := L) (id := id) (ps := ps) h).2.1] at h2
 by_cases hd : (anS (fun x => x) L Q id ps).2.1 = true
 ·rw [if_pos hd] at h1 h2
  intro x
  obtain ⟨a1, a2⟩ := h1 x
  obtain ⟨b1, b2⟩ := h2 x
  have hx := h x
  refine ⟨by rw [a1, b1, hx.1], fun hp => ?_⟩
  rw [a2 hp, b2 (by rw [b1, ← hx.1, ← a1]; exact hp)]
  refine hx.2 ?_
  rw [a1] at hp
  split at hp <;> omega
 ·rw [if_neg hd] at h1 h2
  rw [h1, h2]; exact h
section
variable {H G : AHeap} {k m mp r : Nat} {v1 v2 : AV} {L L1 L2 : List Rm} {Q R : List Pn} {n : Nat} {K : AV → AHeap → Prop}
theorem sameInts_c {n1 n2 : Bool} {l : List Int} (hl : l.length < 2 ^ 40) (hk : K (.d (.bool true)) H) : CallsA Try.prog 22 [.d (.sl n1 (intsD l)), .d (.sl n2 (intsD l))] H K := by
 apply C22
 unfold S22
 simp only [lenSl_d, optA_some, intA_neq, intsD_len, ne_eq, not_true_eq_false, decide_false, ifA_f]
 refine loop_ind (fun r vs G => G = H ∧ ∃ j : Nat, j ≤ l.length ∧ r = l.length - j ∧ vs = [.d (.sl n1 (intsD l)), .d (.sl n2 (intsD l)), .d (.int .i64 j)]) (n := l.length) ⟨rfl, 0, by omega, by omega, rfl⟩ ?_
 rintro X r vs G ⟨rfl, j, hj, rfl, rfl⟩ hX
 by_cases hjl : j < l.length
 ·have hlt : (j : Int) < (l.length : Int) := by omega
  have hw : IntKind.i64.wrap ((j : Int) + 1) = ((j + 1 : Nat) : Int) := by rw [wrap_i64 (by omega) (by omega)]; omega
  have hg : l[j]? = some l[j] := List.getElem?_eq_getElem hjl
  simp only [List.getD_cons_succ, List.getD_cons_zero, lenSl_d, intsD_len, intA_lss, optA_some, hlt, decide_true, ifA_t, drA_true, ix55_sl hg, ldB, intA_neq, ne_eq, not_true_eq_false, decide_false, ifA_f, intA_add, hw]
  exact hX (l.length - (j + 1)) _ _ (by omega) ⟨rfl, j + 1, by omega, rfl, rfl⟩
 ·have hjl : j = l.length := by omega
  subst hjl
  simp only [List.getD_cons_succ, List.getD_cons_zero, lenSl_d, intsD_len, intA_lss, optA_some, Int.lt_irrefl, decide_false, ifA_f, ret1_d]
  exact ⟨G, le_refl', hk⟩
theorem bd49_0 {H : AHeap} : bdA Try.prog ti49 [] [] H = some (.agg [.d (.sl true []), .d (.sl true [])], []) := rfl
theorem rnewS_c {K : AV → AHeap → Prop} (hk : ∀ r H', RS H' r (.d (.sl true [])) (.d (.sl true [])) [] [] 0 → AHeap.le H H' → H r = none → K (.ptr r 0 0 0) H') : newK H (fun n17 => boxA (.agg [.d (.sl true []), .d (.sl true [])]) n17) K := by
 refine box_open rfl fun r G hG hle hr => ?_
 have hG : G r = some (.mem 0 0 2 [[.d (.sl true []), .d (.sl true [])]]) := hG
 exact hk r G ⟨hG, Ms.nil, Ms.nil, by simp, by simp, by simp, by simp, by simp, by simp⟩ hle hr
end
end Go.Proofs.Ytofjhihigmimbaa

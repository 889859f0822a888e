/- A desktop's bytes: what they are read as, and that reading and writing are inverse. -/
import Derived.RangeFuncNested
set_option autoImplicit false
set_option linter.unusedVariables false
namespace Go.Proofs.Ytmciomkibklokaa
open Go.RowKit
abbrev By := List UInt8
/-- A number, the highest byte first. -/
def be (l : By) : Nat := l.foldl (fun v b => v * 256 + b.toNat) 0
theorem be_snoc (l : By) (b : UInt8) : be (l ++ [b]) = be l * 256 + b.toNat := by simp [be]
def encZ : Nat → Int → By
  | 0, _ => []
  | n + 1, v => encZ n (v / 256) ++ [UInt8.ofNat (v % 256).toNat]
theorem encZ_length : ∀ (n : Nat) (v : Int), (encZ n v).length = n
  | 0, _ => rfl
  | n + 1, v => by simp [encZ, encZ_length n]
theorem encZ_be_aux : ∀ (n : Nat) (l : By), l.length = n → encZ n (be l) = l
  | 0, l, h => by
    have : l = [] := List.eq_nil_of_length_eq_zero h
    subst this; rfl
  | n + 1, l, h => by
    have hne : l ≠ [] := fun e => by subst e; simp at h
    obtain ⟨i, b, rfl⟩ : ∃ i b, l = i ++ [b] := ⟨l.dropLast, l.getLast hne, (List.dropLast_concat_getLast hne).symm⟩
    have hb := b.toNat_lt
    rw [be_snoc]
    simp only [encZ]
    have e1 : (((be i * 256 + b.toNat : Nat) : Int)) / 256 = (be i : Nat) := by omega
    have e2 : ((((be i * 256 + b.toNat : Nat) : Int)) % 256).toNat = b.toNat := by omega
    rw [e1, e2, encZ_be_aux n i (by simpa using h), UInt8.ofNat_toNat]
theorem encZ_be (l : By) : encZ l.length (be l) = l := encZ_be_aux _ l rfl
theorem be_lt : ∀ (l : By), be l < 256 ^ l.length := by
  intro l
  generalize hn : l.length = n
  induction n generalizing l with
  | zero =>
    have : l = [] := List.eq_nil_of_length_eq_zero hn
    subst this; simp [be]
  | succ n ih =>
    have hne : l ≠ [] := fun e => by subst e; simp at hn
    obtain ⟨i, b, rfl⟩ : ∃ i b, l = i ++ [b] := ⟨l.dropLast, l.getLast hne, (List.dropLast_concat_getLast hne).symm⟩
    have := ih i (by simpa using hn)
    have hb := b.toNat_lt
    rw [be_snoc, Nat.pow_succ]
    omega
theorem encZ_add : ∀ (n : Nat) (v q : Int), encZ n (v + 256 ^ n * q) = encZ n v
  | 0, _, _ => rfl
  | n + 1, v, q => by
    obtain ⟨t, ht⟩ : ∃ t, (256 : Int) ^ n * q = t := ⟨_, rfl⟩
    have e0 : (256 : Int) ^ (n + 1) * q = t * 256 := by rw [Int.pow_succ, ← ht, Int.mul_assoc, Int.mul_comm 256 q, ← Int.mul_assoc]
    have e1 : (v + t * 256) / 256 = v / 256 + t := by omega
    have e2 : (v + t * 256) % 256 = v % 256 := by omega
    have ih := encZ_add n (v / 256) q
    rw [ht] at ih
    simp only [encZ]
    rw [e0, e1, e2, ih]
theorem encZ_wrap (x : Int) : encZ 8 (wrap64 x) = encZ 8 x := by
  obtain ⟨q, hq⟩ : ∃ q : Int, wrap64 x = x + 256 ^ 8 * q := ⟨(wrap64 x - x) / 256 ^ 8, by unfold wrap64; omega⟩
  rw [hq, encZ_add]
/-- Head first. -/
theorem encZ_cons : ∀ (n : Nat) (v : Int), encZ (n + 1) v = UInt8.ofNat ((v / 256 ^ n) % 256).toNat :: encZ n v
  | 0, v => by simp [encZ]
  | n + 1, v => by
    have ih := encZ_cons n (v / 256)
    have e : v / 256 ^ (n + 1) = v / 256 / 256 ^ n := by rw [Int.pow_succ, Int.mul_comm, Int.ediv_ediv_of_nonneg (by decide)]
    rw [encZ, ih, e]
    rfl
/-! ### reading -/
structure Ic where
  c : By
  k : By
  s : Int
  t : Int
  b : By
structure Pg where
  c : By
  n : Int
  f : Int
structure Cm where
  i : Int
  s : By
abbrev Rd (α : Type) := Except Int (α × By)
def bnd {α β : Type} : Rd α → (α → By → Rd β) → Rd β
  | .ok (a, r), f => f a r
  | .error e, _ => .error e
def tk (n : Nat) (r : By) : Rd By := if n ≤ r.length then .ok (r.take n, r.drop n) else .error 6
def num (n : Nat) (lo hi : Int) (r : By) : Rd Int := bnd (tk n r) fun b r => if lo ≤ be b ∧ (be b : Int) ≤ hi then .ok ((be b : Int), r) else .error 3
def cnt (r : By) : Rd Nat := bnd (tk 2 r) fun b r => if be b ≤ 200 then .ok (be b, r) else .error 4
def dupI (l : List Ic) (c k : By) (s : Int) : Bool := l.any fun x => decide (x.c = c ∧ x.k = k ∧ x.s = s)
def dupP (l : List Pg) (c : By) (f : Int) : Bool := l.any fun x => decide (x.c = c ∧ x.f = f)
def icon1 (l : List Ic) (r : By) : Rd Ic :=
  bnd (tk 4 r) fun c r => bnd (tk 4 r) fun k r => bnd (num 1 1 6 r) fun s r => if dupI l c k s then .error 3 else bnd (tk 8 r) fun t r => bnd (num 2 1 500 r) fun m r => bnd (tk m.toNat r) fun b r => .ok (⟨c, k, s, wrap64 (be t), b⟩, r)
def icons : Nat → List Ic → By → Rd (List Ic)
  | 0, l, r => .ok (l, r)
  | n + 1, l, r => bnd (icon1 l r) fun x r => icons n (l ++ [x]) r
def prog1 (l : List Pg) (r : By) : Rd Pg :=
  bnd (tk 4 r) fun c r => bnd (tk 8 r) fun t r => bnd (num 4 1 4294967295 r) fun f r => if dupP l c f then .error 3 else .ok (⟨c, wrap64 (be t), f⟩, r)
def progs : Nat → List Pg → By → Rd (List Pg)
  | 0, l, r => .ok (l, r)
  | n + 1, l, r => bnd (prog1 l r) fun x r => progs n (l ++ [x]) r
def com1 (last : Int) (r : By) : Rd Cm :=
  bnd (num 4 1 4294967295 r) fun i r => if last < i then bnd (num 1 1 199 r) fun m r => bnd (tk m.toNat r) fun s r => .ok (⟨i, s⟩, r) else .error 3
def lastI (l : List Cm) : Int := match l.getLast? with | some x => x.i | none => 0
def coms : Nat → List Cm → By → Rd (List Cm)
  | 0, l, r => .ok (l, r)
  | n + 1, l, r => bnd (com1 (lastI l) r) fun x r => coms n (l ++ [x]) r
def toE {α : Type} : Rd α → Except Int α
  | .ok (x, _) => .ok x
  | .error e => .error e
def pG3 (is : List Ic) (ps : List Pg) (cs : List Cm) (r : By) : Rd (List Ic × List Pg × List Cm) := if r = [] then .ok ((is, ps, cs), r) else .error 3
def pG2 (is : List Ic) (ps : List Pg) (r : By) : Rd (List Ic × List Pg × List Cm) := bnd (cnt r) fun n r => bnd (coms n [] r) fun cs r => pG3 is ps cs r
def pG1 (is : List Ic) (r : By) : Rd (List Ic × List Pg × List Cm) := bnd (cnt r) fun n r => bnd (progs n [] r) fun ps r => pG2 is ps r
def pG0 (r : By) : Rd (List Ic × List Pg × List Cm) := bnd (cnt r) fun n r => bnd (icons n [] r) fun is r => pG1 is r
def parse (b : By) : Except Int (List Ic × List Pg × List Cm) := toE (pG0 b)
/-! ### writing -/
def encIc (x : Ic) : By := x.c ++ x.k ++ encZ 1 x.s ++ encZ 8 x.t ++ encZ 2 x.b.length ++ x.b
def encPg (x : Pg) : By := x.c ++ encZ 8 x.n ++ encZ 4 x.f
def encCm (x : Cm) : By := encZ 4 x.i ++ encZ 1 x.s.length ++ x.s
def encAll (is : List Ic) (ps : List Pg) (cs : List Cm) : By :=
  encZ 2 is.length ++ (is.map encIc).flatten ++ encZ 2 ps.length ++ (ps.map encPg).flatten ++ encZ 2 cs.length ++ (cs.map encCm).flatten
theorem tk_ok {n : Nat} {r b r' : By} (h : tk n r = .ok (b, r')) : r = b ++ r' ∧ b.length = n := by
  unfold tk at h
  split at h
  · simp only [Except.ok.injEq, Prod.mk.injEq] at h
    obtain ⟨rfl, rfl⟩ := h
    exact ⟨(List.take_append_drop _ _).symm, by simp; omega⟩
  · cases h
theorem bnd_ok {α β : Type} {x : Rd α} {f : α → By → Rd β} {y : β × By} (h : bnd x f = .ok y) : ∃ a r, x = .ok (a, r) ∧ f a r = .ok y := by
  unfold bnd at h
  split at h
  · exact ⟨_, _, rfl, h⟩
  · cases h
theorem num_ok {n : Nat} {lo hi v : Int} {r r' : By} (h : num n lo hi r = .ok (v, r')) : ∃ b, r = b ++ r' ∧ b.length = n ∧ v = be b ∧ lo ≤ v ∧ v ≤ hi := by
  obtain ⟨b, q, h1, h2⟩ := bnd_ok h
  obtain ⟨e1, e2⟩ := tk_ok h1
  split at h2
  · rename_i hc
    simp only [Except.ok.injEq, Prod.mk.injEq] at h2
    obtain ⟨rfl, rfl⟩ := h2
    exact ⟨b, e1, e2, rfl, hc.1, hc.2⟩
  · cases h2
theorem num_enc {n : Nat} {lo hi v : Int} {r r' : By} (h : num n lo hi r = .ok (v, r')) : r = encZ n v ++ r' ∧ lo ≤ v ∧ v ≤ hi := by
  obtain ⟨b, h1, h2, h3, h4⟩ := num_ok h
  refine ⟨?_, h4⟩
  rw [h3, ← h2, encZ_be]; exact h1
theorem cnt_enc {n : Nat} {r r' : By} (h : cnt r = .ok (n, r')) : r = encZ 2 n ++ r' ∧ n ≤ 200 := by
  obtain ⟨b, q, h1, h2⟩ := bnd_ok h
  obtain ⟨e1, e2⟩ := tk_ok h1
  split at h2
  · rename_i hc
    simp only [Except.ok.injEq, Prod.mk.injEq] at h2
    obtain ⟨rfl, rfl⟩ := h2
    refine ⟨?_, hc⟩
    rw [← e2, encZ_be]; exact e1
  · cases h2
structure Ic.Ok (x : Ic) : Prop where
  c : x.c.length = 4
  k : x.k.length = 4
  s : 1 ≤ x.s ∧ x.s ≤ 6
  b : 1 ≤ x.b.length ∧ x.b.length ≤ 500
theorem icon1_enc {l : List Ic} {r r' : By} {x : Ic} (h : icon1 l r = .ok (x, r')) : r = encIc x ++ r' ∧ x.Ok := by
  obtain ⟨c, r1, h1, h⟩ := bnd_ok h
  obtain ⟨k, r2, h2, h⟩ := bnd_ok h
  obtain ⟨s, r3, h3, h⟩ := bnd_ok h
  split at h
  · cases h
  obtain ⟨t, r4, h4, h⟩ := bnd_ok h
  obtain ⟨m, r5, h5, h⟩ := bnd_ok h
  obtain ⟨b, r6, h6, h⟩ := bnd_ok h
  simp only [Except.ok.injEq, Prod.mk.injEq] at h
  obtain ⟨rfl, rfl⟩ := h
  obtain ⟨a1, b1⟩ := tk_ok h1
  obtain ⟨a2, b2⟩ := tk_ok h2
  obtain ⟨a3, b3, c3⟩ := num_enc h3
  obtain ⟨a4, b4⟩ := tk_ok h4
  obtain ⟨a5, b5, c5⟩ := num_enc h5
  obtain ⟨a6, b6⟩ := tk_ok h6
  refine ⟨?_, b1, b2, ⟨b3, c3⟩, by simp only; omega⟩
  have e8 : encZ 8 (wrap64 (be t)) = t := by rw [encZ_wrap, ← b4, encZ_be]
  have em : ((b.length : Nat) : Int) = m := by omega
  simp only [encIc, e8, em]
  rw [a1, a2, a3, a4, a5, a6]
  simp only [List.append_assoc]
structure Pg.Ok (x : Pg) : Prop where
  c : x.c.length = 4
  f : 1 ≤ x.f ∧ x.f ≤ 4294967295
theorem prog1_enc {l : List Pg} {r r' : By} {x : Pg} (h : prog1 l r = .ok (x, r')) : r = encPg x ++ r' ∧ x.Ok := by
  obtain ⟨c, r1, h1, h⟩ := bnd_ok h
  obtain ⟨t, r4, h4, h⟩ := bnd_ok h
  obtain ⟨m, r5, h5, h⟩ := bnd_ok h
  split at h
  · cases h
  simp only [Except.ok.injEq, Prod.mk.injEq] at h
  obtain ⟨rfl, rfl⟩ := h
  obtain ⟨a1, b1⟩ := tk_ok h1
  obtain ⟨a4, b4⟩ := tk_ok h4
  obtain ⟨a5, b5, c5⟩ := num_enc h5
  refine ⟨?_, b1, ⟨b5, c5⟩⟩
  have e8 : encZ 8 (wrap64 (be t)) = t := by rw [encZ_wrap, ← b4, encZ_be]
  simp only [encPg, e8]
  rw [a1, a4, a5]
  simp only [List.append_assoc]
structure Cm.Ok (x : Cm) : Prop where
  i : 1 ≤ x.i ∧ x.i ≤ 4294967295
  s : 1 ≤ x.s.length ∧ x.s.length ≤ 199
theorem com1_enc {last : Int} {r r' : By} {x : Cm} (h : com1 last r = .ok (x, r')) : r = encCm x ++ r' ∧ x.Ok ∧ last < x.i := by
  obtain ⟨i, r1, h1, h⟩ := bnd_ok h
  split at h
  · rename_i hl
    obtain ⟨m, r5, h5, h⟩ := bnd_ok h
    obtain ⟨b, r6, h6, h⟩ := bnd_ok h
    simp only [Except.ok.injEq, Prod.mk.injEq] at h
    obtain ⟨rfl, rfl⟩ := h
    obtain ⟨a1, b1, c1⟩ := num_enc h1
    obtain ⟨a5, b5, c5⟩ := num_enc h5
    obtain ⟨a6, b6⟩ := tk_ok h6
    refine ⟨?_, ⟨⟨b1, c1⟩, by simp only; omega⟩, hl⟩
    have em : ((b.length : Nat) : Int) = m := by omega
    simp only [encCm, em]
    rw [a1, a5, a6]
    simp only [List.append_assoc]
  · cases h
theorem icons_enc : ∀ {n : Nat} {l l' : List Ic} {r r' : By}, icons n l r = .ok (l', r') → (∀ x ∈ l, x.Ok) → ∃ m, l' = l ++ m ∧ r = (m.map encIc).flatten ++ r' ∧ m.length = n ∧ ∀ x ∈ l', x.Ok
  | 0, l, l', r, r', h, hl => by
    simp only [icons, Except.ok.injEq, Prod.mk.injEq] at h
    obtain ⟨rfl, rfl⟩ := h
    exact ⟨[], by simp, by simp, rfl, hl⟩
  | n + 1, l, l', r, r', h, hl => by
    obtain ⟨x, r1, h1, h2⟩ := bnd_ok h
    obtain ⟨a1, b1⟩ := icon1_enc h1
    obtain ⟨m, c1, c2, c3, c4⟩ := icons_enc h2 (fun y hy => (List.mem_append.1 hy).elim (hl y) fun hy => by cases List.mem_singleton.1 hy; exact b1)
    refine ⟨x :: m, by rw [c1]; simp, ?_, by simp [c3], c4⟩
    rw [a1, c2]; simp
theorem progs_enc : ∀ {n : Nat} {l l' : List Pg} {r r' : By}, progs n l r = .ok (l', r') → (∀ x ∈ l, x.Ok) → ∃ m, l' = l ++ m ∧ r = (m.map encPg).flatten ++ r' ∧ m.length = n ∧ ∀ x ∈ l', x.Ok
  | 0, l, l', r, r', h, hl => by
    simp only [progs, Except.ok.injEq, Prod.mk.injEq] at h
    obtain ⟨rfl, rfl⟩ := h
    exact ⟨[], by simp, by simp, rfl, hl⟩
  | n + 1, l, l', r, r', h, hl => by
    obtain ⟨x, r1, h1, h2⟩ := bnd_ok h
    obtain ⟨a1, b1⟩ := prog1_enc h1
    obtain ⟨m, c1, c2, c3, c4⟩ := progs_enc h2 (fun y hy => (List.mem_append.1 hy).elim (hl y) fun hy => by cases List.mem_singleton.1 hy; exact b1)
    refine ⟨x :: m, by rw [c1]; simp, ?_, by simp [c3], c4⟩
    rw [a1, c2]; simp
/-- Rising. -/
def Rising (l : List Cm) : Prop := (l.map (·.i)).Pairwise (· < ·)
theorem rising_snoc {l : List Cm} {x : Cm} (h : Rising l) (hp : ∀ y ∈ l, 1 ≤ y.i) (hx : lastI l < x.i) : Rising (l ++ [x]) := by
  unfold Rising at h ⊢
  rw [List.map_append, List.pairwise_append]
  refine ⟨h, by simp, ?_⟩
  intro a ha b hb
  simp only [List.map_cons, List.map_nil, List.mem_singleton] at hb
  subst hb
  by_cases hne : l = []
  · subst hne; simp at ha
  obtain ⟨i, y, rfl⟩ : ∃ i y, l = i ++ [y] := ⟨l.dropLast, l.getLast hne, (List.dropLast_concat_getLast hne).symm⟩
  have hl : lastI (i ++ [y]) = y.i := by simp [lastI]
  rw [hl] at hx
  rw [List.map_append, List.mem_append] at ha
  rcases ha with ha | ha
  · rw [List.map_append, List.pairwise_append] at h
    have := h.2.2 a ha y.i (by simp)
    omega
  · simp only [List.map_cons, List.map_nil, List.mem_singleton] at ha
    omega
theorem coms_enc : ∀ {n : Nat} {l l' : List Cm} {r r' : By}, coms n l r = .ok (l', r') → (∀ x ∈ l, x.Ok) → Rising l → ∃ m, l' = l ++ m ∧ r = (m.map encCm).flatten ++ r' ∧ m.length = n ∧ (∀ x ∈ l', x.Ok) ∧ Rising l'
  | 0, l, l', r, r', h, hl, hr => by
    simp only [coms, Except.ok.injEq, Prod.mk.injEq] at h
    obtain ⟨rfl, rfl⟩ := h
    exact ⟨[], by simp, by simp, rfl, hl, hr⟩
  | n + 1, l, l', r, r', h, hl, hr => by
    obtain ⟨x, r1, h1, h2⟩ := bnd_ok h
    obtain ⟨a1, b1, d1⟩ := com1_enc h1
    obtain ⟨m, c1, c2, c3, c4⟩ := coms_enc h2 (fun y hy => (List.mem_append.1 hy).elim (hl y) fun hy => by cases List.mem_singleton.1 hy; exact b1) (rising_snoc hr (fun y hy => (hl y hy).i.1) d1)
    refine ⟨x :: m, by rw [c1]; simp, ?_, by simp [c3], c4⟩
    rw [a1, c2]; simp
/-- What is read is what was written. -/
theorem parse_enc {b : By} {is : List Ic} {ps : List Pg} {cs : List Cm} (h : parse b = .ok (is, ps, cs)) : encAll is ps cs = b ∧ is.length ≤ 200 ∧ ps.length ≤ 200 ∧ cs.length ≤ 200 ∧ (∀ x ∈ is, x.Ok) ∧ (∀ x ∈ ps, x.Ok) ∧ (∀ x ∈ cs, x.Ok) ∧ Rising cs := by
  unfold parse toE at h
  split at h
  · rename_i x y hx
    simp only [Except.ok.injEq] at h
    subst h
    obtain ⟨n1, r1, h1, h⟩ := bnd_ok hx
    obtain ⟨l1, q1, h2, h⟩ := bnd_ok h
    obtain ⟨n2, r2, h3, h⟩ := bnd_ok h
    obtain ⟨l2, q2, h4, h⟩ := bnd_ok h
    obtain ⟨n3, r3, h5, h⟩ := bnd_ok h
    obtain ⟨l3, q3, h6, h⟩ := bnd_ok h
    unfold pG3 at h
    split at h
    · rename_i hq
      simp only [Except.ok.injEq, Prod.mk.injEq] at h
      obtain ⟨⟨rfl, rfl, rfl⟩, rfl⟩ := h
      subst hq
      obtain ⟨a1, b1⟩ := cnt_enc h1
      obtain ⟨m1, c1, c2, c3, c4⟩ := icons_enc h2 (by simp)
      obtain ⟨a2, b2⟩ := cnt_enc h3
      obtain ⟨m2, d1, d2, d3, d4⟩ := progs_enc h4 (by simp)
      obtain ⟨a3, b3⟩ := cnt_enc h5
      obtain ⟨m3, e1, e2, e3, e4, e5⟩ := coms_enc h6 (by simp) (by simp [Rising])
      rw [List.nil_append] at c1 d1 e1
      subst c1 d1 e1
      refine ⟨?_, by omega, by omega, by omega, c4, d4, e4, e5⟩
      unfold encAll
      rw [c3, d3, e3, a1, c2, a2, d2, a3, e2]
      simp only [List.append_assoc, List.append_nil]
    · cases h
  · cases h
end Go.Proofs.Ytmciomkibklokaa

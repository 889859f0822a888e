/- The arguments of a law as data: opened by their types. -/
import Derived.Test.YtmciomkibklokaaA20b
import Derived.OpenShut
import Derived.SizedLaws
import Derived.ChangeArms
set_option autoImplicit false
set_option linter.unusedVariables false
set_option linter.unusedSimpArgs false
namespace Go.AM
open Go.RowKit Go.MapKept Go.WideShapes

/-- All that lies there is data that nobody writes any more. -/
def froze (w : World) : Lo := { mem := fun _ _ => none, obj := fun _ => none, imm := fun b o => w.cell? ⟨b, o, none⟩, cnt := 0 }
def noHeap : AHeap := fun _ => none
theorem froze_rel (w : World) : Rel w.heap.size (froze w) noHeap w where
  imm := fun b o v h => h
  mem := fun i ver fro sz l h => by cases h
  map := fun i es cl h => by cases h
  iter := fun i m s se st h => by cases h
  iter0 := fun i h => by cases h
  dist := fun i j o o' b h _ _ _ => by cases h
  fm := fun i v x h => by cases h
  fo := fun i x h => by cases h
  base := Nat.le_refl _

/-- Data of a type. -/
def DatFs (R : TypeId → List Dat → Prop) : List Field → List Dat → Prop
  | [], xs => xs = []
  | f :: fs, xs => ∃ x y, xs = x ++ y ∧ R f.type x ∧ DatFs R fs y
def DatArr (R : List Dat → Prop) : Nat → List Dat → Prop
  | 0, xs => xs = []
  | n + 1, xs => ∃ x y, xs = x ++ y ∧ R x ∧ DatArr R n y
def DatOk (P : Program) : Nat → TypeId → List Dat → Prop
  | 0, _, _ => False
  | n + 1, t, xs => match P.underlying t with
    | some .bool => ∃ b, xs = [.bool b]
    | some (.int k) => ∃ i, xs = [.int k i] ∧ (Lit.int k i).wf = true
    | some .string => ∃ s : ByteArray, xs = [.str s] ∧ s.size ≤ reachBytes
    | some (.slice e) => ∃ nl l, xs = [.sl nl l] ∧ (nl = true → l = []) ∧ (∀ c ∈ l, DatOk P n e c) ∧ l.length * P.bytesOf e ≤ reachBytes
    | some (.struct fs) => DatFs (DatOk P n) fs.toList xs
    | some (.array m e) => DatArr (DatOk P n e) m xs
    | _ => False
def tileB (P : Program) (total : Nat) : Nat → List Field → Bool
  | off, [] => off == total
  | off, f :: fs => f.offset == off && tileB P total (off + P.cellsOf f.type) fs
/-- Is the type's data of this kind? -/
def datT (P : Program) : Nat → TypeId → Bool
  | 0, _ => false
  | n + 1, t => match P.underlying t with
    | some .bool => true
    | some (.int _) => true
    | some .string => true
    | some (.slice e) => datT P n e && decide (0 < P.cellsOf e)
    | some (.struct fs) => tileB P (P.cellsOf t) 0 fs.toList && fs.toList.all fun f => datT P n f.type
    | some (.array m e) => datT P n e && P.cellsOf t == m * P.cellsOf e
    | _ => false

section
variable {H : Type} {enc : TypeId × Value → H} {P : Program} {w : World}

theorem crl_one {L : Lo} {x : Dat} {v : Value} (h : DR L x v) : CRL L ([x].map AV.d) [v] := by
  simp only [List.map_cons, List.map_nil, CRL, VR, and_true]
  exact ⟨h, DR.one h⟩
theorem cells?_get {a : Addr} {n : Nat} {cs : List Value} (h : w.cells? 0 a n = some cs) : cs.length = n ∧ ∀ j, j < n → w.cell? (a.add j) = cs[j]? := by
  unfold World.cells? at h
  simp only [Nat.zero_le, if_true] at h
  exact ⟨by simpa using mapM_some_length h, fun j hj => mapM_some_get h j j (by simp [hj])⟩
theorem drc_of {b : Nat} : ∀ (xs : List Dat) (cs : List Value) (o : Nat), CRL (froze w) (xs.map AV.d) cs → (∀ j, j < xs.length → w.cell? ⟨b, o + j, none⟩ = cs[j]?) → DRC (froze w) b o xs
  | [], cs, o, _, _ => by simp [DRC]
  | x :: xs, [], o, h, _ => by simp [CRL] at h
  | x :: xs, c :: cs, o, h, hc => by
    simp only [List.map_cons, CRL, VR] at h
    simp only [DRC]
    refine ⟨⟨c, ?_, h.1⟩, drc_of xs cs (o + 1) h.2.2 fun j hj => ?_⟩
    · have := hc 0 (by simp)
      simpa [froze] using this
    · have := hc (j + 1) (by simpa using hj)
      simp only [List.getElem?_cons_succ] at this
      rw [← this]
      congr 2
      omega
theorem dre_of {b sz : Nat} : ∀ (l : List (List Dat)) (o : Nat), (∀ c ∈ l, c.length = sz) → (∀ i c, l[i]? = some c → DRC (froze w) b (o + i * sz) c) → DRE (froze w) b o sz l
  | [], o, _, _ => by simp [DRE]
  | c :: l, o, h, hc => by
    simp only [DRE]
    refine ⟨h c (by simp), by simpa using hc 0 c rfl, dre_of l (o + sz) (fun c hc' => h c (by simp [hc'])) fun i c' hi => ?_⟩
    have := hc (i + 1) c' (by simpa using hi)
    rw [Nat.add_mul, Nat.one_mul] at this
    rw [show o + sz + i * sz = o + (i * sz + sz) by omega]
    exact this
theorem list_choose {α β : Type} {R : α → β → Prop} : ∀ (l : List α), (∀ x ∈ l, ∃ y, R x y) → ∃ ys : List β, ys.length = l.length ∧ ∀ (i : Nat) (x : α) (y : β), l[i]? = some x → ys[i]? = some y → R x y
  | [], _ => ⟨[], rfl, fun i x y h => by simp at h⟩
  | x :: l, h => by
    obtain ⟨y, hy⟩ := h x (by simp)
    obtain ⟨ys, h1, h2⟩ := list_choose l fun z hz => h z (by simp [hz])
    refine ⟨y :: ys, by simp [h1], fun i x' y' hx' hy' => ?_⟩
    cases i with
    | zero => simp at hx' hy'; subst hx'; subst hy'; exact hy
    | succ i => exact h2 i x' y' (by simpa using hx') (by simpa using hy')
theorem fields_open {R : TypeId → List Dat → Prop} {cs : List Value} {n : Nat} : ∀ (fl : List Field) (off : Nat) (xs : List (DataW H × List MemPlace)), tileB P cs.length off fl = true → off ≤ cs.length → xs.length = fl.length →
    (∀ (i : Nat) (f : Field), fl[i]? = some f → DataW.trod enc P w 0 (fun _ => true) true n f.type ((cs.drop f.offset).take (P.cellsOf f.type)) = xs[i]?) →
    (∀ f ∈ fl, ∀ cs' x, DataW.trod enc P w 0 (fun _ => true) true n f.type cs' = some x → (x.1.weights P f.type).all (· ≤ reachBytes) = true → ∃ ys, R f.type ys ∧ CRL (froze w) (ys.map AV.d) cs') →
    (DataW.weightsEach P (fl.map (·.type)) (xs.map (·.1))).all (· ≤ reachBytes) = true → ∃ ys, DatFs R fl ys ∧ CRL (froze w) (ys.map AV.d) (cs.drop off)
  | [], off, xs, ht, hoff, hl, h, ih, hw => by
    simp only [tileB, beq_iff_eq] at ht
    exact ⟨[], rfl, by rw [ht]; simp [CRL]⟩
  | f :: fl, off, [], ht, hoff, hl, h, ih, hw => by simp at hl
  | f :: fl, off, x :: xs, ht, hoff, hl, h, ih, hw => by
    simp only [tileB, Bool.and_eq_true, beq_iff_eq] at ht
    obtain ⟨h1, h2⟩ := ht
    simp only [List.map_cons, DataW.weightsEach, List.all_append, Bool.and_eq_true] at hw
    have h0 := h 0 f rfl
    rw [h1] at h0
    simp only [List.getElem?_cons_zero] at h0
    obtain ⟨ys, k1, k2⟩ := ih f (by simp) _ _ h0 hw.1
    have hle : off + P.cellsOf f.type ≤ cs.length := by
      have key : ∀ (fl : List Field) (o : Nat), tileB P cs.length o fl = true → o ≤ cs.length := by
        intro fl
        induction fl with
        | nil => intro o h; simp only [tileB, beq_iff_eq] at h; omega
        | cons g fl ih => intro o h; simp only [tileB, Bool.and_eq_true, beq_iff_eq] at h; have := ih _ h.2; omega
      exact key _ _ h2
    obtain ⟨zs, k3, k4⟩ := fields_open (R := R) fl (off + P.cellsOf f.type) xs h2 hle (by simpa using hl) (fun i g hg => by simpa using h (i + 1) g (by simpa using hg)) (fun g hg => ih g (by simp [hg])) hw.2
    refine ⟨ys ++ zs, ⟨ys, zs, rfl, k1, k3⟩, ?_⟩
    rw [List.map_append]
    have : cs.drop off = (cs.drop off).take (P.cellsOf f.type) ++ cs.drop (off + P.cellsOf f.type) := by
      rw [← List.drop_drop, List.take_append_drop]
    rw [this]
    exact k2.app k4
theorem arr_open {R : List Dat → Prop} {cs : List Value} {n m sz : Nat} {e : TypeId} {xs : List (DataW H × List MemPlace)} (hsz : P.cellsOf e = sz) (hlen : cs.length = m * sz) (hl : xs.length = m)
    (h : ∀ (i : Nat), i < m → DataW.trod enc P w 0 (fun _ => true) true n e ((cs.drop (i * sz)).take sz) = xs[i]?)
    (ih : ∀ cs' x, x ∈ xs → DataW.trod enc P w 0 (fun _ => true) true n e cs' = some x → ∃ ys, R ys ∧ CRL (froze w) (ys.map AV.d) cs') : ∀ (k i : Nat), i + k = m → ∃ ys, DatArr R k ys ∧ CRL (froze w) (ys.map AV.d) (cs.drop (i * sz))
  | 0, i, hi => ⟨[], rfl, by rw [show i = m by omega, ← hlen]; simp [CRL]⟩
  | k + 1, i, hi => by
    have hx : xs[i]? = some xs[i] := by simp [show i < xs.length by omega]
    obtain ⟨ys, k1, k2⟩ := ih _ xs[i] (by simp) ((h i (by omega)).trans hx)
    obtain ⟨zs, k3, k4⟩ := arr_open hsz hlen hl h ih k (i + 1) (by omega)
    refine ⟨ys ++ zs, ⟨ys, zs, rfl, k1, k3⟩, ?_⟩
    rw [List.map_append]
    have : cs.drop (i * sz) = (cs.drop (i * sz)).take sz ++ cs.drop ((i + 1) * sz) := by
      rw [Nat.add_mul, Nat.one_mul, ← List.drop_drop, List.take_append_drop]
    rw [this]
    exact k2.app k4
theorem weightsAll_all {e : TypeId} : ∀ {ds : List (DataW H)} {q : Nat → Bool}, (DataW.weightsAll P e ds).all q = true → ∀ d ∈ ds, (d.weights P e).all q = true
  | [], q, _, d, hd => by simp at hd
  | x :: ds, q, h, d, hd => by
    simp only [DataW.weightsAll, List.all_append, Bool.and_eq_true] at h
    rcases List.mem_cons.1 hd with rfl | hd
    · exact h.1
    · exact weightsAll_all h.2 d hd
theorem open_dat : ∀ (n : Nat) (t : TypeId), datT P n t = true → ∀ (fuel : Nat) (cs : List Value) (x : DataW H × List MemPlace), DataW.trod enc P w 0 (fun _ => true) true fuel t cs = some x → (x.1.weights P t).all (· ≤ reachBytes) = true →
    ∃ xs, DatOk P n t xs ∧ CRL (froze w) (xs.map AV.d) cs
  | 0, t, ht, _, _, _, _, _ => by cases ht
  | n + 1, t, ht, fuel, cs, x, h, hw => by
    simp only [datT] at ht
    simp only [DatOk]
    split at ht
    · rename_i hu
      obtain ⟨b, rfl, _⟩ := DataW.trod_bool hu h
      exact ⟨_, ⟨b, rfl⟩, crl_one (by simp [DR])⟩
    · rename_i k hu
      obtain ⟨i, rfl, _, hwf⟩ := DataW.trod_int hu h
      exact ⟨_, ⟨i, rfl, hwf⟩, crl_one (by simp [DR])⟩
    · rename_i hu
      obtain ⟨s, rfl, rfl, _⟩ := DataW.trod_string hu h
      have : s.size ≤ reachBytes := by simpa [DataW.weights] using hw
      exact ⟨_, ⟨s, rfl, this⟩, crl_one (by simp [DR])⟩
    · rename_i e hu
      simp only [Bool.and_eq_true, decide_eq_true_eq] at ht
      rcases DataW.trod_slice hu h with ⟨rfl, rfl⟩ | ⟨a, len, cap, elems, rest, m, rfl, rfl, rfl, hb, hl, hm, hlen, hel, hsp, hns⟩
      · exact ⟨_, ⟨true, [], rfl, fun _ => rfl, by simp, by simp⟩, crl_one (by simp [DR])⟩
      · simp only [DataW.weights, hu, List.all_cons, List.all_append, Bool.and_eq_true, decide_eq_true_eq, List.length_map] at hw
        have each : ∀ i, i < len → ∃ c cs', DatOk P n e c ∧ w.cells? 0 (a.add (i * P.cellsOf e)) (P.cellsOf e) = some cs' ∧ CRL (froze w) (c.map AV.d) cs' := by
          intro i hi
          have h1 := hel i hi
          have hx : elems[i]? = some elems[i] := by simp [hlen, hi]
          rw [hx] at h1
          obtain ⟨cs', h2, h3⟩ := Option.bind_eq_some_iff.1 h1
          obtain ⟨c, k1, k2⟩ := open_dat n e ht.1 _ _ _ h3 (weightsAll_all hw.2.1 _ (List.mem_map.2 ⟨elems[i], by simp, rfl⟩))
          exact ⟨c, cs', k1, h2, k2⟩
        obtain ⟨l, hll, hl2⟩ := list_choose (R := fun i c => ∃ cs', DatOk P n e c ∧ w.cells? 0 (a.add (i * P.cellsOf e)) (P.cellsOf e) = some cs' ∧ CRL (froze w) (c.map AV.d) cs') (List.range len) fun i hi => each i (List.mem_range.1 hi)
        rw [List.length_range] at hll
        have at' : ∀ (i : Nat) (c : List Dat), l[i]? = some c → ∃ cs', DatOk P n e c ∧ w.cells? 0 (a.add (i * P.cellsOf e)) (P.cellsOf e) = some cs' ∧ CRL (froze w) (c.map AV.d) cs' := by
          intro i c hc
          have hi : i < len := by have := (List.getElem?_eq_some_iff.1 hc).1; omega
          exact hl2 i i c (by simp [hi]) hc
        have hspot : l = [] ∨ a.spot = none := by
          cases hl0 : l with
          | nil => exact .inl rfl
          | cons c r =>
            right
            obtain ⟨cs', _, h2, _⟩ := at' 0 c (by rw [hl0]; rfl)
            obtain ⟨h3, h4⟩ := cells?_get h2
            have h5 := h4 0 ht.2
            have hcs : cs'[0]? = some cs'[0] := by simp [h3, ht.2]
            simp only [Nat.zero_mul] at h5
            rw [hcs] at h5
            simp only [Addr.add, if_true] at h5
            unfold World.cell? at h5
            split at h5
            · split at h5
              · cases h5
              · rename_i hs; cases hsp : a.spot with
                | none => rfl
                | some q => rw [hsp] at hs; simp at hs
            · cases h5
        refine ⟨_, ⟨false, l, rfl, (by simp), fun c hc => ?_, ?_⟩, crl_one ?_⟩
        · obtain ⟨i, hi⟩ := List.getElem?_of_mem hc
          exact (at' i c hi).choose_spec.1
        · rw [hll, ← hlen]
          have := hw.1
          rw [Nat.add_mul] at this
          omega
        · simp only [DR]
          refine ⟨some a, cap, by rw [hll], by omega, by simp, fun _ => ⟨a, rfl, hspot.imp id fun hs => ⟨hs, P.cellsOf e, ?_⟩⟩⟩
          have lenc : ∀ (i : Nat) (c : List Dat), l[i]? = some c → c.length = P.cellsOf e := by
            intro i c hc
            obtain ⟨cs', _, h2, h3⟩ := at' i c hc
            have := h3.length
            rw [(cells?_get h2).1] at this
            simpa using this
          refine dre_of l a.off (fun c hc => ?_) fun i c hc => ?_
          · obtain ⟨i, hi⟩ := List.getElem?_of_mem hc; exact lenc i c hi
          · obtain ⟨cs', _, h2, h3⟩ := at' i c hc
            refine drc_of c cs' _ h3 fun j hj => ?_
            rw [← (cells?_get h2).2 j (by rw [← lenc i c hc]; exact hj)]
            congr 1
            unfold Addr.add
            obtain ⟨ab, ao, as⟩ := a
            simp only at hs
            subst hs
            by_cases h0 : i * P.cellsOf e = 0
            · by_cases hj0 : j = 0 <;> simp [h0, hj0]
            · by_cases hj0 : j = 0 <;> simp [h0, hj0]
    · rename_i fs hu
      simp only [Bool.and_eq_true, List.all_eq_true] at ht
      obtain ⟨xs, m, rfl, rfl, hlen, hxl, hf⟩ := DataW.trod_struct hu h
      simp only [DataW.weights, hu] at hw
      obtain ⟨ys, k1, k2⟩ := fields_open (enc := enc) (P := P) (w := w) (R := DatOk P n) (cs := cs) (n := m) fs.toList 0 xs (by rw [hlen]; exact ht.1) (Nat.zero_le _) (by simpa using hxl)
        (fun i f hi => hf i f (by simpa using hi)) (fun f hf cs' x hx hwx => open_dat n f.type (ht.2 f hf) _ _ _ hx hwx) hw
      exact ⟨ys, k1, by simpa using k2⟩
    · rename_i m e hu
      simp only [Bool.and_eq_true, beq_iff_eq] at ht
      obtain ⟨xs, q, rfl, rfl, hlen, hxl, hf⟩ := DataW.trod_array hu h
      simp only [DataW.weights, hu] at hw
      obtain ⟨ys, k1, k2⟩ := arr_open (enc := enc) (P := P) (w := w) (R := DatOk P n e) (cs := cs) (n := q) (m := m) (e := e) rfl (hlen.trans ht.2) hxl hf
        (fun cs' x hxm hx => open_dat n e ht.1 _ _ _ hx (weightsAll_all hw _ (List.mem_map.2 ⟨x, hxm, rfl⟩))) m 0 (by omega)
      exact ⟨ys, k1, by simpa using k2⟩
    · cases ht

def aggT (P : Program) (t : TypeId) : Bool := match P.underlying t with | some (.struct _) => true | some (.array _ _) => true | _ => false
/-- An argument, as an abstract value. -/
def argAV (agg : Bool) (xs : List Dat) : AV := if agg then .agg (xs.map AV.d) else match xs with | [x] => .d x | _ => .junk
theorem open_arg {n base : Nat} {t : TypeId} (ht : datT P n t = true) {v : Value} {d : DataW H} {ps : List MemPlace} (hv : Value.okWide P w .any base t v) (h : DataW.Trod enc P w 0 (fun _ => true) true t v d ps) (hw : (d.weights P t).all (· ≤ reachBytes) = true) :
    ∃ xs, DatOk P n t xs ∧ VR (froze w) (argAV (aggT P t) xs) v := by
  obtain ⟨fuel, h⟩ := h
  obtain ⟨xs, h1, h2⟩ := open_dat n t ht _ _ _ h hw
  refine ⟨xs, h1, ?_⟩
  unfold argAV aggT
  have cell : ∀ {v : Value}, v.cells = #[v] → CRL (froze w) (xs.map AV.d) v.cells.toList → VR (froze w) (argAV false xs) v := by
    intro v hc hh
    clear h1 h2
    unfold argAV
    rw [hc] at hh
    match xs, hh with
    | [], hh => simp [CRL] at hh
    | [x], hh => simp only [List.map_cons, List.map_nil, CRL, and_true] at hh; exact hh.1
    | x :: y :: r, hh => simp [CRL] at hh
  cases n with
  | zero => cases ht
  | succ n =>
    simp only [datT] at ht
    split at ht
    · rename_i hu; obtain ⟨b, rfl⟩ := okWide_bool hu hv; rw [hu]; exact cell rfl h2
    · rename_i hu; obtain ⟨b, rfl⟩ := okWide_int hu hv; rw [hu]; exact cell rfl h2
    · rename_i hu; obtain ⟨b, rfl⟩ := okWide_string hu hv; rw [hu]; exact cell rfl h2
    · rename_i hu; obtain ⟨a, b, c, rfl⟩ := okWide_slice hu hv; rw [hu]; exact cell rfl h2
    · rename_i hu
      obtain ⟨cs, rfl, _⟩ := okWide_struct hu hv
      rw [hu]
      simp only [if_true, VR]
      exact ⟨cs, rfl, h2⟩
    · rename_i hu
      have : ∃ cs, v = .agg cs := by
        simp only [Value.okWide, hu] at hv
        obtain ⟨cs, h3, _⟩ := hv
        exact ⟨cs, h3⟩
      obtain ⟨cs, rfl⟩ := this
      rw [hu]
      simp only [if_true, VR]
      exact ⟨cs, rfl, h2⟩
    · cases ht
/-- A law's call: from what is told of it to the machine. -/
theorem law_calls {f : FuncId} {as : List AV} {args : Array Value} (h : CallsA P f as noHeap fun v _ => v = .d (.bool true)) (hv : VRL (froze w) as args.toList) :
    Calls P f args w fun e w' => e = .returned (.bool true) ∧ Below w.heap.size w w' := by
  refine (h.2 w.heap.size (froze w) w args (froze_rel w) hv).mono fun x w' hx => ?_
  cases x with
  | returned v =>
    obtain ⟨av, L', H', h1, h2, rfl⟩ := hx
    simp only [VR, DR] at h1
    subst h1
    exact ⟨rfl, h2.step.below (froze_rel w)⟩
  | panicked c => exact hx.elim
  | outgrown => exact hx.elim
end
end Go.AM

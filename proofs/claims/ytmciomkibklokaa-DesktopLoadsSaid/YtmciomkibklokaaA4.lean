/- The operations that leave the heap alone, the rest of them. -/
import Derived.Test.YtmciomkibklokaaA3
import Derived.Laws.BytesString
set_option autoImplicit false
set_option linter.unusedVariables false
set_option linter.unusedSimpArgs false
namespace Go.AM
open Go.RowKit

variable {P : Program} {L : Lo} {w : World}

theorem DRE.get {b sz : Nat} : ∀ {l : List (List Dat)} {o : Nat}, DRE L b o sz l → ∀ {i : Nat} {c : List Dat}, l[i]? = some c → c.length = sz ∧ DRC L b (o + i * sz) c
  | [], _, _, i, c, h => by simp at h
  | e :: es, o, k, i, c, h => by
    simp only [DRE] at k
    cases i with
    | zero => simp at h; subst h; exact ⟨k.1, by simpa using k.2.1⟩
    | succ i =>
      have := DRE.get k.2.2 (i := i) (c := c) (by simpa using h)
      rwa [show o + (i + 1) * sz = o + sz + i * sz by rw [Nat.add_mul]; omega]
theorem DRE.drop {b sz : Nat} : ∀ (n : Nat) {l : List (List Dat)} {o : Nat}, DRE L b o sz l → DRE L b (o + n * sz) sz (l.drop n)
  | 0, l, o, h => by simpa using h
  | n + 1, [], o, h => by simp [DRE]
  | n + 1, e :: es, o, h => by
    simp only [DRE] at h
    have := DRE.drop n h.2.2
    rw [List.drop_succ_cons, show o + (n + 1) * sz = o + sz + n * sz by rw [Nat.add_mul]; omega]
    exact this
theorem DRE.take {b sz : Nat} : ∀ (n : Nat) {l : List (List Dat)} {o : Nat}, DRE L b o sz l → DRE L b o sz (l.take n)
  | 0, l, o, h => by simp [DRE]
  | n + 1, [], o, h => by simp [DRE]
  | n + 1, e :: es, o, h => by
    simp only [DRE, List.take_succ_cons] at h ⊢
    exact ⟨h.1, h.2.1, DRE.take n h.2.2⟩
theorem DRE.app {b sz : Nat} : ∀ {l l' : List (List Dat)} {o : Nat}, DRE L b o sz l → DRE L b (o + l.length * sz) sz l' → DRE L b o sz (l ++ l')
  | [], l', o, _, h => by simpa using h
  | e :: es, l', o, k, h => by
    simp only [DRE, List.cons_append] at k ⊢
    refine ⟨k.1, k.2.1, DRE.app k.2.2 ?_⟩
    rwa [List.length_cons, show o + (es.length + 1) * sz = o + sz + es.length * sz by rw [Nat.add_mul]; omega] at h
theorem lit_sl {l : List (List Dat)} {v : Value} (h : VR L (.lit l) v) : DR L (.sl false l) v := by
  simp only [VR] at h
  obtain ⟨a, rfl, h2⟩ := h
  simp only [DR]
  exact ⟨some a, l.length, rfl, Nat.le_refl _, (fun h => by cases h), (fun _ => ⟨a, rfl, h2⟩)⟩
theorem toDat_sound {x : AV} {y : Dat} {v : Value} (hx : VR L x v) (h : x.toDat = some y) : DR L y v := by
  cases x <;> simp only [AV.toDat, Option.some.injEq, reduceCtorEq] at h
  · subst h; simpa [VR] using hx
  · subst h; exact lit_sl hx
theorem toDats_get : ∀ {l : List AV} {ds : List Dat}, toDats l = some ds → l.length = ds.length ∧ ∀ (i : Nat) (x : AV), l[i]? = some x → ∃ y, ds[i]? = some y ∧ x.toDat = some y
  | [], ds, h => by simp [toDats] at h; subst h; simp
  | v :: l, ds, h => by
    simp only [toDats] at h
    split at h
    · rename_i x xs h1 h2
      simp only [Option.some.injEq] at h
      subst h
      obtain ⟨h3, h4⟩ := toDats_get h2
      refine ⟨by simp [h3], fun i y hy => ?_⟩
      cases i with
      | zero => simp at hy; subst hy; exact ⟨x, by simp, h1⟩
      | succ i => obtain ⟨z, h5, h6⟩ := h4 i y (by simpa using hy); exact ⟨z, by simpa using h5, h6⟩
    · cases h
theorem toDatss_get : ∀ {l : List (List AV)} {ds : List (List Dat)}, toDatss l = some ds → l.length = ds.length ∧ ∀ (i : Nat) (x : List AV), l[i]? = some x → ∃ y, ds[i]? = some y ∧ toDats x = some y
  | [], ds, h => by simp [toDatss] at h; subst h; simp
  | v :: l, ds, h => by
    simp only [toDatss] at h
    split at h
    · rename_i x xs h1 h2
      simp only [Option.some.injEq] at h
      subst h
      obtain ⟨h3, h4⟩ := toDatss_get h2
      refine ⟨by simp [h3], fun i y hy => ?_⟩
      cases i with
      | zero => simp at hy; subst hy; exact ⟨x, by simp, h1⟩
      | succ i => obtain ⟨z, h5, h6⟩ := h4 i y (by simpa using hy); exact ⟨z, by simpa using h5, h6⟩
    · cases h
/-- A slice's elements in memory. -/
def Els (L : Lo) (w : World) (A : Option Addr) (ys : List (List AV)) : Prop :=
  ys = [] ∨ ∃ a sz, A = some a ∧ a.spot = none ∧ ∀ (i : Nat) (c : List AV), ys[i]? = some c → c.length = sz ∧ Cl L w a.block (a.off + i * sz) c
theorem els_of_dre {a : Addr} {l : List (List Dat)} (hi : ∀ b o v, L.imm b o = some v → w.cell? ⟨b, o, none⟩ = some v) (h : l = [] ∨ (a.spot = none ∧ ∃ sz, DRE L a.block a.off sz l)) : Els L w (some a) (l.map (·.map AV.d)) := by
  rcases h with rfl | ⟨h1, sz, h2⟩
  · exact .inl rfl
  · refine .inr ⟨a, sz, rfl, h1, fun i c hc => ?_⟩
    simp only [List.getElem?_map, Option.map_eq_some_iff] at hc
    obtain ⟨d, hd, rfl⟩ := hc
    obtain ⟨h3, h4⟩ := h2.get hd
    exact ⟨by simpa using h3, h4.Cl hi⟩
theorem elemsA_sound {base : Nat} {H : AHeap} (R : Rel base L H w) {x : AV} {u : Value} {ys : List (List AV)} (hx : VR L x u) (h : elemsA x H = some ys) :
    ∃ A cap, u = .slice A ys.length cap ∧ ys.length ≤ cap ∧ Els L w A ys := by
  unfold elemsA at h
  split at h
  · rename_i nl l
    simp only [Option.some.injEq] at h
    subst h
    simp only [VR, DR] at hx
    obtain ⟨A, cap, rfl, h1, h2, h3⟩ := hx
    refine ⟨A, cap, by simp, by simpa using h1, ?_⟩
    cases nl with
    | true =>
      obtain ⟨rfl, rfl⟩ := h2 rfl
      exact .inl (by cases l with | nil => rfl | cons _ _ => simp at h1)
    | false =>
      obtain ⟨a, rfl, h4⟩ := h3 rfl
      exact els_of_dre R.imm h4
  · rename_i l
    simp only [Option.some.injEq] at h
    subst h
    simp only [VR] at hx
    obtain ⟨a, rfl, h4⟩ := hx
    exact ⟨some a, l.length, by simp, by simp, els_of_dre R.imm h4⟩
  · rename_i i ver sz0 off len
    split at h
    · rename_i ver' fro sz l hH
      split at h
      · rename_i hver
        subst hver
        split at h
        · rename_i hlen
          simp only [Option.some.injEq] at h
          subst h
          obtain ⟨b, c, m⟩ := R.mem _ _ _ _ _ hH
          simp only [VR] at hx
          obtain ⟨b', n', c', a, h1, rfl, h2, h3, h4⟩ := hx
          rw [m.loc] at h1
          simp only [Option.some.injEq, Prod.mk.injEq] at h1
          obtain ⟨rfl, rfl, rfl, rfl⟩ := h1
          refine ⟨some a, c - off, by rw [hlen], by rw [hlen]; omega, ?_⟩
          by_cases h0 : off < c
          · rw [h4 h0]
            refine .inr ⟨_, sz, rfl, rfl, fun j cs hcs => ?_⟩
            rw [List.getElem?_take] at hcs
            split at hcs
            · rw [List.getElem?_drop] at hcs
              obtain ⟨h5, h6⟩ := m.Cl hcs
              refine ⟨h6, ?_⟩
              rw [Nat.add_mul, ← Nat.add_assoc] at h5
              exact h5
            · cases hcs
          · left
            apply List.eq_nil_of_length_eq_zero
            rw [hlen]; omega
        · cases h
      · cases h
    · cases h
  · cases h
theorem elemsOf_A {x : AV} {H : AHeap} {l : List (List Dat)} (h : elemsOf x H = some l) : ∃ ys, elemsA x H = some ys ∧ (toDatss ys = some l ∨ ys = l.map (·.map AV.d)) := by
  unfold elemsOf at h
  unfold elemsA
  split at h
  · simp only [Option.some.injEq] at h; subst h; exact ⟨_, rfl, .inr rfl⟩
  · simp only [Option.some.injEq] at h; subst h; exact ⟨_, rfl, .inr rfl⟩
  · split at h
    · split at h
      · rename_i hv
        split at h
        · rename_i ds hds
          split at h
          · rename_i hl
            simp only [Option.some.injEq] at h
            subst h
            refine ⟨_, ?_, .inl hds⟩
            rw [if_pos hv, if_pos (by rw [(toDatss_get hds).1]; exact hl)]
          · cases h
        · cases h
      · cases h
    · cases h
  · cases h
theorem Cl.dats {b o : Nat} {cs : List AV} {ds : List Dat} (h : Cl L w b o cs) (hd : toDats cs = some ds ∨ cs = ds.map AV.d) : ∀ (j : Nat) (y : Dat), ds[j]? = some y → ∃ v, w.cell? ⟨b, o + j, none⟩ = some v ∧ DR L y v := by
  intro j y hy
  rcases hd with hd | rfl
  · obtain ⟨h1, h2⟩ := toDats_get hd
    have hj : j < cs.length := by rw [h1]; exact (List.getElem?_eq_some_iff.1 hy).1
    obtain ⟨z, h3, h4⟩ := h2 j cs[j] (by simp [hj])
    rw [hy] at h3
    obtain rfl := Option.some.inj h3
    obtain ⟨v, h5, h6, _⟩ := h j cs[j] (by simp [hj])
    exact ⟨v, h5, toDat_sound h6 h4⟩
  · obtain ⟨v, h5, h6, _⟩ := h j (.d y) (by simp [hy])
    exact ⟨v, h5, by simpa [VR] using h6⟩

/-! ### conversions -/
theorem bytesOfDats_get : ∀ {l : List (List Dat)} {bs : List UInt8}, bytesOfDats l = some bs → ∃ ns : List Int, l = ns.map (fun n => [.int .u8 n]) ∧ bs = ns.map fun n => UInt8.ofNat n.toNat
  | [], bs, h => by simp [bytesOfDats] at h; subst h; exact ⟨[], by simp, by simp⟩
  | c :: l, bs, h => by
    simp only [bytesOfDats] at h
    split at h
    · rename_i x xs h1 h2
      simp only [Option.some.injEq] at h
      subst h
      obtain ⟨ns, rfl, rfl⟩ := bytesOfDats_get h2
      unfold byteOfDat at h1
      split at h1
      · rename_i n
        simp only [Option.some.injEq] at h1
        subst h1
        exact ⟨n :: ns, by simp, by simp⟩
      · cases h1
    · cases h
theorem foldl_push (ns : List Int) : ∀ (r : ByteArray), ns.foldl (fun r n => r.push (UInt8.ofNat n.toNat)) r = ⟨r.data ++ (ns.map fun n => UInt8.ofNat n.toNat).toArray⟩ := by
  induction ns with
  | nil => intro r; simp
  | cons n ns ih =>
    intro r
    rw [List.foldl_cons, ih]
    apply ByteArray.ext
    simp [ByteArray.push]
theorem cvBS_sound {base : Nat} {H : AHeap} (R : Rel base L H w) {x av : AV} {u : Value} (hx : VR L x u) (h : cvBS x H = some av) :
    ∃ r, (Conv.bytesToString u).run P w = .ok r w ∧ VR L av r := by
  unfold cvBS at h
  split at h
  · rename_i l hl
    split at h
    · rename_i bs hbs
      simp only [Option.some.injEq] at h
      subst h
      obtain ⟨ns, rfl, rfl⟩ := bytesOfDats_get hbs
      obtain ⟨ys, h1, h2⟩ := elemsOf_A hl
      obtain ⟨A, cap, rfl, _, hE⟩ := elemsA_sound R hx h1
      have hlen : ys.length = ns.length := by
        rcases h2 with h2 | rfl
        · rw [(toDatss_get h2).1]; simp
        · simp
      rcases hE with rfl | ⟨a, sz, rfl, hs, hE⟩
      · have : ns = [] := by simpa using hlen.symm
        subst this
        refine ⟨.string ByteArray.empty, ?_, by simp [VR, DR]; rfl⟩
        cases A <;> simp [Conv.bytesToString, loadCells, loadCellsFrom]
      · have hcell : ∀ j (n : Int), ns[j]? = some n → w.cell? ⟨a.block, a.off + j * sz, none⟩ = some (.int .u8 n) ∧ sz = 1 := by
          intro j n hn
          have hj : j < ys.length := by rw [hlen]; exact (List.getElem?_eq_some_iff.1 hn).1
          have hy : ys[j]? = some ys[j] := by simp [hj]
          obtain ⟨h3, h4⟩ := hE j _ hy
          have hd : toDats ys[j] = some [.int .u8 n] ∨ ys[j] = [Dat.int .u8 n].map AV.d := by
            rcases h2 with h2 | rfl
            · obtain ⟨z, h5, h6⟩ := (toDatss_get h2).2 j _ hy
              simp only [List.getElem?_map, hn, Option.map_some, Option.some.injEq] at h5
              subst h5
              exact .inl h6
            · right
              simp only [List.getElem?_map, hn, Option.map_some, Option.some.injEq] at hy
              exact hy.symm
          obtain ⟨v, h5, h6⟩ := h4.dats hd 0 (.int .u8 n) rfl
          simp only [DR] at h6
          subst h6
          refine ⟨by simpa using h5, ?_⟩
          rw [← h3]
          rcases hd with hd | hd
          · rw [(toDats_get hd).1]; rfl
          · rw [hd]; rfl
        have hload : (loadCells a ys.length).run P w = .ok (ns.map (Value.int .u8)).toArray w := by
          have := run_loadCells_list (P := P) (w := w) a (ns.map (Value.int .u8)) (fun j v hv => by
            simp only [List.getElem?_map, Option.map_eq_some_iff] at hv
            obtain ⟨n, hn, rfl⟩ := hv
            obtain ⟨h3, h4⟩ := hcell j n hn
            subst h4
            have ha : a.add j = ⟨a.block, a.off + j, none⟩ := by
              have : a = ⟨a.block, a.off, none⟩ := by cases a; simp_all
              rw [this, add_plain]
            rw [ha]
            simpa using h3)
          rwa [List.length_map, ← hlen] at this
        refine ⟨_, run_bytesToString w a ys.length cap ns hload, ?_⟩
        simp only [VR, DR, foldl_push]
        congr 2
        simp [ByteArray.empty, ByteArray.emptyWithCapacity]
        rfl
    · cases h
  · cases h
theorem cvA_sound {base : Nat} {H : AHeap} (R : Rel base L H w) {s t : TypeId} {x av : AV} {u : Value} (hx : VR L x u) (h : cvA P s t x H = some av) :
    ∃ r, (convert s t u).run P w = .ok r w ∧ VR L av r := by
  unfold cvA at h
  split at h
  · rename_i k0 k hs ht
    unfold cvI at h
    split at h
    · rename_i k' n
      simp only [Option.some.injEq] at h
      subst h
      simp only [VR, DR] at hx
      subst hx
      exact ⟨.int k (k.wrap n), by simp [convert, underlying, hs, ht, Conv.intToInt], by simp [VR, DR]⟩
    · cases h
  · rename_i hs ht
    unfold cvSS at h
    split at h
    · rename_i s'
      simp only [Option.some.injEq] at h
      subst h
      simp only [VR, DR] at hx
      subst hx
      exact ⟨.string s', by simp [convert, underlying, hs, ht], by simp [VR, DR]⟩
    · cases h
  · rename_i e hs ht
    split at h
    · rename_i he
      have hsl : ∃ A n c, u = .slice A n c := by
        unfold cvBS at h
        split at h
        · rename_i l hl
          obtain ⟨ys, h1, _⟩ := elemsOf_A hl
          obtain ⟨A, cap, rfl, _⟩ := elemsA_sound R hx h1
          exact ⟨_, _, _, rfl⟩
        · cases h
      obtain ⟨r, h1, h2⟩ := cvBS_sound (P := P) R hx h
      obtain ⟨A, n, c, rfl⟩ := hsl
      refine ⟨r, ?_, h2⟩
      cases A <;> simpa [convert, underlying, hs, ht, he] using h1
    · cases h
  · cases h
theorem unA_sound {op : UnOp} {x av : AV} {u : Value} (hx : VR L x u) (h : unA op x = some av) : ∃ r, (Op.unary op u).run P w = .ok r w ∧ VR L av r := by
  unfold unA at h
  split at h
  · simp only [Option.some.injEq] at h
    subst h
    simp only [VR, DR] at hx
    subst hx
    exact ⟨_, rfl, by simp [VR, DR]⟩
  · simp only [Option.some.injEq] at h
    subst h
    simp only [VR, DR] at hx
    subst hx
    exact ⟨_, rfl, by simp [VR, DR]⟩
  · rename_i k n
    simp only [VR, DR] at hx
    subst hx
    simp only [intBin, Option.some.injEq] at h
    subst h
    exact ⟨_, rfl, by simp [VR, DR]⟩
  · cases h

end Go.AM

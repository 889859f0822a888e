/- Addresses, parts, slices, look-ups, lengths; all operations that only read. -/
import Derived.Test.YtmciomkibklokaaA4
set_option autoImplicit false
set_option linter.unusedVariables false
set_option linter.unusedSimpArgs false
namespace Go.AM
open Go.RowKit

variable {P : Program} {L : Lo} {w : World}

theorem tkOf_struct {d : TypeDesc} {fs : List (Nat × TypeId)} (h : tkOf d = .struct fs) : ∃ a : Array Field, d = .struct a ∧ fs = a.toList.map fun f => (f.offset, f.type) := by
  cases d <;> simp [tkOf] at h
  exact ⟨_, rfl, h.symm⟩
theorem tkOf_slice {d : TypeDesc} {e : TypeId} (h : tkOf d = .slice e) : d = .slice e := by cases d <;> simp [tkOf] at h; rw [h]
theorem tkOf_array {d : TypeDesc} {n : Nat} {e : TypeId} (h : tkOf d = .array n e) : d = .array n e := by cases d <;> simp [tkOf] at h; rw [h.1, h.2]
theorem tkOf_map {d : TypeDesc} {k e : TypeId} (h : tkOf d = .map k e) : d = .map k e := by cases d <;> simp [tkOf] at h; rw [h.1, h.2]
theorem tkOf_str {d : TypeDesc} (h : tkOf d = .str) : d = .string := by cases d <;> simp [tkOf] at h; rfl
theorem TIs.k {t : TypeId} {i : TI} {info : TypeInfo} {d : TypeDesc} {z : Value} (h : TIs P t i info d z) : i.k = tkOf d := by rw [h.eq]
theorem cells_info {t : TypeId} (h : P.cellsOf t ≠ 0) : ∃ i, P.info? t = some i := by
  unfold Program.cellsOf at h
  cases hi : P.info? t with
  | none => simp [hi] at h
  | some i => exact ⟨i, rfl⟩
theorem run_sizeOf_cells {t : TypeId} (h : P.cellsOf t ≠ 0) : (sizeOf t).run P w = .ok (P.cellsOf t) w := by
  obtain ⟨i, hi⟩ := cells_info h
  exact run_sizeOf w hi
theorem fieldAddr_sound {s : TypeId} {i : TI} {fs : List (Nat × TypeId)} {f : Nat} {o ft : Nat} (hi : tiOf P s = some i) (hk : i.k = .struct fs) (hf : fs[f]? = some (o, ft)) (h0 : P.cellsOf ft ≠ 0) {x av : AV} {u : Value}
    (hx : VR L x u) (h : fieldA i x f = some av) : ∃ r, (Instr.fieldAt s u f).run P w = .ok r w ∧ VR L av r := by
  obtain ⟨info, d, z, k⟩ := tiOf_some hi
  rw [k.k] at hk
  obtain ⟨a, rfl, rfl⟩ := tkOf_struct hk
  have hf' : ∃ fl, a[f]? = some fl ∧ fl.offset = o ∧ fl.type = ft := by
    simp only [List.getElem?_map, Option.map_eq_some_iff, Prod.mk.injEq] at hf
    obtain ⟨fl, h1, h2, h3⟩ := hf
    exact ⟨fl, by rwa [← Array.getElem?_toList], h2, h3⟩
  obtain ⟨fl, h1, rfl, rfl⟩ := hf'
  unfold fieldA at h
  rw [k.k, hk] at h
  simp only [hf] at h
  split at h
  · rename_i id ver e off
    simp only [Option.some.injEq] at h
    subst h
    simp only [VR] at hx
    obtain ⟨b, sz, n, c, h2, rfl⟩ := hx
    refine ⟨.pointer (some ⟨b.block, b.off + e * sz + off + fl.offset, none⟩), ?_, ?_⟩
    · simp [Instr.fieldAt, k.run_und, h1, Instr.sureAddr, fieldPlace, run_sizeOf_cells h0, h0, add_plain]
    · simp only [VR]; exact ⟨b, sz, n, c, h2, by rw [Nat.add_assoc]⟩
  · rename_i cs off
    simp only [Option.some.injEq] at h
    subst h
    simp only [VR] at hx
    obtain ⟨b, o, rfl, h2⟩ := hx
    refine ⟨.pointer (some ⟨b, o + off + fl.offset, none⟩), ?_, ?_⟩
    · simp [Instr.fieldAt, k.run_und, h1, Instr.sureAddr, fieldPlace, run_sizeOf_cells h0, h0, add_plain]
    · simp only [VR]; exact ⟨b, o, by rw [Nat.add_assoc], h2⟩
  · cases h
theorem indexAddr_sound {base : Nat} {H : AHeap} (R : Rel base L H w) {t : TypeId} {i : TI} {esz : Nat} (hi : tiOf P t = some i) (he : (∃ e, i.k = .slice e ∧ esz = P.cellsOf e) ∨ (∃ n e, i.k = .array n e ∧ esz = P.cellsOf e ∧ esz ≠ 0))
    {x ix av : AV} {u v : Value} (hx : VR L x u) (hix : VR L ix v) (h : indexAddrA i esz x ix = some av)
    (hsz : esz ≠ 0) :
    ∃ r, (Instr.indexAt t u v).run P w = .ok r w ∧ VR L av r := by
  obtain ⟨info, d, z, k⟩ := tiOf_some hi
  unfold indexAddrA at h
  split at h
  · rename_i kk n
    simp only [VR, DR] at hix
    subst hix
    split at h
    · rename_i e id ver sz off len hk
      split at h
      · rename_i hb
        simp only [Option.some.injEq] at h
        subst h
        rw [k.k] at hk
        obtain rfl := tkOf_slice hk
        have hes : esz = P.cellsOf e := by
          rcases he with ⟨e', h1, h2⟩ | ⟨m, e', h1, _⟩
          · rw [k.k, hk] at h1; cases h1; exact h2
          · rw [k.k, hk] at h1; cases h1
        subst hes
        obtain ⟨hb0, hb⟩ := hb
        subst hb0
        simp only [VR] at hx
        obtain ⟨b, n', c, a, h1, rfl, h2, h3, h4⟩ := hx
        have hoff : off < c := by omega
        rw [h4 hoff]
        refine ⟨.pointer (some ⟨b.block, b.off + off * P.cellsOf e + n.toNat * P.cellsOf e, none⟩), ?_, ?_⟩
        · simp [Instr.indexAt, asIntOf, k.run_und, hb.1, hb.2, run_sizeOf_cells hsz, add_plain]
        · simp only [VR]
          refine ⟨b, _, _, c, h1, ?_⟩
          rw [Nat.add_mul, Nat.add_zero, ← Nat.add_assoc]
      · cases h
    · rename_i e nl l hk
      split at h
      · rename_i hb
        split at h
        · rename_i cs hcs
          split at h
          · rename_i hl
            simp only [Option.some.injEq] at h
            subst h
            rw [k.k] at hk
            obtain rfl := tkOf_slice hk
            have hes : esz = P.cellsOf e := by
              rcases he with ⟨e', h1, h2⟩ | ⟨m, e', h1, _⟩
              · rw [k.k, hk] at h1; cases h1; exact h2
              · rw [k.k, hk] at h1; cases h1
            have hlt : n.toNat < l.length := (List.getElem?_eq_some_iff.1 hcs).1
            have hb2 : n < (l.length : Int) := by omega
            simp only [VR, DR] at hx
            obtain ⟨A, cap, rfl, h1, h2, h3⟩ := hx
            cases nl with
            | true => obtain ⟨_, rfl⟩ := h2 rfl; omega
            | false =>
              obtain ⟨a, rfl, h4⟩ := h3 rfl
              rcases h4 with rfl | ⟨h5, sz, h6⟩
              · simp at hlt
              · obtain ⟨h7, h8⟩ := h6.get hcs
                have hsz' : sz = esz := by rw [← h7]; exact hl
                subst hsz'
                have ha : a = ⟨a.block, a.off, none⟩ := by cases a; simp_all
                refine ⟨.pointer (some ⟨a.block, a.off + n.toNat * sz, none⟩), ?_, ?_⟩
                · have hadd : a.add (n.toNat * P.cellsOf e) = ⟨a.block, a.off + n.toNat * sz, none⟩ := by rw [ha, add_plain, hes]
                  simp [Instr.indexAt, asIntOf, k.run_und, hb, hb2, run_sizeOf_cells (hes ▸ hsz), hadd]
                · simp only [VR]
                  exact ⟨a.block, a.off + n.toNat * sz, by simp, h8⟩
          · cases h
        · cases h
      · cases h
    · rename_i e l hk
      split at h
      · rename_i hb
        split at h
        · rename_i cs hcs
          split at h
          · rename_i hl
            simp only [Option.some.injEq] at h
            subst h
            rw [k.k] at hk
            obtain rfl := tkOf_slice hk
            have hes : esz = P.cellsOf e := by
              rcases he with ⟨e', h1, h2⟩ | ⟨m, e', h1, _⟩
              · rw [k.k, hk] at h1; cases h1; exact h2
              · rw [k.k, hk] at h1; cases h1
            have hlt : n.toNat < l.length := (List.getElem?_eq_some_iff.1 hcs).1
            have hb2 : n < (l.length : Int) := by omega
            simp only [VR] at hx
            obtain ⟨a, rfl, h4⟩ := hx
            rcases h4 with rfl | ⟨h5, sz, h6⟩
            · simp at hlt
            · obtain ⟨h7, h8⟩ := h6.get hcs
              have hsz' : sz = esz := by rw [← h7]; exact hl
              subst hsz'
              have ha : a = ⟨a.block, a.off, none⟩ := by cases a; simp_all
              refine ⟨.pointer (some ⟨a.block, a.off + n.toNat * sz, none⟩), ?_, ?_⟩
              · have hadd : a.add (n.toNat * P.cellsOf e) = ⟨a.block, a.off + n.toNat * sz, none⟩ := by rw [ha, add_plain, hes]
                simp [Instr.indexAt, asIntOf, k.run_und, hb, hb2, run_sizeOf_cells (hes ▸ hsz), hadd]
              · simp only [VR]
                exact ⟨a.block, a.off + n.toNat * sz, by simp, h8⟩
          · cases h
        · cases h
      · cases h
    · rename_i m e id ver e' off hk
      split at h
      · rename_i hb
        simp only [Option.some.injEq] at h
        subst h
        rw [k.k] at hk
        obtain rfl := tkOf_array hk
        have hes : esz = P.cellsOf e := by
          rcases he with ⟨e', h1, h2⟩ | ⟨m, e', h1, h2, _⟩
          · rw [k.k, hk] at h1; cases h1
          · rw [k.k, hk] at h1; cases h1; exact h2
        subst hes
        simp only [VR] at hx
        obtain ⟨b, sz, n', c, h1, rfl⟩ := hx
        refine ⟨.pointer (some ⟨b.block, b.off + e' * sz + off + n.toNat * P.cellsOf e, none⟩), ?_, ?_⟩
        · simp [Instr.indexAt, asIntOf, k.run_und, Instr.sureAddr, hb.1, hb.2, run_sizeOf_cells hsz, add_plain]
        · simp only [VR]; exact ⟨b, sz, n', c, h1, by rw [Nat.add_assoc]⟩
      · cases h
    · rename_i m e cs off hk
      split at h
      · rename_i hb
        simp only [Option.some.injEq] at h
        subst h
        rw [k.k] at hk
        obtain rfl := tkOf_array hk
        have hes : esz = P.cellsOf e := by
          rcases he with ⟨e', h1, h2⟩ | ⟨m, e', h1, h2, _⟩
          · rw [k.k, hk] at h1; cases h1
          · rw [k.k, hk] at h1; cases h1; exact h2
        subst hes
        simp only [VR] at hx
        obtain ⟨b, o, rfl, h1⟩ := hx
        refine ⟨.pointer (some ⟨b, o + off + n.toNat * P.cellsOf e, none⟩), ?_, ?_⟩
        · simp [Instr.indexAt, asIntOf, k.run_und, Instr.sureAddr, hb.1, hb.2, run_sizeOf_cells hsz, add_plain]
        · simp only [VR]; exact ⟨b, o, by rw [Nat.add_assoc], h1⟩
      · cases h
    · cases h
  · cases h

theorem cellsOf_TI {t : TypeId} {i : TI} (h : tiOf P t = some i) : P.cellsOf t = i.size := by
  obtain ⟨_, _, _, k⟩ := tiOf_some h
  exact k.cellsOf
theorem index_sound {t e : TypeId} {i ei : TI} {n : Nat} (hi : tiOf P t = some i) (hk : i.k = .array n e) (he : tiOf P e = some ei) {x ix av : AV} {u v : Value} (hx : VR L x u) (hix : VR L ix v) (h : indexA i ei x ix = some av) :
    ∃ r, (Instr.index t u v).run P w = .ok r w ∧ VR L av r := by
  obtain ⟨info, d, z, k⟩ := tiOf_some hi
  obtain ⟨_, _, _, ke⟩ := tiOf_some he
  rw [k.k] at hk
  obtain rfl := tkOf_array hk
  unfold indexA at h
  split at h
  · rename_i kk j
    split at h
    · rename_i m e' cs hk'
      rw [k.k, hk] at hk'
      cases hk'
      split at h
      · rename_i hb
        simp only [VR, DR] at hix hx
        subst hix
        obtain ⟨vs, rfl, hc⟩ := hx
        obtain ⟨r, h1, h2⟩ := part_sound (w := w) he hc h
        refine ⟨r, ?_, h2⟩
        simp [Instr.index, asIntOf, k.run_und, hb.1, hb.2, ke.size, h1]
      · cases h
    · cases h
  · cases h
theorem indexStr_sound {t : TypeId} {i : TI} (hi : tiOf P t = some i) (hk : i.k = .str) {x ix av : AV} {u v : Value} (hx : VR L x u) (hix : VR L ix v) (h : indexStrA x ix = some av) :
    ∃ r, (Instr.index t u v).run P w = .ok r w ∧ VR L av r := by
  obtain ⟨info, d, z, k⟩ := tiOf_some hi
  rw [k.k] at hk
  obtain rfl := tkOf_str hk
  unfold indexStrA at h
  split at h
  · rename_i s kk n
    split at h
    · rename_i hb
      split at h
      · rename_i b hs
        simp only [Option.some.injEq] at h
        subst h
        simp only [VR, DR] at hix hx
        subst hix hx
        refine ⟨.int .u8 b.toNat, ?_, by simp [VR, DR]⟩
        simp [Instr.index, asIntOf, k.run_und, hb, hs]
      · cases h
    · cases h
  · cases h
theorem extract_sound {x av : AV} {i : Nat} {u : Value} (hx : VR L x u) (h : extractA x i = some av) : ∃ r, (Instr.extract u i).run P w = .ok r w ∧ VR L av r := by
  unfold extractA at h
  split at h
  · rename_i l
    simp only [VR] at hx
    obtain ⟨vs, rfl, hv⟩ := hx
    obtain ⟨v, h1, h2⟩ := hv.get h
    rw [Array.getElem?_toList] at h1
    exact ⟨v, by simp [Instr.extract, h1], h2⟩
  · cases h
/-- Two options, both there or both not. -/
def VO (L : Lo) : Option AV → Option Value → Prop
  | none, none => True
  | some x, some v => VR L x v
  | _, _ => False
theorem VO.map {ρ : Operand → AV} {ρc : Operand → Value} (hρ : ∀ x, VR L (ρ x) (ρc x)) (o : Option Operand) : VO L (o.map ρ) (o.map ρc) := by
  cases o with
  | none => trivial
  | some x => exact hρ x
theorem bnd_some {x : AV} {v : Value} {d n : Nat} (hx : VR L x v) (h : bnd (some x) d = some n) : ∃ k i, v = .int k i ∧ 0 ≤ i ∧ i.toNat = n := by
  unfold bnd at h
  split at h
  · rename_i h0; cases h0
  · rename_i k i h0
    cases h0
    split at h
    · simp only [Option.some.injEq] at h
      simp only [VR, DR] at hx
      exact ⟨k, i, hx, by assumption, h⟩
    · cases h
  · cases h
theorem bounds_sound {isS : Bool} {lo hi : Option AV} {vlo vhi : Option Value} {len cap l h : Nat} (hlo : VO L lo vlo) (hhi : VO L hi vhi) (eh : bnd hi len = some h) (el : bnd lo 0 = some l) (h1 : l ≤ h) (h2 : h ≤ cap) :
    (Instr.sliceBounds isS len cap vlo vhi none).run P w = .ok (l, h, cap) w := by
  have hl : ∀ y code, h ≤ y → ∀ v, vhi = some v → (Instr.sliceBound v y code).run P w = .ok h w := by
    intro y code hy v hv
    subst hv
    cases hi with
    | none => exact hhi.elim
    | some x =>
      obtain ⟨k, i, rfl, h0, rfl⟩ := bnd_some hhi eh
      exact run_sliceBound w k i y code h0 (by omega)
  have ll : ∀ code v, vlo = some v → (Instr.sliceBound v h code).run P w = .ok l w := by
    intro code v hv
    subst hv
    cases lo with
    | none => exact hlo.elim
    | some x =>
      obtain ⟨k, i, rfl, h0, rfl⟩ := bnd_some hlo el
      exact run_sliceBound w k i h code h0 (by omega)
  unfold Instr.sliceBounds
  cases vhi with
  | none =>
    cases hi with
    | some x => exact hhi.elim
    | none =>
      simp only [bnd, Option.some.injEq] at eh
      subst eh
      cases vlo with
      | none => cases lo with
        | some x => exact hlo.elim
        | none => simp only [bnd, Option.some.injEq] at el; subst el; simp
      | some v => simp [ll _ v rfl]
  | some u =>
    cases vlo with
    | none => cases lo with
      | some x => exact hlo.elim
      | none => simp only [bnd, Option.some.injEq] at el; subst el; simp [hl _ _ h2 u rfl]
    | some v => simp [hl _ _ h2 u rfl, ll _ v rfl]
theorem bounds_sound3 {isS : Bool} {lo hi mx : Option AV} {vlo vhi : Option Value} {vm : Value} {xm : AV} {len cap l h m : Nat} (hlo : VO L lo vlo) (hhi : VO L hi vhi) (hn : hi ≠ none) (hm : VR L xm vm) (eh : bnd hi len = some h) (el : bnd lo 0 = some l) (em : bnd (some xm) 0 = some m) (h1 : l ≤ h) (h2 : h ≤ m) (h3 : m ≤ cap) :
    (Instr.sliceBounds isS len cap vlo vhi (some vm)).run P w = .ok (l, h, m) w := by
  obtain ⟨km, im, rfl, hm0, rfl⟩ := bnd_some hm em
  have hl : ∀ y code, h ≤ y → ∀ v, vhi = some v → (Instr.sliceBound v y code).run P w = .ok h w := by
    intro y code hy v hv
    subst hv
    cases hi with
    | none => exact hhi.elim
    | some x =>
      obtain ⟨k, i, rfl, h0, rfl⟩ := bnd_some hhi eh
      exact run_sliceBound w k i y code h0 (by omega)
  have ll : ∀ code v, vlo = some v → (Instr.sliceBound v h code).run P w = .ok l w := by
    intro code v hv
    subst hv
    cases lo with
    | none => exact hlo.elim
    | some x =>
      obtain ⟨k, i, rfl, h0, rfl⟩ := bnd_some hlo el
      exact run_sliceBound w k i h code h0 (by omega)
  unfold Instr.sliceBounds
  cases vhi with
  | none =>
    cases hi with
    | some x => exact hhi.elim
    | none => exact absurd rfl hn
  | some u =>
    cases vlo with
    | none => cases lo with
      | some x => exact hlo.elim
      | none => simp only [bnd, Option.some.injEq] at el; subst el; simp [run_sliceBound w km im cap _ hm0 (by omega), hl _ _ h2 u rfl]
    | some v => simp [run_sliceBound w km im cap _ hm0 (by omega), hl _ _ h2 u rfl, ll _ v rfl]
theorem sliced_els {a : Addr} {el : List (List Dat)} {l h m esz : Nat} (h1 : l ≤ h) (h2 : h ≤ el.length) (h3 : h ≤ m) (hz : l = 0 ∨ headLen esz el = true) (he : el = [] ∨ (a.spot = none ∧ ∃ sz, DRE L a.block a.off sz el)) :
    (el.drop l).take (h - l) = [] ∨ ((if m = l then a else a.add (l * esz)).spot = none ∧ ∃ sz, DRE L (if m = l then a else a.add (l * esz)).block (if m = l then a else a.add (l * esz)).off sz ((el.drop l).take (h - l))) := by
  by_cases hh : h - l = 0
  · left; simp [hh]
  right
  rcases he with rfl | ⟨hs, sz, hd⟩
  · simp at h2; omega
  have hml : ¬ m = l := by omega
  rw [if_neg hml]
  have ha : a.add (l * esz) = ⟨a.block, a.off + l * esz, none⟩ := by
    have : a = ⟨a.block, a.off, none⟩ := by cases a; simp_all
    rw [this, add_plain]
  rw [ha]
  refine ⟨rfl, sz, ?_⟩
  simp only
  have hlsz : l * esz = l * sz := by
    rcases hz with rfl | hz
    · simp
    · cases el with
      | nil => simp at h2; omega
      | cons c el =>
        simp only [DRE] at hd
        simp only [headLen, beq_iff_eq] at hz
        rw [← hz, hd.1]
  rw [hlsz]
  exact (hd.drop l).take _
theorem sliceA_sound {base : Nat} {H : AHeap} (R : Rel base L H w) {t e : TypeId} {i : TI} (hi : tiOf P t = some i) (hk : i.k = .slice e) {x av : AV} {lo hi' mx : Option AV} {u : Value} {vlo vhi vmx : Option Value}
    (hx : VR L x u) (hlo : VO L lo vlo) (hhi : VO L hi' vhi) (hmx : VO L mx vmx) (hn : mx ≠ none → hi' ≠ none) (h0 : P.cellsOf e ≠ 0) (h : sliceA (P.cellsOf e) x lo hi' mx H = some av) :
    ∃ r, (Instr.sliceAt t u vlo vhi vmx).run P w = .ok r w ∧ VR L av r := by
  obtain ⟨info, d, z, k⟩ := tiOf_some hi
  rw [k.k] at hk
  obtain rfl := tkOf_slice hk
  have main : ∀ (a : Option Addr) (len cap l h m : Nat), u = .slice a len cap → (Instr.sliceBounds true len cap vlo vhi vmx).run P w = .ok (l, h, m) w →
      (Instr.sliceAt t u vlo vhi vmx).run P w = .ok (.slice (if m = l then a else a.map (·.add (l * P.cellsOf e))) (h - l) (m - l)) w := by
    rintro a len cap l h m rfl hb
    simp [Instr.sliceAt, Instr.slice, k.run_und, hb, run_sizeOf_cells h0]
  unfold sliceA at h
  split at h
  · rename_i nl el
    simp only [VR, DR] at hx
    obtain ⟨A, cap, rfl, hc, hx1, hx2⟩ := hx
    split at h
    · rename_i hh ll eh ell
      split at h
      · rename_i hb
        obtain ⟨b1, b2, b3⟩ := hb
        split at h
        · simp only [Option.some.injEq] at h
          subst h
          have hv : vmx = none := by cases vmx with | none => rfl | some _ => exact hmx.elim
          subst hv
          refine ⟨_, main _ _ _ ll hh cap rfl (bounds_sound hlo hhi eh ell b1 (by omega)), ?_⟩
          simp only [VR, DR]
          refine ⟨(if cap = ll then A else A.map (·.add (ll * P.cellsOf e))), cap - ll, ?_, by simp; omega, ?_, ?_⟩
          · congr 1; simp; omega
          · intro hnl; obtain ⟨rfl, rfl⟩ := hx1 hnl; simp
          · intro hnl
            obtain ⟨a, rfl, ha⟩ := hx2 hnl
            exact ⟨if cap = ll then a else a.add (ll * P.cellsOf e), by split <;> rfl, sliced_els b1 b2 (by omega) b3 ha⟩
        · rename_i xm
          split at h
          · rename_i m em
            split at h
            · rename_i hm
              obtain rfl := hm
              simp only [Option.some.injEq] at h
              subst h
              cases vmx with
              | none => exact hmx.elim
              | some vm =>
                refine ⟨_, main _ _ _ ll m m rfl (bounds_sound3 (mx := none) hlo hhi (hn (by simp)) hmx eh ell em b1 (Nat.le_refl _) (by omega)), ?_⟩
                cases nl with
                | true =>
                  obtain ⟨rfl, rfl⟩ := hx1 rfl
                  have hl0 : el.length = 0 := by omega
                  have hm0 : m = 0 := by omega
                  have hll : ll = 0 := by omega
                  subst hm0; subst hll
                  simp only [if_true, VR, DR]
                  exact ⟨none, 0, by simp, by simp, fun _ => ⟨rfl, rfl⟩, fun hh => by cases hh⟩
                | false =>
                obtain ⟨a, rfl, ha⟩ := hx2 rfl
                simp only [Bool.false_eq_true, if_false, VR]
                refine ⟨if m = ll then a else a.add (ll * P.cellsOf e), ?_, sliced_els b1 b2 (Nat.le_refl _) b3 ha⟩
                have : ((el.drop ll).take (m - ll)).length = m - ll := by simp; omega
                rw [this]
                congr 1
                split <;> rfl
            · cases h
          · cases h
      · cases h
    · cases h
  · rename_i el
    simp only [VR] at hx
    obtain ⟨a, rfl, ha⟩ := hx
    split at h
    · rename_i hh ll eh ell
      split at h
      · rename_i hb
        obtain ⟨b1, b2, b3⟩ := hb
        split at h
        · have hv : vmx = none := by cases vmx with | none => rfl | some _ => exact hmx.elim
          subst hv
          have hr := main _ _ _ ll hh el.length rfl (bounds_sound hlo hhi eh ell b1 (by omega))
          have hlen : ((el.drop ll).take (hh - ll)).length = hh - ll := by simp; omega
          refine ⟨_, hr, ?_⟩
          split at h
          · rename_i he
            simp only [Option.some.injEq] at h
            subst h
            simp only [VR]
            refine ⟨if el.length = ll then a else a.add (ll * P.cellsOf e), ?_, sliced_els b1 b2 (by omega) b3 ha⟩
            rw [hlen, he]
            congr 1
            split <;> rfl
          · simp only [Option.some.injEq] at h
            subst h
            simp only [VR, DR]
            refine ⟨some (if el.length = ll then a else a.add (ll * P.cellsOf e)), el.length - ll, ?_, by rw [hlen]; omega, (fun h => by cases h), (fun _ => ⟨_, rfl, sliced_els b1 b2 (by omega) b3 ha⟩)⟩
            rw [hlen]
            congr 1
            split <;> rfl
        · rename_i xm
          split at h
          · rename_i m em
            split at h
            · rename_i hm
              subst hm
              simp only [Option.some.injEq] at h
              subst h
              cases vmx with
              | none => exact hmx.elim
              | some vm =>
                refine ⟨_, main _ _ _ ll m m rfl (bounds_sound3 (mx := none) hlo hhi (hn (by simp)) hmx eh ell em b1 (Nat.le_refl _) (by omega)), ?_⟩
                simp only [VR]
                refine ⟨if m = ll then a else a.add (ll * P.cellsOf e), ?_, sliced_els b1 b2 (Nat.le_refl _) b3 ha⟩
                have : ((el.drop ll).take (m - ll)).length = m - ll := by simp; omega
                rw [this]
                congr 1
                split <;> rfl
            · cases h
          · cases h
      · cases h
    · cases h
  · rename_i id ver sz off len
    split at h
    · rename_i ver' fro esz' el hH
      split at h
      · rename_i hver
        subst hver
        split at h
        · rename_i hh ll eh ell
          obtain ⟨b, c, m⟩ := R.mem _ _ _ _ _ hH
          simp only [VR] at hx
          obtain ⟨b', n', c', a, h1, rfl, h2, h3, h4⟩ := hx
          rw [m.loc] at h1
          simp only [Option.some.injEq, Prod.mk.injEq] at h1
          obtain ⟨rfl, e1, rfl, rfl⟩ := h1
          split at h
          · have hv : vmx = none := by cases vmx with | none => rfl | some _ => exact hmx.elim
            subst hv
            split at h
            · rename_i hb
              obtain ⟨b1, b2, rfl⟩ := hb
              simp only [Option.some.injEq] at h
              subst h
              have hr := main _ _ _ ll hh (c - off) rfl (bounds_sound hlo hhi eh ell b1 (by omega))
              refine ⟨_, hr, ?_⟩
              simp only [VR]
              refine ⟨b, el.length, c, if c - off = ll then a else a.add (ll * P.cellsOf e), by rw [m.loc, e1], ?_, by omega, h3, ?_⟩
              · rw [show c - off - ll = c - (off + ll) by omega]
                congr 1
                split <;> rfl
              · intro hlt
                rw [if_neg (by omega), h4 (by omega), add_plain, Nat.add_mul, Nat.add_assoc]
            · cases h
          · rename_i xm
            split at h
            · rename_i mm em
              split at h
              · rename_i hb
                obtain ⟨b1, b2, b3⟩ := hb
                simp only [Option.some.injEq] at h
                subst h
                cases vmx with
                | none => exact hmx.elim
                | some vm =>
                  exact ⟨_, main _ _ _ ll hh mm rfl (bounds_sound3 (mx := none) hlo hhi (hn (by simp)) hmx eh ell em b1 b2 (by omega)), by simp [VR]⟩
              · cases h
            · cases h
        · cases h
      · cases h
    · cases h
  · cases h
theorem sliceStr_sound {t : TypeId} {i : TI} (hi : tiOf P t = some i) (hk : i.k = .str) {x av : AV} {lo hi' : Option AV} {u : Value} {vlo vhi : Option Value}
    (hx : VR L x u) (hlo : VO L lo vlo) (hhi : VO L hi' vhi) (h : sliceStrA x lo hi' = some av) :
    ∃ r, (Instr.sliceAt t u vlo vhi none).run P w = .ok r w ∧ VR L av r := by
  obtain ⟨info, d, z, k⟩ := tiOf_some hi
  rw [k.k] at hk
  obtain rfl := tkOf_str hk
  unfold sliceStrA at h
  split at h
  · simp only [VR, DR] at hx
    subst hx
    split at h
    · rename_i hh eh
      split at h
      · rename_i ll ell
        split at h
        · rename_i hb
          simp only [Option.some.injEq] at h
          subst h
          refine ⟨_, ?_, by simp only [VR, DR]; rfl⟩
          simp [Instr.sliceAt, Instr.slice, k.run_und, bounds_sound (P := P) (w := w) (isS := false) hlo hhi eh ell hb.1 hb.2]
        · cases h
      · cases h
    · cases h
  · cases h

end Go.AM

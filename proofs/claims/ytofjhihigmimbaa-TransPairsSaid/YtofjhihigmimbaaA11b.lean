/- Elements of an object written anew: what clear and copy do. -/
import Derived.Test.YtofjhihigmimbaaA11
set_option autoImplicit false
set_option linter.unusedVariables false
namespace Go.AM
open Go
variable {P : Program} {L L' : Lo} {w w' : World} {base : Nat} {H H' : AHeap}
theorem Nx.rows {i ver fro sz c off : Nat} {l F : List (List AV)} {b : Addr} {cells : Array Value} {tt : TypeId} {vs : List Value} (R : Rel base L H w) (hH : H i = some (.mem ver fro sz l)) (m : MemOk base L w i ver fro sz l b c)
  (k1 : w.heap[b.block]? = some (.cells cells tt (0, 0))) (k2 : b.off + c * sz ≤ cells.size)
  (k3 : ∀ e es, l[e]? = some es → es.length = sz ∧ ∀ j x, es[j]? = some x → ∃ v, cells[b.off + e * sz + j]? = some v ∧ VR L x v ∧ one v ∧ (e < fro → L.imm b.block (b.off + e * sz + j) = some v))
  (hfro : fro ≤ off) (hfit : off + F.length ≤ l.length) (hF : ∀ cc ∈ F, cc.length = sz) (hc : CRL L F.flatten vs) :
  b.off + off * sz + vs.length ≤ cells.size ∧ Nx base (fun _ => False) L H w L (H.set i (.mem ver fro sz (l.take off ++ F ++ l.drop (off + F.length)))) (w.setRow b.block (cells.toList.take (b.off + off * sz) ++ vs ++ cells.toList.drop (b.off + off * sz + vs.length)).toArray) := by
 have hvl : vs.length = F.length * sz := by rw [← hc.length, flat_len hF]
 have hmul : off * sz + F.length * sz ≤ c * sz := by
  have : (off + F.length) * sz ≤ c * sz := Nat.mul_le_mul_right _ (by have := m.cap; omega)
  rwa [Nat.add_mul] at this
 have hfitc : b.off + off * sz + vs.length ≤ cells.toList.length := by have hcl : cells.toList.length = cells.size := Array.length_toList; omega
 refine ⟨by have hcl : cells.toList.length = cells.size := Array.length_toList; omega, Nx.rewrite R hH m k1 ?_ rfl (.refl L) rfl (fun _ _ _ h => .inl h) rfl ?_ ?_⟩
 rotate_left 2
 ·simp [blk, m.loc]
 ·intro q hq
  have hfe : fro * sz ≤ off * sz := Nat.mul_le_mul_right _ hfro
  simp only [List.getElem?_toArray]
  rw [seg_get _ _ _ _ hfitc, if_pos (by omega), Array.getElem?_toList]
 ·have hll : (l.take off ++ F ++ l.drop (off + F.length)).length = l.length := by simp; omega
  refine ⟨b, c, by rw [hll]; exact m.loc, by rw [hll]; exact m.cap, m.spot, m.base, ⟨_, tt, setRow_heap w _ cells _ tt (0, 0) k1, ?_, ?_⟩, fun o ho => m.free o ho, fun v hv => m.last v hv, m.orig⟩
  ·simp; omega
  ·intro e es he
   rw [seg_get _ _ _ _ hfit] at he
   have old : ¬ (off ≤ e ∧ e < off + F.length) → l[e]? = some es → es.length = sz ∧ ∀ j x, es[j]? = some x → ∃ v, (cells.toList.take (b.off + off * sz) ++ vs ++ cells.toList.drop (b.off + off * sz + vs.length)).toArray[b.off + e * sz + j]? = some v ∧ VR L x v ∧ one v ∧ (e < fro → L.imm b.block (b.off + e * sz + j) = some v) := fun hne he => by
    obtain ⟨k6, k7⟩ := k3 e es he
    refine ⟨k6, fun j x hx => ?_⟩
    obtain ⟨u, g1, g2, g3, g4⟩ := k7 j x hx
    have hj : j < sz := by rw [← k6]; exact (List.getElem?_eq_some_iff.1 hx).1
    refine ⟨u, ?_, g2, g3, g4⟩
    simp only [List.getElem?_toArray]
    rw [seg_get _ _ _ _ hfitc, Array.getElem?_toList]
    rcases Nat.lt_or_ge e off with hlt | hge
    ·have : (e + 1) * sz ≤ off * sz := Nat.mul_le_mul_right _ hlt
     rw [Nat.add_mul, Nat.one_mul] at this
     rw [if_pos (by omega)]; exact g1
    ·have h5 : off + F.length ≤ e := by omega
     have : (off + F.length) * sz ≤ e * sz := Nat.mul_le_mul_right _ h5
     rw [Nat.add_mul] at this
     rw [if_neg (by omega), if_neg (by omega)]; exact g1
   split at he
   ·rename_i h1
    exact old (by omega) he
   ·rename_i h1
    split at he
    ·rename_i h2
     have hlen : es.length = sz := hF es (List.mem_of_getElem? he)
     refine ⟨hlen, fun j x hx => ?_⟩
     have hfl : F.flatten[(e - off) * sz + j]? = some x := flat_get hF he hx
     obtain ⟨u, g1, g2, g3⟩ := hc.get hfl
     have hj : j < sz := by rw [← hlen]; exact (List.getElem?_eq_some_iff.1 hx).1
     have he2 : e * sz = off * sz + (e - off) * sz := by rw [← Nat.add_mul]; congr 1; omega
     have hlt := (List.getElem?_eq_some_iff.1 g1).1
     refine ⟨u, ?_, g2, g3, fun h => by omega⟩
     simp only [List.getElem?_toArray]
     rw [seg_get _ _ _ _ hfitc, if_neg (by omega), if_pos (by omega), show b.off + e * sz + j - (b.off + off * sz) = (e - off) * sz + j by omega]
     exact g1
    ·rename_i h2
     exact old (by omega) he
theorem clr_sound {t ty e : TypeId} {ei : TI} (R : Rel base L H w) (ht : P.underlying t = some (.slice e)) (he : tiOf P e = some ei) {d : AV} {us : Ups} {u : Value} (hd : VR L d u) (h : clrA ei d H = some us) :
  ∃ w', (Builtin.clear_ #[t] ty #[u]).run P w = .ok (.tuple #[]) w' ∧ Nx base (fun _ => False) L H w L (H.sets us) w' := by
 obtain ⟨info, dd, z, k⟩ := tiOf_some he
 have e1 : ei.size = info.size := by rw [k.eq]
 unfold clrA at h
 split at h
 ·simp only [Option.some.injEq] at h
  subst h
  simp only [VR, DR] at hd
  obtain ⟨A, cap, rfl, _⟩ := hd
  exact ⟨w, by cases A <;> simp [Builtin.clear_, run_underlying ht], Nx.refl R⟩
 ·simp only [Option.some.injEq] at h
  subst h
  simp only [VR] at hd
  obtain ⟨a, rfl, _⟩ := hd
  exact ⟨w, by simp [Builtin.clear_, run_underlying ht], Nx.refl R⟩
 ·rename_i i ver sz off len
  simp only [VR] at hd
  obtain ⟨b', n', c', a, h1, rfl, h2, h3, h4⟩ := hd
  split at h
  ·rename_i h0
   simp only [Option.some.injEq] at h
   subst h
   subst h0
   exact ⟨w, by simp [Builtin.clear_, run_underlying ht], Nx.refl R⟩
  ·rename_i h0
   split at h
   ·rename_i v fro zz l hH
    split at h
    ·rename_i hcond
     obtain ⟨rfl, rfl, hsz, hpos, hfro, hfit⟩ := hcond
     simp only [Option.some.injEq] at h
     subst h
     obtain ⟨b, c, m⟩ := R.mem _ _ _ _ _ hH
     have h1' := h1
     rw [m.loc] at h1
     simp only [Option.some.injEq, Prod.mk.injEq] at h1
     obtain ⟨rfl, _, rfl, rfl⟩ := h1
     obtain ⟨cells, tt, k1, k2, k3⟩ := m.cells
     have hzc := zeros_CRL (k.zeros (L := L)) (by rw [k.hzs, ← e1]; exact hpos) len
     have hF : ∀ cc ∈ repl len ei.zero, cc.length = zz := by
      intro cc hcc
      unfold repl at hcc
      rw [List.mem_replicate] at hcc
      rw [hcc.2, (k.zeros (L := L)).length, Array.length_toList, k.hzs, ← e1, hsz]
     have hrl : (repl len ei.zero).length = len := by simp [repl]
     obtain ⟨g1, g2⟩ := Nx.rows R hH m k1 k2 k3 hfro (by rw [hrl]; exact hfit) hF hzc
     rw [hrl] at g2
     have ha := h4 (by have := m.cap; omega)
     subst ha
     have hst := run_storeCells_at P b.block (b.off + off * zz) tt (Builtin.zeroCells z.cells len).toList 0 cells w k1 (by simpa using g1) hzc.one'
     simp only [Nat.add_zero] at hst
     refine ⟨_, ?_, g2⟩
     obtain ⟨q, rfl⟩ : ∃ q, len = q + 1 := ⟨len - 1, by omega⟩
     simp [Builtin.clear_, run_underlying ht, zeroValue, typeInfo, k.hinfo, k.hzero, hst]
    ·cases h
   ·cases h
 ·cases h
theorem cpy_sound {t tx ty e : TypeId} {ei : TI} (R : Rel base L H w) (ht : P.underlying t = some (.slice e)) (he : tiOf P e = some ei) {d s av : AV} {us : Ups} {u ux : Value} (hd : VR L d u) (hs : VR L s ux) (h : cpyA ei.size d s H = some (av, us)) :
  ∃ r w', (Builtin.copy_ #[t, tx] ty #[u, ux]).run P w = .ok r w' ∧ VR L av r ∧ Nx base (fun _ => False) L H w L (H.sets us) w' := by
 obtain ⟨info, dd, z, k⟩ := tiOf_some he
 have e1 : ei.size = info.size := by rw [k.eq]
 unfold cpyA at h
 split at h
 ·rename_i ys hys
  obtain ⟨A, cap, rfl, _, hE⟩ := elemsA_sound R hs hys
  split at h
  ·rename_i hall
   obtain ⟨hall, hpos⟩ := hall
   have hsz := flat_mem hall
   have zr : ∀ (bs : Option Addr) (c2 n : Nat), Nat.min ys.length n = 0 → (Builtin.copy_ #[t, tx] ty #[.slice bs n c2, .slice A ys.length cap]).run P w = .ok (.int .i64 0) w := fun bs c2 n h0 => by
    have h0' : min ys.length n = 0 := h0
    cases A <;> cases bs <;> simp [Builtin.copy_, run_underlying ht, Builtin.lenOf, Builtin.firstCells, sizeOf, typeInfo, k.hinfo, h0', loadCells, loadCellsFrom, storeCells, goInt]
   split at h
   ·simp only [Option.some.injEq, Prod.mk.injEq] at h
    obtain ⟨rfl, rfl⟩ := h
    simp only [VR, DR] at hd
    obtain ⟨B, cap2, rfl, _⟩ := hd
    exact ⟨_, w, zr _ _ _ (by simp), by simp [VR, DR], Nx.refl R⟩
   ·simp only [Option.some.injEq, Prod.mk.injEq] at h
    obtain ⟨rfl, rfl⟩ := h
    simp only [VR] at hd
    obtain ⟨a, rfl, _⟩ := hd
    exact ⟨_, w, zr _ _ _ (by simp), by simp [VR, DR], Nx.refl R⟩
   ·rename_i i ver sz off len
    simp only [VR] at hd
    obtain ⟨b', n', c', a, h1, rfl, h2, h3, h4⟩ := hd
    split at h
    ·rename_i h0
     simp only [Option.some.injEq, Prod.mk.injEq] at h
     obtain ⟨rfl, rfl⟩ := h
     exact ⟨_, w, zr _ _ _ h0, by simp [VR, DR], Nx.refl R⟩
    ·rename_i h0
     split at h
     ·rename_i v fro zz l hH
      split at h
      ·rename_i hcond
       obtain ⟨rfl, rfl, hse, hfro, hfit⟩ := hcond
       simp only [Option.some.injEq, Prod.mk.injEq] at h
       obtain ⟨rfl, rfl⟩ := h
       obtain ⟨b, c, m⟩ := R.mem _ _ _ _ _ hH
       rw [m.loc] at h1
       simp only [Option.some.injEq, Prod.mk.injEq] at h1
       obtain ⟨rfl, _, rfl, rfl⟩ := h1
       obtain ⟨cells, tt, k1, k2, k3⟩ := m.cells
       have hle1 : Nat.min ys.length len ≤ ys.length := Nat.min_le_left _ _
       have hle2 : Nat.min ys.length len ≤ len := Nat.min_le_right _ _
       obtain ⟨q, hq⟩ : ∃ q, Nat.min ys.length len = q := ⟨_, rfl⟩
       rw [hq] at h0 hle1 hle2 ⊢
       have hyl : (ys.take q).length = q := by simp; omega
       have hF : ∀ cc ∈ ys.take q, cc.length = zz := fun cc hcc => by rw [hsz cc (List.mem_of_mem_take hcc), ← hse]
       rcases hE with rfl | ⟨a2, sz2, rfl, hsp, hE⟩
       ·simp at hle1; omega
       ·have hcl : Cl L w a2.block a2.off (ys.take q).flatten := Cl.flat (sz := sz2) fun j cc hj => by
         rw [List.getElem?_take] at hj
         split at hj
         ·exact hE j cc hj
         ·cases hj
        obtain ⟨vs, g1, g2⟩ := run_loadCells_Cl (P := P) hcl
        rw [flat_len hF, hyl] at g2
        obtain ⟨n1, n2⟩ := Nx.rows R hH m k1 k2 k3 hfro (by rw [hyl]; omega) hF g1
        rw [hyl] at n2
        have ha := h4 (by have := m.cap; omega)
        subst ha
        have ha2 : a2 = ⟨a2.block, a2.off, none⟩ := by cases a2; simp_all
        rw [← ha2] at g2
        have hst := run_storeCells_at P b.block (b.off + off * zz) tt vs 0 cells w k1 (by simpa using n1) g1.one'
        simp only [Nat.add_zero] at hst
        refine ⟨.int .i64 q, _, ?_, by simp [VR, DR], n2⟩
        have hq' : min ys.length len = q := hq
        have hzi : info.size = zz := by rw [← e1, ← hse]
        simp [Builtin.copy_, run_underlying ht, Builtin.lenOf, Builtin.firstCells, sizeOf, typeInfo, k.hinfo, hq', hzi, g2, hst, goInt]
      ·cases h
     ·cases h
   ·cases h
  ·cases h
 ·cases h
end Go.AM

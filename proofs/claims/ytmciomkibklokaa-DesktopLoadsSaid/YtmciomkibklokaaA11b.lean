/- Elements of an object written anew: what clear and copy do. -/
import Derived.Test.YtmciomkibklokaaA11
set_option autoImplicit false
set_option linter.unusedVariables false
namespace Go.AM
open Go
variable {P : Program} {L L' : Lo} {w w' : World} {base : Nat} {H H' : AHeap}
theorem clr_sound {t ty e : TypeId} {ei : TI} (R : Rel base L H w) (ht : P.underlying t = some (.slice e)) (he : tiOf P e = some ei) {d : AV} {us : Ups} {u : Value} (hd : VR L d u) (h : clrA ei d H = some us) :
    ∃ w', (Builtin.clear_ #[t] ty #[u]).run P w = .ok (.tuple #[]) w' ∧ Nx base (fun _ => False) L H w L (H.sets us) w' := by
  obtain ⟨info, dd, z, k⟩ := tiOf_some he
  have e1 : ei.size = info.size := by rw [k.eq]
  unfold clrA at h
  split at h
  · simp only [Option.some.injEq] at h
    subst h
    simp only [VR, DR] at hd
    obtain ⟨A, cap, rfl, _⟩ := hd
    exact ⟨w, by cases A <;> simp [Builtin.clear_, run_underlying ht], Nx.refl R⟩
  · simp only [Option.some.injEq] at h
    subst h
    simp only [VR] at hd
    obtain ⟨a, rfl, _⟩ := hd
    exact ⟨w, by simp [Builtin.clear_, run_underlying ht], Nx.refl R⟩
  · rename_i i ver sz off len
    simp only [VR] at hd
    obtain ⟨b', n', c', a, h1, rfl, h2, h3, h4⟩ := hd
    split at h
    · rename_i h0
      simp only [Option.some.injEq] at h
      subst h
      subst h0
      exact ⟨w, by simp [Builtin.clear_, run_underlying ht], Nx.refl R⟩
    · rename_i h0
      split at h
      · rename_i v fro zz l hH
        split at h
        · rename_i hcond
          obtain ⟨rfl, rfl, hsz, hpos, hfro, hfit⟩ := hcond
          simp only [Option.some.injEq] at h
          subst h
          obtain ⟨b, c, m⟩ := R.mem _ _ _ _ _ hH
          have h1' := h1
          rw [m.loc] at h1
          simp only [Option.some.injEq, Prod.mk.injEq] at h1
          obtain ⟨rfl, _, rfl, rfl⟩ := h1
          obtain ⟨cells, tt, k1, k2, k3⟩ := m.cells
          have hzc := zeros_CRL (k.zeros (L := L)) (by rw [k.hzs, ← e1]; exact hpos) len
          have hF : ∀ cc ∈ repl len ei.zero, cc.length = zz := by
            intro cc hcc
            unfold repl at hcc
            rw [List.mem_replicate] at hcc
            rw [hcc.2, (k.zeros (L := L)).length, Array.length_toList, k.hzs, ← e1, hsz]
          have hrl : (repl len ei.zero).length = len := by simp [repl]
          obtain ⟨g1, g2⟩ := Nx.rows R hH m k1 k2 k3 hfro (by rw [hrl]; exact hfit) hF hzc
          rw [hrl] at g2
          have ha := h4 (by have := m.cap; omega)
          subst ha
          have hst := run_storeCells_at P b.block (b.off + off * zz) tt (Builtin.zeroCells z.cells len).toList 0 cells w k1 (by simpa using g1) hzc.one'
          simp only [Nat.add_zero] at hst
          refine ⟨_, ?_, g2⟩
          obtain ⟨q, rfl⟩ : ∃ q, len = q + 1 := ⟨len - 1, by omega⟩
          simp [Builtin.clear_, run_underlying ht, zeroValue, typeInfo, k.hinfo, k.hzero, hst]
        · cases h
      · cases h
  · cases h
theorem cpy_sound {t tx ty e : TypeId} {ei : TI} (R : Rel base L H w) (ht : P.underlying t = some (.slice e)) (he : tiOf P e = some ei) {d s av : AV} {us : Ups} {u ux : Value} (hd : VR L d u) (hs : VR L s ux) (h : cpyA ei.size d s H = some (av, us)) :
    ∃ r w', (Builtin.copy_ #[t, tx] ty #[u, ux]).run P w = .ok r w' ∧ VR L av r ∧ Nx base (fun _ => False) L H w L (H.sets us) w' := by
  obtain ⟨info, dd, z, k⟩ := tiOf_some he
  have e1 : ei.size = info.size := by rw [k.eq]
  unfold cpyA at h
  split at h
  · rename_i ys hys
    obtain ⟨A, cap, rfl, _, hE⟩ := elemsA_sound R hs hys
    split at h
    · rename_i hall
      obtain ⟨hall, hpos⟩ := hall
      have hsz := flat_mem hall
      have zr : ∀ (bs : Option Addr) (c2 n : Nat), Nat.min ys.length n = 0 → (Builtin.copy_ #[t, tx] ty #[.slice bs n c2, .slice A ys.length cap]).run P w = .ok (.int .i64 0) w := fun bs c2 n h0 => by
        have h0' : min ys.length n = 0 := h0
        cases A <;> cases bs <;> simp [Builtin.copy_, run_underlying ht, Builtin.lenOf, Builtin.firstCells, sizeOf, typeInfo, k.hinfo, h0', loadCells, loadCellsFrom, storeCells, goInt]
      split at h
      · simp only [Option.some.injEq, Prod.mk.injEq] at h
        obtain ⟨rfl, rfl⟩ := h
        simp only [VR, DR] at hd
        obtain ⟨B, cap2, rfl, _⟩ := hd
        exact ⟨_, w, zr _ _ _ (by simp), by simp [VR, DR], Nx.refl R⟩
      · simp only [Option.some.injEq, Prod.mk.injEq] at h
        obtain ⟨rfl, rfl⟩ := h
        simp only [VR] at hd
        obtain ⟨a, rfl, _⟩ := hd
        exact ⟨_, w, zr _ _ _ (by simp), by simp [VR, DR], Nx.refl R⟩
      · rename_i i ver sz off len
        simp only [VR] at hd
        obtain ⟨b', n', c', a, h1, rfl, h2, h3, h4⟩ := hd
        split at h
        · rename_i h0
          simp only [Option.some.injEq, Prod.mk.injEq] at h
          obtain ⟨rfl, rfl⟩ := h
          exact ⟨_, w, zr _ _ _ h0, by simp [VR, DR], Nx.refl R⟩
        · rename_i h0
          split at h
          · rename_i v fro zz l hH
            split at h
            · rename_i hcond
              obtain ⟨rfl, rfl, hse, hfro, hfit⟩ := hcond
              simp only [Option.some.injEq, Prod.mk.injEq] at h
              obtain ⟨rfl, rfl⟩ := h
              obtain ⟨b, c, m⟩ := R.mem _ _ _ _ _ hH
              rw [m.loc] at h1
              simp only [Option.some.injEq, Prod.mk.injEq] at h1
              obtain ⟨rfl, _, rfl, rfl⟩ := h1
              obtain ⟨cells, tt, k1, k2, k3⟩ := m.cells
              have hle1 : Nat.min ys.length len ≤ ys.length := Nat.min_le_left _ _
              have hle2 : Nat.min ys.length len ≤ len := Nat.min_le_right _ _
              obtain ⟨q, hq⟩ : ∃ q, Nat.min ys.length len = q := ⟨_, rfl⟩
              rw [hq] at h0 hle1 hle2 ⊢
              have hyl : (ys.take q).length = q := by simp; omega
              have hF : ∀ cc ∈ ys.take q, cc.length = zz := fun cc hcc => by rw [hsz cc (List.mem_of_mem_take hcc), ← hse]
              rcases hE with rfl | ⟨a2, sz2, rfl, hsp, hE⟩
              · simp at hle1; omega
              · have hcl : Cl L w a2.block a2.off (ys.take q).flatten := Cl.flat (sz := sz2) fun j cc hj => by
                  rw [List.getElem?_take] at hj
                  split at hj
                  · exact hE j cc hj
                  · cases hj
                obtain ⟨vs, g1, g2⟩ := run_loadCells_Cl (P := P) hcl
                rw [flat_len hF, hyl] at g2
                obtain ⟨n1, n2⟩ := Nx.rows R hH m k1 k2 k3 hfro (by rw [hyl]; omega) hF g1
                rw [hyl] at n2
                have ha := h4 (by have := m.cap; omega)
                subst ha
                have ha2 : a2 = ⟨a2.block, a2.off, none⟩ := by cases a2; simp_all
                rw [← ha2] at g2
                have hst := run_storeCells_at P b.block (b.off + off * zz) tt vs 0 cells w k1 (by simpa using n1) g1.one'
                simp only [Nat.add_zero] at hst
                refine ⟨.int .i64 q, _, ?_, by simp [VR, DR], n2⟩
                have hq' : min ys.length len = q := hq
                have hzi : info.size = zz := by rw [← e1, ← hse]
                simp [Builtin.copy_, run_underlying ht, Builtin.lenOf, Builtin.firstCells, sizeOf, typeInfo, k.hinfo, hq', hzi, g2, hst, goInt]
            · cases h
          · cases h
      · cases h
    · cases h
  · cases h
end Go.AM

/- Objects written in place, and slices that lose the right to be written. -/
import Derived.Test.YtmciomkibklokaaA7
set_option autoImplicit false
set_option linter.unusedVariables false
set_option linter.unusedSimpArgs false
namespace Go.AM
open Go.RowKit

variable {P : Program} {L L' : Lo} {w w' : World} {base : Nat} {H H' : AHeap}

theorem Nx.rewrite {i ver fro sz c : Nat} {l : List (List AV)} {b : Addr} {cells cells' : Array Value} {t : TypeId} {ao : AObj} (R : Rel base L H w) (hH : H i = some (.mem ver fro sz l)) (m : MemOk base L w i ver fro sz l b c)
    (hc : w.heap[b.block]? = some (.cells cells t (0, 0))) (hlow : ∀ k, k < b.off + fro * sz → cells'[k]? = cells[k]?) (hw : w' = w.setRow b.block cells')
    (hle : L.le L') (himm : L'.imm = L.imm) (hmem : ∀ j v x, L'.mem j v = some x → L.mem j v = some x ∨ j = i) (hobj : L'.obj = L.obj)
    (hok : ObjOk base L' w' i ao) (hb : blk L' i ao = some b.block) : Nx base (fun _ => False) L H w L' (H.set i ao) w' := by
  subst hw
  have hbi : blk L i (.mem ver fro sz l) = some b.block := by simp [blk, m.loc]
  refine Nx.change R (n := i) ⟨hle, ⟨by simp, rfl, rfl, rfl, ?_⟩, ?_, ?_, ?_, ?_, ?_, ?_, ?_, ?_⟩
  · intro k _ hk
    exact setRow_other w _ _ _ fun e => hk ⟨i, _, hH, by rw [e]; exact hbi⟩
  · intro bb o v hv
    rw [himm] at hv
    have h0 := R.imm _ _ _ hv
    by_cases e : bb = b.block
    · subst e
      have hlt : o < b.off + fro * sz := by
        rcases Nat.lt_or_ge o (b.off + fro * sz) with h | h
        · exact h
        · rw [m.free o h] at hv; cases hv
      simp only [World.cell?, hc, Option.isSome_none, Bool.false_eq_true, if_false] at h0
      simp only [World.cell?, setRow_heap w _ cells cells' t (0, 0) hc, Option.isSome_none, Bool.false_eq_true, if_false]
      rw [hlow o hlt, h0]
    · unfold World.cell? at h0 ⊢
      simp only at h0 ⊢
      rw [setRow_other w _ _ _ e]; exact h0
  · intro j hj; simp [AHeap.set, hj]
  · intro j o bb hj ho hbb
    refine ⟨setRow_other w _ _ _ fun e => hj (R.dist _ _ _ _ _ ho hH hbb (by rw [e]; exact hbi)), fun k hk => by rw [himm]; exact hk⟩
  · intro o ho
    simp only [AHeap.set, if_true, Option.some.injEq] at ho
    subst ho
    exact ⟨hok, fun bb hbb => by rw [hb] at hbb; cases hbb; exact .inr ⟨_, hH, hbi⟩⟩
  · intro _; exact .inl (by rw [hH]; rfl)
  · intro j v x hx
    rcases hmem j v x hx with h | h
    · exact .inl h
    · refine .inr ⟨h, ?_, .inl (by rw [hH]; rfl)⟩
      have := R.fm _ _ _ m.loc
      exact Nat.lt_of_lt_of_le this hle.cnt
  · intro j x hx; rw [hobj] at hx; exact .inl hx
  · intro bb k v hv; rw [himm] at hv; exact .inl hv
theorem seg_get {α : Type} (l vs : List α) (s k : Nat) (h : s + vs.length ≤ l.length) :
    (l.take s ++ vs ++ l.drop (s + vs.length))[k]? = if k < s then l[k]? else if k < s + vs.length then vs[k - s]? else l[k]? := by
  have hs : (l.take s).length = s := by simp; omega
  by_cases h1 : k < s
  · rw [if_pos h1, List.append_assoc, List.getElem?_append_left (by omega), List.getElem?_take, if_pos h1]
  · rw [if_neg h1]
    by_cases h2 : k < s + vs.length
    · rw [if_pos h2, List.getElem?_append_left (by simp; omega), List.getElem?_append_right (by omega), hs]
    · rw [if_neg h2, List.getElem?_append_right (by simp; omega), List.getElem?_drop]
      congr 1
      simp
      omega
theorem cells_one {v : Value} {cs : List AV} (h : CRL L cs v.cells.toList) : ∀ u ∈ v.cells.toList, u.oneCell' = true := by
  intro u hu
  obtain ⟨k, hk⟩ := List.getElem?_of_mem hu
  have hl := h.length
  have hlt : k < cs.length := by rw [hl]; exact (List.getElem?_eq_some_iff.1 hk).1
  obtain ⟨u', h1, _, h3⟩ := h.get (i := k) (x := cs[k]) (by simp [hlt])
  rw [hk] at h1
  cases h1
  exact h3
/-- A store. -/
theorem sto_sound {i ver fro sz : Nat} {t : TypeId} {ti : TI} (R : Rel base L H w) (ht : tiOf P t = some ti) {p v : AV} {us : Ups} {up uv : Value} (hp : VR L p up) (hv : VR L v uv) (h : stA ti.size p v H = some us) :
    ∃ w', (Instr.storeAt t up uv).run P w = .ok () w' ∧ Nx base (fun _ => False) L H w L (H.sets us) w' := by
  obtain ⟨info, d, z, k⟩ := tiOf_some ht
  unfold stA at h
  split at h
  · rename_i i ver e off
    split at h
    · rename_i ver' fro sz l hH
      split at h
      · rename_i hcond
        obtain ⟨hver, hfro, hst, hlen⟩ := hcond
        subst hver
        split at h
        · rename_i cs hcs
          split at h
          · rename_i hoff
            simp only [Option.some.injEq] at h
            subst h
            obtain ⟨b, c, m⟩ := R.mem _ _ _ _ _ hH
            simp only [VR] at hp
            obtain ⟨b', sz', n', c', h1, rfl⟩ := hp
            have h1' := h1
            rw [m.loc] at h1
            simp only [Option.some.injEq, Prod.mk.injEq] at h1
            obtain ⟨rfl, rfl, rfl, rfl⟩ := h1
            obtain ⟨cells, tt, k1, k2, k3⟩ := m.cells
            have hcl := VR.cells hv hst
            have hul : uv.cells.toList.length = ti.size := by rw [← hcl.length, hlen]
            obtain ⟨k4, k5⟩ := k3 e cs hcs
            have hel : e < l.length := (List.getElem?_eq_some_iff.1 hcs).1
            have hmul : e * sz + sz ≤ c * sz := by
              have : (e + 1) * sz ≤ c * sz := Nat.mul_le_mul_right _ (by have := m.cap; omega)
              rwa [Nat.add_mul, Nat.one_mul] at this
            have hfit : b.off + e * sz + off + 0 + uv.cells.toList.length ≤ cells.size := by rw [hul]; omega
            have hrun := run_storeCells_at P b.block (b.off + e * sz + off) tt uv.cells.toList 0 cells w k1 hfit (cells_one hcl)
            simp only [Nat.add_zero] at hrun
            have hrun2 : (Instr.storeAt t (.pointer (some ⟨b.block, b.off + e * sz + off, none⟩)) uv).run P w = .ok () (w.setRow b.block (List.take (b.off + e * sz + off) cells.toList ++ uv.cells.toList ++ List.drop (b.off + e * sz + off + uv.cells.toList.length) cells.toList).toArray) := by
              have hq : uv.cells.size = ti.size := by rw [← hul, Array.length_toList]
              simp [Instr.storeAt, Instr.sureAddr, storeVar, k.size, hq, hrun]
            refine ⟨_, hrun2, Nx.rewrite R hH m k1 ?_ rfl (.refl L) rfl (fun _ _ _ h => .inl h) rfl ?_ ?_⟩
            rotate_left 2
            · simp [blk, m.loc]
            · intro q hq
              have hfe : fro * sz ≤ e * sz := Nat.mul_le_mul_right _ hfro
              simp only [List.getElem?_toArray]
              rw [seg_get _ _ _ _ (by simpa using hfit), if_pos (by omega), Array.getElem?_toList]
            · refine ⟨b, c, by rw [List.length_set]; exact m.loc, by rw [List.length_set]; exact m.cap, m.spot, m.base, ⟨_, tt, setRow_heap w _ cells _ tt (0, 0) k1, ?_, ?_⟩, fun o ho => m.free o ho, fun v hv => m.last v hv, m.orig⟩
              · simp; omega
              · intro e' es he'
                rw [List.getElem?_set] at he'
                split at he'
                · rename_i hee
                  subst hee
                  simp only [Option.some.injEq] at he'
                  subst he'
                  refine ⟨?_, fun j x hx => ?_⟩
                  · simp only [setCells, List.length_append, List.length_take, List.length_drop, hlen]; omega
                  · unfold setCells at hx
                    rw [seg_get _ _ _ _ (by rw [hlen]; exact hoff), hlen] at hx
                    simp only [List.getElem?_toArray]
                    rw [seg_get _ _ _ _ (by simpa using hfit), hul]
                    split at hx
                    · rename_i hj
                      obtain ⟨u, g1, g2, g3, g4⟩ := k5 j x hx
                      exact ⟨u, by rw [if_pos (by omega), Array.getElem?_toList]; exact g1, g2, g3, (fun h => by omega)⟩
                    · rename_i hj
                      split at hx
                      · rename_i hj2
                        obtain ⟨u, g1, g2, g3⟩ := hcl.get hx
                        refine ⟨u, ?_, g2, g3, (fun h => by omega)⟩
                        rw [if_neg (by omega), if_pos (by omega)]
                        rw [show b.off + e * sz + j - (b.off + e * sz + off) = j - off by omega]
                        exact g1
                      · rename_i hj2
                        obtain ⟨u, g1, g2, g3, g4⟩ := k5 j x hx
                        exact ⟨u, by rw [if_neg (by omega), if_neg (by omega), Array.getElem?_toList]; exact g1, g2, g3, (fun h => by omega)⟩
                · rename_i hee
                  obtain ⟨k6, k7⟩ := k3 e' es he'
                  refine ⟨k6, fun j x hx => ?_⟩
                  obtain ⟨u, g1, g2, g3, g4⟩ := k7 j x hx
                  have hj : j < sz := by rw [← k6]; exact (List.getElem?_eq_some_iff.1 hx).1
                  refine ⟨u, ?_, g2, g3, g4⟩
                  simp only [List.getElem?_toArray]
                  rw [seg_get _ _ _ _ (by simpa using hfit), hul, Array.getElem?_toList]
                  rcases Nat.lt_or_ge e' e with hlt | hge
                  · have : (e' + 1) * sz ≤ e * sz := Nat.mul_le_mul_right _ hlt
                    rw [Nat.add_mul, Nat.one_mul] at this
                    rw [if_pos (by omega)]; exact g1
                  · have : (e + 1) * sz ≤ e' * sz := Nat.mul_le_mul_right _ (by omega)
                    rw [Nat.add_mul, Nat.one_mul] at this
                    rw [if_neg (by omega), if_neg (by omega)]; exact g1
          · cases h
        · cases h
      · cases h
    · cases h
  · cases h

/-! ### freezing -/
theorem DRC_of {b : Nat} : ∀ {c : List Dat} {o : Nat}, (∀ (j : Nat) (y : Dat), c[j]? = some y → ∃ v, L.imm b (o + j) = some v ∧ DR L y v) → DRC L b o c
  | [], o, _ => by simp [DRC]
  | x :: xs, o, h => by
    simp only [DRC]
    refine ⟨by simpa using h 0 x rfl, DRC_of fun j y hy => ?_⟩
    have := h (j + 1) y (by simpa using hy)
    rwa [show o + 1 + j = o + (j + 1) by omega]
theorem DRE_of {b sz : Nat} : ∀ {l : List (List Dat)} {o : Nat}, (∀ (e : Nat) (c : List Dat), l[e]? = some c → c.length = sz ∧ DRC L b (o + e * sz) c) → DRE L b o sz l
  | [], o, _ => by simp [DRE]
  | x :: xs, o, h => by
    simp only [DRE]
    have h0 := h 0 x rfl
    refine ⟨h0.1, by simpa using h0.2, DRE_of fun j y hy => ?_⟩
    have := h (j + 1) y (by simpa using hy)
    rwa [show o + sz + j * sz = o + (j + 1) * sz by rw [Nat.add_mul]; omega]
theorem AHeap.sets_append (H : AHeap) : ∀ (a b : Ups), H.sets (a ++ b) = (H.sets a).sets b
  | [], b => rfl
  | (i, o) :: a, b => by simp only [List.cons_append, AHeap.sets]; exact sets_append _ a b
theorem frz_sound {v v' : AV} {u : Value} {us : Ups} (R : Rel base L H w) (hv : VR L v u) (h : frz v H = some (v', us)) :
    ∃ L', VR L' v' u ∧ Nx base (fun _ => False) L H w L' (H.sets us) w := by
  unfold frz at h
  split at h
  · rename_i i ver sz0 off len
    split at h
    · rename_i ver' fro sz l hH
      split at h
      · rename_i hver
        subst hver
        split at h
        · rename_i ds hds
          split at h
          · rename_i hdl
            simp only [Option.some.injEq, Prod.mk.injEq] at h
            obtain ⟨rfl, rfl⟩ := h
            obtain ⟨b, c, m⟩ := R.mem _ _ _ _ _ hH
            simp only [VR] at hv
            obtain ⟨b', n', c', a, h1, rfl, h2, h3, h4⟩ := hv
            rw [m.loc] at h1
            simp only [Option.some.injEq, Prod.mk.injEq] at h1
            obtain ⟨rfl, rfl, rfl, rfl⟩ := h1
            obtain ⟨cells, tt, k1, k2, k3⟩ := m.cells
            have hcell : ∀ k, w.cell? ⟨b.block, k, none⟩ = cells[k]? := fun k => by simp [World.cell?, k1]
            let p : Nat → Nat → Option Value := fun bb k => if bb = b.block ∧ k < b.off + max fro (off + len) * sz then w.cell? ⟨bb, k, none⟩ else none
            have hle : L.le (L.addImm p) := L.le_addImm
            have himm : ∀ bb k v, (L.addImm p).imm bb k = some v → L.imm bb k = some v ∨ (bb = b.block ∧ k < b.off + max fro (off + len) * sz ∧ w.cell? ⟨bb, k, none⟩ = some v) := by
              intro bb k v hx
              simp only [Lo.addImm, p] at hx
              split at hx
              · rename_i e; rw [e]; exact .inl hx
              · split at hx
                · rename_i e; exact .inr ⟨e.1, e.2, hx⟩
                · cases hx
            have himm' : ∀ k v, k < b.off + max fro (off + len) * sz → w.cell? ⟨b.block, k, none⟩ = some v → (L.addImm p).imm b.block k = some v := by
              intro k v hk hx
              simp only [Lo.addImm, p]
              split
              · rename_i v' e
                have := R.imm _ _ _ e
                rw [hx] at this
                exact this.symm
              · rw [if_pos ⟨trivial, hk⟩]; exact hx
            have hbi : blk L i (.mem ver fro sz l) = some b.block := by simp [blk, m.loc]
            refine ⟨L.addImm p, ?_, Nx.change R (n := i) ⟨hle, .refl _ w, ?_, ?_, ?_, ?_, ?_, fun _ _ _ h => .inl h, fun _ _ h => .inl h, ?_⟩⟩
            · simp only [VR, DR]
              refine ⟨some a, c - off, by rw [hdl], by omega, (fun h => by cases h), fun _ => ⟨a, rfl, ?_⟩⟩
              by_cases h0 : off < c
              · rw [h4 h0]
                refine .inr ⟨rfl, sz, DRE_of fun e cc hcc => ?_⟩
                have hel : e < len := by rw [← hdl]; exact (List.getElem?_eq_some_iff.1 hcc).1
                have hge : ((l.drop off).take len)[e]? = l[off + e]? := by rw [List.getElem?_take, if_pos hel, List.getElem?_drop]
                have hlt : off + e < l.length := by omega
                obtain ⟨y, g1, g2⟩ := (toDatss_get hds).2 e l[off + e] (by rw [hge]; simp [hlt])
                rw [hcc] at g1
                cases g1
                obtain ⟨g3, g4⟩ := k3 (off + e) l[off + e] (by simp [hlt])
                obtain ⟨g5, g6⟩ := toDats_get g2
                refine ⟨by rw [← g5, g3], DRC_of fun j y hy => ?_⟩
                have hj : j < l[off + e].length := by rw [g5]; exact (List.getElem?_eq_some_iff.1 hy).1
                obtain ⟨z, g7, g8⟩ := g6 j l[off + e][j] (by simp [hj])
                rw [hy] at g7
                cases g7
                obtain ⟨vv, g9, g10, g11, _⟩ := g4 j l[off + e][j] (by simp [hj])
                have hjs : j < sz := by rw [← g3]; exact hj
                have hidx : b.off + (off + e) * sz + j < b.off + max fro (off + len) * sz := by
                  have : (off + e + 1) * sz ≤ max fro (off + len) * sz := Nat.mul_le_mul_right _ (by omega)
                  rw [Nat.add_mul, Nat.one_mul] at this
                  omega
                refine ⟨vv, ?_, DR.mono hle _ _ (toDat_sound g10 g8)⟩
                show (L.addImm p).imm b.block _ = _
                rw [show b.off + off * sz + e * sz + j = b.off + (off + e) * sz + j by rw [Nat.add_mul]; omega]
                exact himm' _ _ hidx (by rw [hcell]; exact g9)
              · left
                apply List.eq_nil_of_length_eq_zero
                omega
            · intro bb k v hx
              rcases himm bb k v hx with hx | ⟨_, _, hx⟩
              · exact R.imm _ _ _ hx
              · exact hx
            · intro j hj; simp [AHeap.sets, AHeap.set, hj]
            · intro j o bb hj ho hbb
              refine ⟨rfl, fun k hk => ?_⟩
              cases hx : (L.addImm p).imm bb k with
              | none => rfl
              | some v =>
                rcases himm bb k v hx with hx | ⟨e, _, _⟩
                · rw [hk] at hx; cases hx
                · exact absurd (R.dist _ _ _ _ _ ho hH hbb (by rw [e]; exact hbi)) hj
            · intro o ho
              simp only [AHeap.sets, AHeap.set, if_true, Option.some.injEq] at ho
              subst ho
              refine ⟨⟨b, c, m.loc, m.cap, m.spot, m.base, ⟨cells, tt, k1, k2, fun e es he => ?_⟩, fun o ho => ?_, m.last, m.orig⟩, fun bb hbb => .inr ⟨_, hH, hbb⟩⟩
              · obtain ⟨g1, g2⟩ := k3 e es he
                refine ⟨g1, fun j x hx => ?_⟩
                obtain ⟨vv, g3, g4, g5, _⟩ := g2 j x hx
                have hjs : j < sz := by rw [← g1]; exact (List.getElem?_eq_some_iff.1 hx).1
                refine ⟨vv, g3, VR.mono hle _ _ g4, g5, fun hf => himm' _ _ ?_ (by rw [hcell]; exact g3)⟩
                have : (e + 1) * sz ≤ max fro (off + len) * sz := Nat.mul_le_mul_right _ hf
                rw [Nat.add_mul, Nat.one_mul] at this
                omega
              · have hfm : fro * sz ≤ max fro (off + len) * sz := Nat.mul_le_mul_right _ (by omega)
                cases hx : (L.addImm p).imm b.block o with
                | none => rfl
                | some v =>
                  rcases himm _ _ v hx with hx | ⟨_, hx, _⟩
                  · rw [m.free o (by omega)] at hx; cases hx
                  · omega
            · intro _; exact .inl (by rw [hH]; rfl)
            · intro bb k v hx
              rcases himm bb k v hx with hx | ⟨e, _, _⟩
              · exact .inl hx
              · exact .inr (.inl ⟨i, _, hH, by rw [e]; exact hbi⟩)
          · cases h
        · cases h
      · cases h
    · cases h
  · rename_i l
    simp only [Option.some.injEq, Prod.mk.injEq] at h
    obtain ⟨rfl, rfl⟩ := h
    exact ⟨L, by simpa [VR] using lit_sl hv, Nx.refl R⟩
  · simp only [Option.some.injEq, Prod.mk.injEq] at h
    obtain ⟨rfl, rfl⟩ := h
    exact ⟨L, hv, Nx.refl R⟩
theorem frzL_sound : ∀ {l l' : List AV} {vs : List Value} {us : Ups} {L : Lo} {H : AHeap}, Rel base L H w → VRL L l vs → frzL l H = some (l', us) →
    ∃ L', VRL L' l' vs ∧ Nx base (fun _ => False) L H w L' (H.sets us) w
  | [], l', [], us, L, H, R, hv, h => by
    simp only [frzL, Option.some.injEq, Prod.mk.injEq] at h
    obtain ⟨rfl, rfl⟩ := h
    exact ⟨L, hv, Nx.refl R⟩
  | [], _, _ :: _, _, _, _, _, hv, _ => by simp [VRL] at hv
  | _ :: _, _, [], _, _, _, _, hv, _ => by simp [VRL] at hv
  | x :: xs, l', v :: vs, us, L, H, R, hv, h => by
    simp only [VRL] at hv
    simp only [frzL] at h
    split at h
    · rename_i v' us1 h1
      split at h
      · rename_i l2 us2 h2
        simp only [Option.some.injEq, Prod.mk.injEq] at h
        obtain ⟨rfl, rfl⟩ := h
        obtain ⟨L1, g1, g2⟩ := frz_sound R hv.1 h1
        obtain ⟨L2, g3, g4⟩ := frzL_sound g2.rel (VRL.mono g2.le _ _ hv.2) h2
        refine ⟨L2, ?_, by rw [AHeap.sets_append]; exact g2.trans g4 (fun _ h => h)⟩
        simp only [VRL]
        exact ⟨VR.mono g4.le _ _ g1, g3⟩
      · cases h
    · cases h
theorem CRL_of_VRL : ∀ {l l' : List AV} {vs : List Value} {L L' : Lo}, CRL L l vs → VRL L' l' vs → CRL L' l' vs
  | [], [], [], _, _, _, _ => by simp [CRL]
  | _, [], _ :: _, _, _, _, h => by simp [VRL] at h
  | _, _ :: _, [], _, _, _, h => by simp [VRL] at h
  | [], _ :: _, _ :: _, _, _, h, _ => by simp [CRL] at h
  | _ :: _, [], [], _, _, h, _ => by simp [CRL] at h
  | x :: xs, y :: ys, v :: vs, L, L', h, k => by
    simp only [CRL, VRL] at h k ⊢
    exact ⟨k.1, h.2.1, CRL_of_VRL h.2.2 k.2⟩
theorem frzA_sound {v v' : AV} {u : Value} {us : Ups} (R : Rel base L H w) (hv : VR L v u) (h : frzA v H = some (v', us)) :
    ∃ L', VR L' v' u ∧ Nx base (fun _ => False) L H w L' (H.sets us) w := by
  unfold frzA at h
  split at h
  · rename_i l
    split at h
    · rename_i l' us' h1
      simp only [Option.some.injEq, Prod.mk.injEq] at h
      obtain ⟨rfl, rfl⟩ := h
      simp only [VR] at hv
      obtain ⟨cs, rfl, hc⟩ := hv
      obtain ⟨L1, g1, g2⟩ := frzL_sound R hc.VRL h1
      refine ⟨L1, ?_, g2⟩
      simp only [VR]
      exact ⟨cs, rfl, CRL_of_VRL hc g1⟩
    · cases h
  · exact frz_sound R hv h
theorem frzAL_sound : ∀ {l l' : List AV} {vs : List Value} {us : Ups} {L : Lo} {H : AHeap}, Rel base L H w → VRL L l vs → frzAL l H = some (l', us) →
    ∃ L', VRL L' l' vs ∧ Nx base (fun _ => False) L H w L' (H.sets us) w
  | [], l', [], us, L, H, R, hv, h => by
    simp only [frzAL, Option.some.injEq, Prod.mk.injEq] at h
    obtain ⟨rfl, rfl⟩ := h
    exact ⟨L, hv, Nx.refl R⟩
  | [], _, _ :: _, _, _, _, _, hv, _ => by simp [VRL] at hv
  | _ :: _, _, [], _, _, _, _, hv, _ => by simp [VRL] at hv
  | x :: xs, l', v :: vs, us, L, H, R, hv, h => by
    simp only [VRL] at hv
    simp only [frzAL] at h
    split at h
    · rename_i v' us1 h1
      split at h
      · rename_i l2 us2 h2
        simp only [Option.some.injEq, Prod.mk.injEq] at h
        obtain ⟨rfl, rfl⟩ := h
        obtain ⟨L1, g1, g2⟩ := frzA_sound R hv.1 h1
        obtain ⟨L2, g3, g4⟩ := frzAL_sound g2.rel (VRL.mono g2.le _ _ hv.2) h2
        refine ⟨L2, ?_, by rw [AHeap.sets_append]; exact g2.trans g4 (fun _ h => h)⟩
        simp only [VRL]
        exact ⟨VR.mono g4.le _ _ g1, g3⟩
      · cases h
    · cases h

end Go.AM

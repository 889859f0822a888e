/- 'next', and one step of whatever operation that is no call. -/
import Derived.Test.YtmciomkibklokaaA11
set_option autoImplicit false
set_option linter.unusedVariables false
set_option linter.unusedSimpArgs false
namespace Go.AM
open Go.RowKit Go.MapKept

variable {P : Program} {L L' : Lo} {w w' : World} {base : Nat} {H H' : AHeap}

theorem EntR.get_r : ∀ {es : List MEnt} {cs : List MapEntry}, EntR L es cs → ∀ {i : Nat} {c : MapEntry}, cs[i]? = some c → ∃ e, es[i]? = some e ∧ DR L e.key c.key ∧ VR L e.val c.val ∧ e.val.storable = true ∧ e.born = c.born
  | [], [], _, i, c, h => by simp at h
  | [], _ :: _, h, _, _, _ => h.elim
  | _ :: _, [], h, _, _, _ => h.elim
  | x :: es, c :: cs, h, i, d, hd => by
    cases i with
    | zero => simp at hd; subst hd; exact ⟨x, rfl, h.1, h.2.1, h.2.2.1, h.2.2.2.1⟩
    | succ i => simp at hd; obtain ⟨c', h1, h2⟩ := EntR.get_r h.2.2.2.2 hd; exact ⟨c', by simpa using h1, h2⟩
theorem Rel.heap (R : Rel base L H w) (hh : w'.heap = w.heap) : Rel base L H w' :=
  .of_ok (fun b o v h => by have := R.imm b o v h; unfold World.cell? at this ⊢; rw [hh]; exact this) (fun i o h => (R.ok h).keep (.refl L) (fun b _ => ⟨by rw [hh], fun k hk => hk⟩) (fun v h => h)) R.dist R.fm R.fo (by rw [hh]; exact R.base)
theorem Nx.heap {fr : Nat → Prop} (R : Rel base L H w) (hh : w'.heap = w.heap) (ho : w'.os = w.os) (ht : w'.tape = w.tape) (hu : w'.output = w.output) : Nx base fr L H w L H w' :=
  ⟨.refl L, R.heap hh, ⟨by rw [hh]; exact Nat.le_refl _, ho, ht, hu, fun _ _ _ => by rw [hh]⟩, fun _ h => .inl h, fun _ h => .inl h, fun _ _ _ h => .inl h, fun _ _ h => .inl h, fun _ _ _ h => .inl h⟩
theorem nx_sound {ty : TypeId} (R : Rel base L H w) {x : AV} {u : Value} {K : AV → AHeap → Prop} (hx : VR L x u) (h : nxA x H K) :
    ∃ r w' av H', (Instr.next u false ty).run P w = .ok r w' ∧ VR L av r ∧ Nx base (fun _ => False) L H w L H' w' ∧ K av H' := by
  unfold nxA at h
  split at h
  · rename_i j
    split at h
    · rename_i hH
      obtain ⟨b, h1, h2, s, y, z, h3⟩ := R.iter0 _ hH
      simp only [VR] at hx
      obtain ⟨b', h5, rfl⟩ := hx
      rw [h1] at h5
      cases h5
      refine ⟨.tuple #[.bool false], w, _, H, ?_, ?_, Nx.refl R, h⟩
      · simp [Instr.next, getObj, Sem.run, h3]
      · simp only [VR]; exact ⟨_, rfl, by simp [VRL, VR, DR]⟩
    · rename_i m since seen stepped hH
      split at h
      · rename_i es cl hHm
        obtain ⟨hstk, hover, hone⟩ := h
        obtain ⟨b, bm, h1, h2, h3, h4⟩ := R.iter _ _ _ _ _ hH
        obtain ⟨bm', ces, h5, h6, h7, h8⟩ := R.map _ _ _ hHm
        rw [h2] at h5
        cases h5
        simp only [VR] at hx
        obtain ⟨b', h9, rfl⟩ := hx
        rw [h1] at h9
        cases h9
        have hb : blk L j (.iter m since seen stepped) = some b := h1
        have hstuck : (!seen.toArray.isEmpty && !ces.isEmpty && ces.all (fun x => decide (x.born ≥ stepped))) = false := by
          cases hc : (!seen.toArray.isEmpty && !ces.isEmpty && ces.all (fun x => decide (x.born ≥ stepped))) with
          | false => rfl
          | true =>
            simp only [Bool.and_eq_true, Bool.not_eq_true'] at hc
            obtain ⟨⟨c1, c2⟩, c3⟩ := hc
            have g1 : seen ≠ [] := by rintro rfl; simp at c1
            have g2 : es ≠ [] := by
              rintro rfl
              have := h8.length
              have : ces.toList = [] := by apply List.eq_nil_of_length_eq_zero; exact this.symm
              have : ces = #[] := by apply Array.ext'; exact this
              subst this; simp at c2
            have g3 := hstk g1 g2
            rw [List.all_eq_false] at g3
            obtain ⟨e, he, hne⟩ := g3
            obtain ⟨i, hi⟩ := List.getElem?_of_mem he
            obtain ⟨c, k1, _, _, _, k2⟩ := h8.get hi
            rw [Array.all_eq_true_iff_forall_mem] at c3
            have := c3 c (by rw [← Array.mem_toList_iff]; exact List.mem_of_getElem? k1)
            simp at this hne
            omega
        generalize hleft : (ces.filter fun e => !seen.toArray.contains e.born) = left
        have hmem : ∀ c ∈ left.toList, c ∈ ces.toList ∧ c.born ∉ seen := by
          intro c hc
          subst hleft
          simp only [Array.toList_filter, List.mem_filter] at hc
          refine ⟨hc.1, ?_⟩
          have := hc.2
          simp at this
          exact this
        have hmem' : ∀ c ∈ ces.toList, c.born ∉ seen → c ∈ left.toList := by
          intro c hc hn
          subst hleft
          simp only [Array.toList_filter, List.mem_filter]
          exact ⟨hc, by simpa using hn⟩
        generalize hC : ((if (left.filter (fun x => decide (x.born < since))).isEmpty then #[none] else #[]) ++ (left.filter (fun x => decide (x.born < since)) ++ left.filter (fun x => decide (x.born ≥ since))).map some : Array (Option MapEntry)) = C
        have hpos : 0 < C.size := by
          subst hC
          split
          · simp; omega
          · rename_i hne
            have h0 : (left.filter (fun x => decide (x.born < since))).size ≠ 0 := fun h => hne (by simp only [Array.isEmpty, h]; rfl)
            simp only [Array.size_append, Array.size_map]
            omega
        have hch : ∃ (q : Nat) (w1 : World), q < C.size ∧ (w1 = w ∨ w1 = w.drew) ∧ (choose (Question.mapNext C.size)).run P w = .ok q w1 := by
          by_cases hf : C.size ≤ 1
          · exact ⟨0, w, by omega, Or.inl rfl, by simp [choose, Sem.run, Question.forced, hf]⟩
          · refine ⟨_, w.drew, Nat.mod_lt _ hpos, Or.inr rfl, by
              simp only [choose, Sem.run, Question.forced, decide_eq_true_eq, hf, if_false, Question.cut]
              rfl⟩
        obtain ⟨q, w1, hq, hal, hrun⟩ := hch
        have hCq : C[q]? = some C[q] := by simp [hq]
        have hin : ∀ e, C[q] = some e → e ∈ ces.toList ∧ e.born ∉ seen := by
          intro e he
          have : some e ∈ C.toList := by rw [← he]; simp
          subst hC
          rw [Array.toList_append, List.mem_append] at this
          rcases this with h' | h'
          · split at h' <;> simp at h'
          · simp at h'
            rcases h' with h' | h'
            · exact hmem e (by simpa using h'.1)
            · exact hmem e (by simpa using h'.1)
        have hnone : C[q] = none → ∀ e ∈ ces.toList, e.born ∉ seen → ¬ e.born < since := by
          intro hn e he hes hlt
          have : none ∈ C.toList := by rw [← hn]; simp
          subst hC
          rw [Array.toList_append, List.mem_append] at this
          rcases this with h' | h'
          · split at h'
            · rename_i hemp
              have hml := hmem' e he hes
              have : e ∈ (left.filter (fun x => decide (x.born < since))).toList := by simp only [Array.toList_filter, List.mem_filter]; exact ⟨hml, by simpa using hlt⟩
              have hnil : (left.filter (fun x => decide (x.born < since))) = #[] := by simpa using hemp
              rw [hnil] at this
              simp at this
            · simp at h'
          · simp at h'
        have hbase : (Instr.next (.pointer (some ⟨b, 0, none⟩)) false ty).run P w = (match C[q] with
            | some e => (do setObj b (.mapIter (some bm) since (seen.toArray.push e.born) cl); pure (.tuple #[.bool true, e.key, e.val]) : Sem Value).run P w1
            | none => .ok (.tuple #[.bool false]) w1) := by
          simp only [Instr.next, getObj, Sem.run_bind, Sem.run, h4, h7, Result.andThen, hstuck, Bool.false_eq_true, if_false, hleft]
          simp only [hC, hrun, hCq]
          cases C[q] <;> simp [Result.andThen]
        cases hcq : C[q] with
        | none =>
          refine ⟨.tuple #[.bool false], w1, .tup [.d (.bool false)], H, by rw [hbase, hcq], ?_, ?_, hover ?_⟩
          · simp only [VR]; exact ⟨_, rfl, by simp [VRL, VR, DR]⟩
          · rcases hal with rfl | rfl
            · exact Nx.refl R
            · exact Nx.heap R rfl rfl rfl rfl
          · intro e he hes
            obtain ⟨i, hi⟩ := List.getElem?_of_mem he
            obtain ⟨c, k1, _, _, _, k2⟩ := h8.get hi
            rw [k2] at hes ⊢
            exact hnone hcq c (List.mem_of_getElem? k1) hes
        | some c =>
          obtain ⟨hcin, hcs⟩ := hin c hcq
          obtain ⟨i, hi⟩ := List.getElem?_of_mem hcin
          obtain ⟨e, k1, k2, k3, k4, k5⟩ := h8.get_r hi
          have hr1 : w1.heap[b]? = some (.mapIter (some bm) since seen.toArray stepped) := by rcases hal with rfl | rfl <;> exact h4
          have R1 : Rel base L H w1 := by
            rcases hal with rfl | rfl
            · exact R
            · exact R.heap rfl
          have N1 : Nx base (fun _ => False) L H w L H w1 := by
            rcases hal with rfl | rfl
            · exact Nx.refl R
            · exact Nx.heap R rfl rfl rfl rfl
          have hso : (setObj b (.mapIter (some bm) since (seen.toArray.push c.born) cl)).run P w1 = .ok () { w1 with heap := w1.heap.setIfInBounds b (.mapIter (some bm) since (seen.toArray.push c.born) cl) } := by
            simp [setObj, Sem.run, hr1]
          refine ⟨.tuple #[.bool true, c.key, c.val], { w1 with heap := w1.heap.setIfInBounds b (.mapIter (some bm) since (seen.toArray.push c.born) cl) }, .tup [.d (.bool true), .d e.key, e.val], H.set j (.iter m since (seen ++ [e.born]) cl), ?_, ?_, ?_, hone e (List.mem_of_getElem? k1) (by rw [k5]; exact hcs)⟩
          · rw [hbase, hcq]
            simp only [Sem.run_bind, hso, Result.andThen_ok]
            rfl
          · simp only [VR]; exact ⟨_, rfl, by simp [VRL, VR, DR, k2, k3]⟩
          · refine N1.trans (Nx.setObj R1 hH hb hr1 (fun _ _ _ h => by cases h) rfl rfl rfl rfl ⟨b, bm, h1, h2, h3, ?_⟩ h1) (fun _ h => h)
            rw [set_get hr1 rfl, k5]
            simp
      · exact h.elim
    · exact h.elim
  · exact h.elim
end Go.AM

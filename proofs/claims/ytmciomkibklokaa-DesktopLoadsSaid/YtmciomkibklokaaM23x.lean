/- (*Base).Program, told of the abstract heap. -/
import Derived.Test.YtmciomkibklokaaM23w
import Derived.Test.YtmciomkibklokaaT23
import Derived.Test.YtmciomkibklokaaA27
import Derived.Test.YtmciomkibklokaaA29
set_option autoImplicit false
set_option maxRecDepth 100000
set_option linter.unusedVariables false
set_option linter.unusedSimpArgs false
set_option linter.unnecessarySimpa false
namespace Go.Proofs.Ytmciomkibklokaa
open Go Go.AM Go.Proofs
abbrev pdat (x : Prg) : List Dat := [.str x.1, .int .i64 x.2.1, .int .i64 x.2.2]
/-- A base whose programs are zs, and that keeps no icon. -/
structure DB (H : AHeap) (k m : Nat) (pv : AV) (zs : List Prg) : Prop where
  base : H k = some (.mem 0 0 3 [[.d (.sl true []), pv, .map m]])
  prgs : Ms 3 H pv (zs.map pdat)
  map : ∃ es cl, H m = some (.map es cl)
  sep : idOf pv ≠ some k
abbrev foundA : Option Prg → AV
  | some x => .tup [.d (.int .i64 x.2.1), .d (.int .i64 x.2.2), .d (.int .i64 0)]
  | none => .tup [.d (.int .i64 0), .d (.int .i64 0), .d (.int .i64 5)]
theorem found_VR {L : Lo} (o : Option Prg) : VR L (foundA o) (found o) := by
  cases o <;> simp only [foundA, found, VR] <;> exact ⟨_, rfl, by simp [VRL, VR, DR]⟩
section
variable {base : Nat} {L : Lo} {H : AHeap} {w : World}
theorem prgs_at (R : Rel base L H w) {pv : AV} {zs : List Prg} {sv : Value} (h : Ms 3 H pv (zs.map pdat)) (hv : VR L pv sv) : PrgsAt w.heap.size w sv zs := by
  rcases h.2 with ⟨rfl, hz⟩ | ⟨i, ver, M, rfl, h2, h3, h4⟩
  · simp only [VR, DR] at hv
    obtain ⟨A, cap, rfl, _⟩ := hv
    exact .inl ⟨by simpa using hz, A, cap, rfl⟩
  · obtain ⟨b, c, m⟩ := R.mem _ _ _ _ _ h2
    simp only [VR] at hv
    obtain ⟨b', n', c', a, h1, rfl, g2, g3, g4⟩ := hv
    rw [m.loc] at h1
    simp only [Option.some.injEq, Prod.mk.injEq] at h1
    obtain ⟨rfl, _, rfl, rfl⟩ := h1
    rw [List.length_map] at h3 h4 g2
    by_cases h0 : zs = []
    · subst h0; exact .inl ⟨rfl, _, _, rfl⟩
    · have hpos : 0 < zs.length := List.length_pos_iff.2 h0
      have ha := g4 (by omega)
      subst ha
      refine .inr ⟨b.block, b.off, c, by simp, ?_, fun j hj => ?_⟩
      · obtain ⟨cells, t, k1, _⟩ := m.cells
        exact (Array.getElem?_eq_some_iff.1 k1).1
      · have he : M[j]? = some ((pdat (prg zs j)).map AV.d) := by
          have : (M.take zs.length)[j]? = M[j]? := List.getElem?_take_of_lt hj
          rw [← this, h3, avs, List.map_map, List.getElem?_map, List.getElem?_eq_getElem hj]
          simp [prg, hj]
        obtain ⟨c1, _⟩ := m.Cl he
        have get : ∀ (q : Nat) (d : Dat), (pdat (prg zs j))[q]? = some d → ∃ v, w.cell? ⟨b.block, b.off + j * 3 + q, none⟩ = some v ∧ DR L d v := fun q d hd => by
          obtain ⟨v, v1, v2, _⟩ := c1 q (.d d) (by rw [List.getElem?_map, hd]; rfl)
          exact ⟨v, v1, by simpa [VR] using v2⟩
        obtain ⟨v0, a0, b0⟩ := get 0 _ rfl
        obtain ⟨v1, a1, b1⟩ := get 1 _ rfl
        obtain ⟨v2, a2, b2⟩ := get 2 _ rfl
        simp only [DR] at b0 b1 b2
        subst b0 b1 b2
        exact ⟨a0, a1, a2⟩
theorem Program_c {k m : Nat} {pv : AV} {zs : List Prg} {c : ByteArray} {i : Int} {K : AV → AHeap → Prop} (hB : DB H k m pv zs) (hz : zs.length ≤ 65536) (hk : K (foundA (look c zs.reverse i)) H) :
    CallsA Try.prog 9 [.ptr k 0 0 0, .d (.str c), .d (.int .i64 i)] H K := by
  refine ⟨⟨_, Try.func9, ne_of_beq_false (by kernel_rfl), rfl⟩, fun base L w args R hv => ?_⟩
  obtain ⟨l⟩ := args
  obtain ⟨u1, u2, u3, rfl⟩ : ∃ u1 u2 u3, l = [u1, u2, u3] := by
    have := hv.length
    simp only [List.length_cons, List.length_nil] at this
    match l, this with
    | [u1, u2, u3], _ => exact ⟨u1, u2, u3, rfl⟩
  simp only [VRL, VR, DR, and_true] at hv
  obtain ⟨⟨b', sz, n, c', h1, rfl⟩, rfl, rfl⟩ := hv
  obtain ⟨b, cc, mm⟩ := R.mem _ _ _ _ _ hB.base
  have hl := mm.loc
  rw [h1] at hl
  simp only [Option.some.injEq, Prod.mk.injEq] at hl
  obtain ⟨rfl, rfl, _⟩ := hl
  have h0 := mm.orig rfl
  obtain ⟨cl, _⟩ := mm.Cl (e := 0) rfl
  obtain ⟨sv, s1, s2, _⟩ := cl 1 pv rfl
  obtain ⟨mv, m1, m2, _⟩ := cl 2 (.map m) rfl
  simp only [VR] at m2
  obtain ⟨bm, _, rfl⟩ := m2
  rw [h0] at s1 m1
  have hI := prgs_at R hB.prgs s2
  have h := prog_in Fence.wide 3 trivial trivial trivial trivial rfl (by omega) b'.block 0 bm c i zs sv (by omega) w (by simpa using m1) (by simpa using s1) hI
  rw [h0]
  refine (callsIn_wide.1 h).mono ?_
  rintro e w' ⟨rfl, hb⟩
  exact ⟨foundA (look c zs.reverse i), _, H, found_VR _, (Nx.below (p := fun _ _ => none) R hb (fun b k v h => by cases h)).imp (fun _ h => h.elim), hk⟩
end
end Go.Proofs.Ytmciomkibklokaa

/- (*Base).Program at the machine. -/
import Derived.Test.YtmciomkibklokaaM23v
import Derived.Laws.Cover3
set_option autoImplicit false
set_option linter.unusedVariables false
set_option linter.unnecessarySimpa false
namespace Go.Proofs.Ytmciomkibklokaa
open Go Go.Proofs Go.RowKit Go.Shelf
attribute [local go_sem] Oper.semAt_some

set_option maxRecDepth 100000 in
set_option maxHeartbeats 2000000 in
theorem none_in (F : Fence) (n : Nat) (h5 : F.fn 25) (hro : F.round = none) (b o : Nat) (m : Nat) (w : World) (hm : w.cell? ⟨b, o + 2, none⟩ = some (.map (some m))) :
    CallsIn F n Try.prog 25 #[.pointer (some ⟨b, o, none⟩)] w fun e w' => e = .returned (.bool false) ∧ w' = w := by
  have hb : Sem.run Try.prog (binOp .eql 53 (.map (some m)) (.map none)) w = .ok (.bool false) w := by
    have hu : Try.prog.underlying 53 = some (.map 3 9) := by kernel_rfl
    simp [binOp, go_sem, run_equal_map_nil _ 53 3 9 _ hu]
  refine callsIn_of_wp Try.func25 rfl h5 ?_ hro
  simp only [Try.ntmps25, List.size_toArray, List.length_cons, List.length_nil, Nat.reduceAdd, Nat.reduceSub, Array.replicate_succ, Array.replicate_zero, List.push_toArray, List.append_toArray, List.nil_append, List.cons_append]
  gi_wp2
  go_ret
  exact ⟨rfl, rfl⟩

theorem strEq (x y : ByteArray) : (x.toList == y.toList) = decide (x = y) := by
  rw [ByteArray.toList_eq, ByteArray.toList_eq]
  by_cases h : x = y
  · subst h; simp
  · rw [decide_eq_false h]
    cases e : x.data.toList == y.data.toList with
    | false => rfl
    | true => exact absurd (ByteArray.ext (Array.toList_inj.1 (eq_of_beq e))) h
/-- The i-th program of a creator, in the order in which they come. -/
def look (c : ByteArray) : List Prg → Int → Option Prg
  | [], _ => none
  | x :: r, s => if x.1 = c then (if wrap64 (s - 1) = 0 then some x else look c r (wrap64 (s - 1))) else look c r s
def cur (c : ByteArray) (l : List Prg) (s : Int) : Int := l.foldl (fun s x => if x.1 = c then wrap64 (s - 1) else s) s
theorem cur_snoc (c : ByteArray) (l : List Prg) (x : Prg) (s : Int) : cur c (l ++ [x]) s = if x.1 = c then wrap64 (cur c l s - 1) else cur c l s := by simp [cur]
theorem look_app (c : ByteArray) : ∀ (l r : List Prg) (s : Int), look c (l ++ r) s = (look c l s).or (look c r (cur c l s))
  | [], r, s => by simp [look, cur]
  | x :: l, r, s => by
    have ih := look_app c l r
    simp only [List.cons_append, look]
    by_cases h1 : x.1 = c
    · by_cases h2 : wrap64 (s - 1) = 0
      · simp [h1, h2]
      · simp [h1, h2, ih, cur]
    · simp [h1, ih, cur]
theorem upto_prefix (zs : List Prg) {k : Nat} (hk : k ≤ zs.length) : (upto zs zs.length k).map (·.2) = zs.reverse.take k := by
  apply List.ext_getElem
  · simp [upto, hk]
  · intro j h1 h2
    have hj : j < k := by simp [upto] at h1; exact h1
    have : zs.length - 1 - j < zs.length := by omega
    simp [upto, prg, this]
/-- A box of three cells. -/
def Box3 (W : World) (B : Nat) (x : Prg) : Prop := W.heap[B]? = some (.cells #[.string x.1, .int .i64 x.2.1, .int .i64 x.2.2] 62 (0, 0))
theorem Box3.cells {W : World} {B : Nat} {x : Prg} (h : Box3 W B x) : W.cell? ⟨B, 0, none⟩ = some (.string x.1) ∧ W.cell? ⟨B, 1, none⟩ = some (.int .i64 x.2.1) ∧ W.cell? ⟨B, 2, none⟩ = some (.int .i64 x.2.2) := by
  refine ⟨?_, ?_, ?_⟩ <;> simp [World.cell?, show W.heap[B]? = _ from h]
theorem Box3.kept {W W' : World} {row : Option Nat} {B : Nat} {x : Prg} (h : Box3 W B x) (hg : W.grownBy W' row) (hne : some B ≠ row) : Box3 W' B x := (hg.block B (Array.getElem?_eq_some_iff.1 h).1 hne).trans h
theorem box3_own {β : Type} (B : Nat) (f : β → Prg) : Own (fun s W => Box3 W B (f s)) := fun s X Y row hs hg hrow =>
  hs.kept hg (fun e' => by obtain ⟨o, ho, hc⟩ := hrow B e'.symm; rw [show X.heap[B]? = _ from hs] at ho; cases ho; cases hc)
/-- What the function knows between two rounds. -/
structure Mid (w : World) (c : ByteArray) (i : Int) (pre : List (Nat × Prg)) (W : World) : Prop where
  on : look c (pre.map (·.2)) i = none
  bC : Boxed W w.heap.size 9 (.string c)
  bI : Boxed W (w.heap.size + 1) 3 (.int .i64 (cur c (pre.map (·.2)) i))
  bN : Boxed W (w.heap.size + 1 + 1) 3 (.int .i64 0)
  bF : Boxed W (w.heap.size + 1 + 1 + 1) 3 (.int .i64 0)
  bE : Boxed W (w.heap.size + 1 + 1 + 1 + 1) 27 (.int .i64 0)
  below : Below w.heap.size w W
structure Fin (w : World) (c : ByteArray) (i : Int) (cd : Code) (pre : List (Nat × Prg)) (W : World) : Prop where
  ret : cd = .ret
  on : ∃ x, look c (pre.map (·.2)) i = some x ∧ Boxed W (w.heap.size + 1 + 1) 3 (.int .i64 x.2.1) ∧ Boxed W (w.heap.size + 1 + 1 + 1) 3 (.int .i64 x.2.2)
  bE : Boxed W (w.heap.size + 1 + 1 + 1 + 1) 27 (.int .i64 0)
  below : Below w.heap.size w W
theorem keptB {X Y : World} {row : Option Nat} {B : Nat} {t : TypeId} {v : Value} (h : Boxed X B t v) (hg : X.grownBy Y row) (hr : ∀ r, row = some r → ∃ o : Obj, X.heap[r]? = some o ∧ o.isCells = false) : Boxed Y B t v :=
  boxed_own (β := Unit) B t (fun _ => v) () X Y row h hg hr
theorem Mid.own (w : World) (c : ByteArray) (i : Int) (B : Nat) (hB : w.heap.size ≤ B) : OwnFrom B (Mid w c i) := fun s X Y row h hg hr =>
  ⟨h.on, keptB h.bC hg fun r e => (hr r e).2, keptB h.bI hg fun r e => (hr r e).2, keptB h.bN hg fun r e => (hr r e).2, keptB h.bF hg fun r e => (hr r e).2, keptB h.bE hg fun r e => (hr r e).2,
   ownFrom_below (β := Unit) (Nat.le_refl _) hB () X Y row h.below hg hr⟩
theorem Fin.own (w : World) (c : ByteArray) (i : Int) (B : Nat) (hB : w.heap.size ≤ B) (cd : Code) : OwnFrom B (Fin w c i cd) := fun s X Y row h hg hr =>
  ⟨h.ret, by obtain ⟨x, h1, h2, h3⟩ := h.on; exact ⟨x, h1, keptB h2 hg fun r e => (hr r e).2, keptB h3 hg fun r e => (hr r e).2⟩, keptB h.bE hg fun r e => (hr r e).2,
   ownFrom_below (β := Unit) (Nat.le_refl _) hB () X Y row h.below hg hr⟩
/-- What it returns. -/
def found : Option Prg → Value
  | some x => .tuple #[.int .i64 x.2.1, .int .i64 x.2.2, .int .i64 0]
  | none => .tuple #[.int .i64 0, .int .i64 0, .int .i64 5]
set_option maxRecDepth 100000 in
set_option maxHeartbeats 4000000 in
theorem prog_in (F : Fence) (n : Nat) (h9 : F.fn 9) (h25 : F.fn 25) (h29 : F.fn 29) (h59 : F.fn 59) (hro : F.round = none) (hn : 3 ≤ n) (b o m : Nat) (c : ByteArray) (i : Int) (zs : List Prg) (sv : Value) (hreach : zs.length * 32 ≤ 140737488351232) (w : World)
    (hm : w.cell? ⟨b, o + 2, none⟩ = some (.map (some m))) (hs : w.cell? ⟨b, o + 1, none⟩ = some sv) (hI : PrgsAt w.heap.size w sv zs) :
    CallsIn F n Try.prog 9 #[.pointer (some ⟨b, o, none⟩), .string c, .int .i64 i] w fun e W' => e = .returned (found (look c zs.reverse i)) ∧ Below w.heap.size w W' := by
  have h1 : 1 ≤ n := by omega
  obtain ⟨a, len, cap, rfl⟩ : ∃ a len cap, sv = .slice a len cap := by
    rcases hI with ⟨_, _, _, rfl⟩ | ⟨_, _, _, rfl, _⟩
    · exact ⟨_, _, _, rfl⟩
    · exact ⟨_, _, _, rfl⟩
  have hbl : b < w.heap.size := by
    unfold World.cell? at hm
    cases ho : w.heap[b]? with
    | none => simp [ho] at hm
    | some x => exact (Array.getElem?_eq_some_iff.1 ho).1
  obtain ⟨W5, hW5⟩ : ∃ W5, ((((w.alloc (.cells #[.string c] 9)).alloc (.cells #[.int .i64 i] 3)).alloc (.cells #[.int .i64 0] 3)).alloc (.cells #[.int .i64 0] 3)).alloc (.cells #[.int .i64 0] 27) = W5 := ⟨_, rfl⟩
  have hz5 : W5.heap.size = w.heap.size + 5 := by rw [← hW5]; simp
  have hB5 : Below w.heap.size w W5 := by
    rw [← hW5]
    exact (((((Below.refl _ w).alloc (Nat.le_refl _) _).alloc (by simp) _).alloc (by simp; omega) _).alloc (by simp; omega) _).alloc (by simp; omega) _
  have hm5 : W5.cell? ⟨b, o + 2, none⟩ = some (.map (some m)) := (hB5.cell (p := ⟨b, o + 2, none⟩) hbl).trans hm
  have hs5 : W5.cell? ⟨b, o + 1, none⟩ = some (.slice a len cap) := (hB5.cell (p := ⟨b, o + 1, none⟩) hbl).trans hs
  have bC : Boxed W5 w.heap.size 9 (.string c) := by rw [← hW5]; exact ((((Boxed.new w 9 _).alloc _).alloc _).alloc _).alloc _
  have bI : Boxed W5 (w.heap.size + 1) 3 (.int .i64 i) := by
    rw [← hW5]; have := Boxed.new (w.alloc (.cells #[.string c] 9)) 3 (.int .i64 i); rw [World.size_alloc] at this; exact ((this.alloc _).alloc _).alloc _
  have bN : Boxed W5 (w.heap.size + 1 + 1) 3 (.int .i64 0) := by
    rw [← hW5]; have := Boxed.new ((w.alloc (.cells #[.string c] 9)).alloc (.cells #[.int .i64 i] 3)) 3 (.int .i64 0); rw [World.size_alloc, World.size_alloc] at this; exact (this.alloc _).alloc _
  have bF : Boxed W5 (w.heap.size + 1 + 1 + 1) 3 (.int .i64 0) := by
    rw [← hW5]; have := Boxed.new (((w.alloc (.cells #[.string c] 9)).alloc (.cells #[.int .i64 i] 3)).alloc (.cells #[.int .i64 0] 3)) 3 (.int .i64 0); simp only [World.size_alloc] at this; exact this.alloc _
  have bE : Boxed W5 (w.heap.size + 1 + 1 + 1 + 1) 27 (.int .i64 0) := by
    rw [← hW5]; have := Boxed.new ((((w.alloc (.cells #[.string c] 9)).alloc (.cells #[.int .i64 i] 3)).alloc (.cells #[.int .i64 0] 3)).alloc (.cells #[.int .i64 0] 3)) 27 (.int .i64 0); simp only [World.size_alloc] at this; exact this
  refine callsIn_of_wp_marks Try.func9 rfl h9 ?_ hro
  simp only [Try.ntmps9, List.size_toArray, List.length_cons, List.length_nil, Nat.reduceAdd, Nat.reduceSub, Array.replicate_succ, Array.replicate_zero, List.push_toArray, List.append_toArray, List.nil_append, List.cons_append]
  gi_wp2_with (first | (gi_at_call 25; refine (none_in F (n - 1) h25 hro _ _ m _ hm5).mono ?_; rintro e w2 ⟨rfl, hw2⟩; replace hw2 := hw2.symm; subst hw2) | (gi_at_call 29; refine (back_in F (n - 1) h29 hro _ _ _ _).mono ?_; rintro e w' ⟨rfl, rfl⟩))
  have bS : Boxed (W5.alloc (.cells #[.slice a len cap] 52)) (w.heap.size + 5) 52 (.slice a len cap) := by
    have := Boxed.new W5 52 (.slice a len cap); rwa [hz5] at this
  have hB6 : Below w.heap.size w (W5.alloc (.cells #[.slice a len cap] 52)) := hB5.alloc (by omega) _
  have hz6 : (W5.alloc (.cells #[.slice a len cap] 52)).heap.size = w.heap.size + 6 := by simp [hz5]
  replace bC := bC.alloc (.cells #[.slice a len cap] 52)
  replace bI := bI.alloc (.cells #[.slice a len cap] 52)
  replace bN := bN.alloc (.cells #[.slice a len cap] 52)
  replace bF := bF.alloc (.cells #[.slice a len cap] 52)
  replace bE := bE.alloc (.cells #[.slice a len cap] 52)
  obtain ⟨W6, hW6⟩ : ∃ W6, W5.alloc (.cells #[.slice a len cap] 52) = W6 := ⟨_, rfl⟩
  rw [hW6] at bC bI bN bF bE bS hB6 hz6 ⊢
  clear hW6
  refine wpIn_rangeFunc_ownH hro h1 (gf := 59) (lb := #[.pointer (some ⟨w.heap.size + 5, 0, none⟩)]) rfl h59 (enters_of Try.func59 (by kernel_rfl) rfl)
    (back_stops F (n - 1) h59 hro (by omega) (w.heap.size + 5) w.heap.size _ zs hreach W6 (by omega) bS (hI.below hB6)) KpB.trans
    (fun W l o o' hl h hc hw => ⟨belowK_b (by omega) W l o o' hl h hc hw, fun v hv => (World.putObj_heap_other (by omega)).trans hv⟩) (Below.refl _ _) (fun _ => rfl)
    (Mid w c i) (Fin w c i) (Mid.own w c i _ (by omega)) (Fin.own w c i _ (by omega))
    ⟨rfl, bC, bI, bN, bF, bE, hB6⟩
    (fun x a' W => ∃ Bx, w.heap.size + 1 + 1 + 1 + 1 < Bx ∧ Box3 W Bx x.2 ∧ a' = { tmps := #[.pointer (some ⟨b, o, none⟩), .string c, .int .i64 i, undef, .pointer (some ⟨w.heap.size, 0, none⟩), .pointer (some ⟨w.heap.size + 1, 0, none⟩), .pointer (some ⟨w.heap.size + 1 + 1, 0, none⟩), .pointer (some ⟨w.heap.size + 1 + 1 + 1, 0, none⟩), .pointer (some ⟨w.heap.size + 1 + 1 + 1 + 1, 0, none⟩), undef, .pointer (some ⟨Bx, 0, none⟩), .pointer (some ⟨b, o, none⟩), .bool false, .pointer (some ⟨b, o, none⟩), .pointer (some ⟨b, o, none⟩), .pointer (some ⟨b, o + 1, none⟩), .slice a len cap, .func (.func 59) #[] #[.pointer (some ⟨w.heap.size + 5, 0, none⟩)], .int .i64 (x.1 : Int), encP x.2, undef, undef, undef, undef, undef, undef, undef, undef, undef, undef, undef, undef], defers := [] })
    (fun x a' _ X Y row hs hg hr => by obtain ⟨Bx, h1, h2, h3⟩ := hs; exact ⟨Bx, h1, box3_own (β := Unit) Bx (fun _ => x.2) () X Y row h2 hg (fun r e => (hr r e).2), h3⟩)
    ?assign ?body ?done ?stop
  case assign =>
    rintro l pre x W K hM hK
    dsimp only [encP]
    gi_wp2
    exact hK _ _ ((KeepsOthers.alloc _ _).from _) ⟨(Below.refl _ W).alloc hM.below.size _, fun v hv => hv.alloc _⟩ ⟨hM.on, hM.bC.alloc _, hM.bI.alloc _, hM.bN.alloc _, hM.bF.alloc _, hM.bE.alloc _, hM.below.alloc hM.below.size _⟩ ⟨W.heap.size, hM.bE.lt, World.alloc_heap_new W _, rfl⟩
  case body =>
    rintro l pre x a' W hl ⟨r, hr⟩ hM ⟨Bx, hBx, bX, rfl⟩ hlt
    obtain ⟨x1, x2, x3⟩ := bX.cells
    have cC := hM.bC.cell
    have cI := hM.bI.cell
    have fI := hM.bI.frozen
    have cN := hM.bN.cell
    have fN := hM.bN.frozen
    have cF := hM.bF.cell
    have fF := hM.bF.frozen
    have cE := hM.bE.cell
    have fE := hM.bE.frozen
    have hmx : Try.prog.follows .mixedOrders = true := by kernel_rfl
    gi_wp2
    · rename_i h1
      rw [strEq] at h1
      have hne : x.2.1 ≠ c := by simpa using h1
      exact ⟨KeepsFrom.refl _ _, KpB.refl _ _ _, ⟨by simp [look_app, hM.on, look, hne], hM.bC, by simpa [cur_snoc, hne] using hM.bI, hM.bN, hM.bF, hM.bE, hM.below⟩⟩
    · rename_i h1 h2 K0 a0
      rw [strEq] at h1
      have heq : x.2.1 = c := by simpa using h1
      have h0 : wrap64 (cur c (List.map (fun x => x.snd) pre) i - 1) = 0 := eq_of_beq h2
      have bI7 := hM.bI.set (.int .i64 (wrap64 (cur c (List.map (fun x => x.snd) pre) i - 1)))
      have bX7 : Box3 (W.setCell ⟨w.heap.size + 1, 0, none⟩ (.int .i64 (wrap64 (cur c (List.map (fun x => x.snd) pre) i - 1)))) Bx x.2 := bX.kept (grownBy_setCell' W _ _) (by intro e; cases e; omega)
      have bN7 := hM.bN.other (B' := w.heap.size + 1) (by omega) (.int .i64 (wrap64 (cur c (List.map (fun x => x.snd) pre) i - 1)))
      have bF7 := hM.bF.other (B' := w.heap.size + 1) (by omega) (.int .i64 (wrap64 (cur c (List.map (fun x => x.snd) pre) i - 1)))
      have bE7 := hM.bE.other (B' := w.heap.size + 1) (by omega) (.int .i64 (wrap64 (cur c (List.map (fun x => x.snd) pre) i - 1)))
      have hB7 := hM.below.setCell (p := ⟨w.heap.size + 1, 0, none⟩) (by simp) (.int .i64 (wrap64 (cur c (List.map (fun x => x.snd) pre) i - 1)))
      have hk7 : KeepsOthers W (W.setCell ⟨w.heap.size + 1, 0, none⟩ (.int .i64 (wrap64 (cur c (List.map (fun x => x.snd) pre) i - 1)))) := KeepsOthers.setCell _ _ _
      obtain ⟨W7, hW7⟩ : ∃ W7, W.setCell ⟨w.heap.size + 1, 0, none⟩ (.int .i64 (wrap64 (cur c (List.map (fun x => x.snd) pre) i - 1))) = W7 := ⟨_, rfl⟩
      rw [hW7] at bI7 bX7 bN7 bF7 bE7 hB7 hk7 ⊢
      clear hW7 x1 x2 x3 cC cI fI cN fN cF fF cE fE
      obtain ⟨x1, x2, x3⟩ := bX7.cells
      have cN := bN7.cell
      have fN := bN7.frozen
      have cF := bF7.cell
      have fF := bF7.frozen
      have cE := bE7.cell
      have fE := bE7.frozen
      have hlk : look c ((pre ++ [x]).map (·.2)) i = some x.2 := by simp [look_app, hM.on, look, heq, h0]
      have hkN : KeepsOthers W (((W7.setCell ⟨w.heap.size + 1 + 1, 0, none⟩ (.int .i64 x.2.2.1)).setCell ⟨w.heap.size + 1 + 1 + 1, 0, none⟩ (.int .i64 x.2.2.2)).setCell ⟨w.heap.size + 1 + 1 + 1 + 1, 0, none⟩ (.int .i64 0)).drew :=
        (((hk7.trans (KeepsOthers.setCell _ _ _)).trans (KeepsOthers.setCell _ _ _)).trans (KeepsOthers.setCell _ _ _)).trans (KeepsOthers.drew _)
      have bNN : Boxed (((W7.setCell ⟨w.heap.size + 1 + 1, 0, none⟩ (.int .i64 x.2.2.1)).setCell ⟨w.heap.size + 1 + 1 + 1, 0, none⟩ (.int .i64 x.2.2.2)).setCell ⟨w.heap.size + 1 + 1 + 1 + 1, 0, none⟩ (.int .i64 0)).drew (w.heap.size + 1 + 1) 3 (.int .i64 x.2.2.1) :=
        ((bN7.set (.int .i64 x.2.2.1)).other (by omega) _).other (by omega) _
      have bFN : Boxed (((W7.setCell ⟨w.heap.size + 1 + 1, 0, none⟩ (.int .i64 x.2.2.1)).setCell ⟨w.heap.size + 1 + 1 + 1, 0, none⟩ (.int .i64 x.2.2.2)).setCell ⟨w.heap.size + 1 + 1 + 1 + 1, 0, none⟩ (.int .i64 0)).drew (w.heap.size + 1 + 1 + 1) 3 (.int .i64 x.2.2.2) :=
        ((bF7.other (by omega) _).set (.int .i64 x.2.2.2)).other (by omega) _
      have bEN : Boxed (((W7.setCell ⟨w.heap.size + 1 + 1, 0, none⟩ (.int .i64 x.2.2.1)).setCell ⟨w.heap.size + 1 + 1 + 1, 0, none⟩ (.int .i64 x.2.2.2)).setCell ⟨w.heap.size + 1 + 1 + 1 + 1, 0, none⟩ (.int .i64 0)).drew (w.heap.size + 1 + 1 + 1 + 1) 27 (.int .i64 0) :=
        ((bE7.other (by omega) _).other (by omega) _).set (.int .i64 0)
      have hBN : Below w.heap.size w (((W7.setCell ⟨w.heap.size + 1 + 1, 0, none⟩ (.int .i64 x.2.2.1)).setCell ⟨w.heap.size + 1 + 1 + 1, 0, none⟩ (.int .i64 x.2.2.2)).setCell ⟨w.heap.size + 1 + 1 + 1 + 1, 0, none⟩ (.int .i64 0)).drew :=
        (((hB7.setCell (p := ⟨w.heap.size + 1 + 1, 0, none⟩) (by simp; omega) _).setCell (p := ⟨w.heap.size + 1 + 1 + 1, 0, none⟩) (by simp; omega) _).setCell (p := ⟨w.heap.size + 1 + 1 + 1 + 1, 0, none⟩) (by simp; omega) _).drew
      gi_region_with_o (skip)
      all_goals gi_wp2
      all_goals exact ⟨hkN.from _, ⟨rfl, ⟨x.2, hlk, bNN, bFN⟩, bEN, hBN⟩⟩
    · rename_i h1 h2
      rw [strEq] at h1
      have heq : x.2.1 = c := by simpa using h1
      have h0 : ¬ wrap64 (cur c (List.map (fun x => x.snd) pre) i - 1) = 0 := by simpa using h2
      exact ⟨(KeepsOthers.setCell _ _ _).from _, ⟨(Below.refl _ W).setCell (p := ⟨w.heap.size + 1, 0, none⟩) (by simp) _, fun v hv => hv.other (by omega) _⟩,
        ⟨by simp [look_app, hM.on, look, heq, h0], hM.bC.other (by omega) _, by rw [List.map_append, List.map_singleton, cur_snoc, if_pos heq]; exact hM.bI.set _, hM.bN.other (by omega) _, hM.bF.other (by omega) _, hM.bE.other (by omega) _, hM.below.setCell (p := ⟨w.heap.size + 1, 0, none⟩) (by simp) _⟩⟩
  case done =>
    rintro D ys W hD rfl hM hK
    have cN := hM.bN.cell
    have fN := hM.bN.frozen
    have cF := hM.bF.cell
    have fF := hM.bF.frozen
    have cE := hM.bE.cell
    have fE := hM.bE.frozen
    gi_wp2
    have hlk : look c zs.reverse i = none := by
      have := hM.on
      rw [upto_prefix zs (Nat.le_refl _), List.take_of_length_le (by simp)] at this
      exact this
    have hk1 : KeepsOthers W (((W.setCell ⟨w.heap.size + 1 + 1, 0, none⟩ (.int .i64 0)).setCell ⟨w.heap.size + 1 + 1 + 1, 0, none⟩ (.int .i64 0)).setCell ⟨w.heap.size + 1 + 1 + 1 + 1, 0, none⟩ (.int .i64 5)) :=
      ((KeepsOthers.setCell _ _ _).trans (KeepsOthers.setCell _ _ _)).trans (KeepsOthers.setCell _ _ _)
    have b1 := ((hM.bN.set (.int .i64 0)).other (B' := w.heap.size + 1 + 1 + 1) (by omega) (.int .i64 0)).other (B' := w.heap.size + 1 + 1 + 1 + 1) (by omega) (.int .i64 5)
    have b2 := ((hM.bF.other (B' := w.heap.size + 1 + 1) (by omega) (.int .i64 0)).set (.int .i64 0)).other (B' := w.heap.size + 1 + 1 + 1 + 1) (by omega) (.int .i64 5)
    have b3 := ((hM.bE.other (B' := w.heap.size + 1 + 1) (by omega) (.int .i64 0)).other (B' := w.heap.size + 1 + 1 + 1) (by omega) (.int .i64 0)).set (.int .i64 5)
    have hB3 := ((hM.below.setCell (p := ⟨w.heap.size + 1 + 1, 0, none⟩) (by simp; omega) (.int .i64 0)).setCell (p := ⟨w.heap.size + 1 + 1 + 1, 0, none⟩) (by simp; omega) (.int .i64 0)).setCell (p := ⟨w.heap.size + 1 + 1 + 1 + 1, 0, none⟩) (by simp; omega) (.int .i64 5)
    obtain ⟨W9, hW9⟩ : ∃ W9, (((W.setCell ⟨w.heap.size + 1 + 1, 0, none⟩ (.int .i64 0)).setCell ⟨w.heap.size + 1 + 1 + 1, 0, none⟩ (.int .i64 0)).setCell ⟨w.heap.size + 1 + 1 + 1 + 1, 0, none⟩ (.int .i64 5)) = W9 := ⟨_, rfl⟩
    rw [hW9] at hk1 b1 b2 b3 hB3 ⊢
    have hK9 := hk1.same D _ hK rfl
    refine ⟨by simp, .inl ⟨_, _, rfl, run_takeDeferred hK9, ?_⟩⟩
    have d1 := cell_kept b1.cell (grownBy_putObj' _ D (.deferred none)) (fun r e => by cases e; exact ⟨_, hK9, rfl⟩)
    have d2 := cell_kept b2.cell (grownBy_putObj' _ D (.deferred none)) (fun r e => by cases e; exact ⟨_, hK9, rfl⟩)
    have d3 := cell_kept b3.cell (grownBy_putObj' _ D (.deferred none)) (fun r e => by cases e; exact ⟨_, hK9, rfl⟩)
    refine ⟨found none, ?_, by rw [hlk], hB3.trans (belowK_b (w := w) (Nat.le_refl _) _ D _ _ (by omega) hK9 rfl rfl)⟩
    simp [results, Try.f9, go_sem, d1, d2, d3, found]
  case stop =>
    rintro D cd pre W hD ⟨k, hk, rfl⟩ hM hK
    obtain ⟨rfl, ⟨x, hx, bN, bF⟩, bE, hB⟩ := hM
    gi_wp2
    have hlk : look c zs.reverse i = some x := by
      rw [upto_prefix zs hk] at hx
      rw [← List.take_append_drop k zs.reverse, look_app, hx]
      rfl
    refine ⟨by simp, .inl ⟨_, _, rfl, run_takeDeferred hK, ?_⟩⟩
    have d1 := cell_kept bN.cell (grownBy_putObj' _ D (.deferred none)) (fun r e => by cases e; exact ⟨_, hK, rfl⟩)
    have d2 := cell_kept bF.cell (grownBy_putObj' _ D (.deferred none)) (fun r e => by cases e; exact ⟨_, hK, rfl⟩)
    have d3 := cell_kept bE.cell (grownBy_putObj' _ D (.deferred none)) (fun r e => by cases e; exact ⟨_, hK, rfl⟩)
    refine ⟨found (some x), ?_, by rw [hlk], hB.trans (belowK_b (w := w) (Nat.le_refl _) W D _ _ (by omega) hK rfl rfl)⟩
    simp [results, Try.f9, go_sem, d1, d2, d3, found]
end Go.Proofs.Ytmciomkibklokaa

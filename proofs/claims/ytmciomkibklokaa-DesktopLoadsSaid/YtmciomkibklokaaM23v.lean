/- slices.Backward over programs, and the function that ranges over it: at the machine. -/
import Derived.RangeFuncNested
import Derived.RangeFuncBound
import Derived.RangeFuncCalls
import Derived.RangeFuncLeaves
import Derived.Shelf.Abstract
import Derived.Shelf.RegionOpen
import Derived.WalkKit
import Derived.OwnWalkIn
import Derived.TacticsInMore
import Derived.LoopNIn
import Derived.LoopIn
import Derived.Test.YtmciomkibklokaaProg
set_option autoImplicit false
set_option linter.unusedVariables false
set_option linter.unnecessarySimpa false
namespace Go.Proofs.Ytmciomkibklokaa
open Go Go.Proofs Go.RowKit Go.Shelf
attribute [local go_sem] Oper.semAt_some

/-- A program, as its cells are. -/
abbrev Prg := ByteArray × Int × Int
def encP (x : Prg) : Value := .agg #[.string x.1, .int .i64 x.2.1, .int .i64 x.2.2]
/-- Program number j lies at cell 3 j. -/
def PrgAt (W : World) (b off : Nat) (j : Nat) (x : Prg) : Prop := W.cell? ⟨b, off + j * 3, none⟩ = some (.string x.1) ∧ W.cell? ⟨b, off + j * 3 + 1, none⟩ = some (.int .i64 x.2.1) ∧ W.cell? ⟨b, off + j * 3 + 2, none⟩ = some (.int .i64 x.2.2)
theorem PrgAt.below {n₀ : Nat} {A B : World} (h : Below n₀ A B) {b off j : Nat} {x : Prg} (hb : b < n₀) (hp : PrgAt A b off j x) : PrgAt B b off j x :=
  ⟨(h.cell (p := ⟨b, off + j * 3, none⟩) hb).trans hp.1, (h.cell (p := ⟨b, off + j * 3 + 1, none⟩) hb).trans hp.2.1, (h.cell (p := ⟨b, off + j * 3 + 2, none⟩) hb).trans hp.2.2⟩
def prg (zs : List Prg) (j : Nat) : Prg := zs[j]?.getD (ByteArray.empty, 0, 0)
/-- What has come when k rounds are over, of n. -/
def upto (zs : List Prg) (n k : Nat) : List (Nat × Prg) := (List.range k).map fun i => (n - 1 - i, prg zs (n - 1 - i))
theorem upto_succ (zs : List Prg) (n k : Nat) : upto zs n (k + 1) = upto zs n k ++ [(n - 1 - k, prg zs (n - 1 - k))] := by simp [upto, List.range_succ]
theorem upto_length (zs : List Prg) (n k : Nat) : (upto zs n k).length = k := by simp [upto]

/-- What a round keeps: what lay below n₀, and the box of the slice. -/
def KpB (n₀ Bs : Nat) (W W' : World) : Prop := Below n₀ W W' ∧ ∀ v, Boxed W Bs 52 v → Boxed W' Bs 52 v
theorem KpB.refl (n₀ Bs : Nat) (W : World) : KpB n₀ Bs W W := ⟨Below.refl _ _, fun _ h => h⟩
theorem KpB.trans {n₀ Bs : Nat} {A B C : World} (h : KpB n₀ Bs A B) (k : KpB n₀ Bs B C) : KpB n₀ Bs A C := ⟨h.1.trans k.1, fun v hv => k.2 v (h.2 v hv)⟩
set_option maxRecDepth 100000 in
set_option maxHeartbeats 2000000 in
theorem back1_in (F : Fence) (n : Nat) (h7 : F.fn 59) (hro : F.round = none) (hn : 1 ≤ n) (l Bs n₀ b off len cap : Nat) (zs : List Prg) (hreach : len * 32 ≤ 140737488351232) (hb : b < n₀) (J Jx : List (Nat × Prg) → World → Prop)
    (hY : ∀ pre (x : Nat × Prg) W, J pre W → pre.length < len → YieldAt F (n - 1) Try.prog l #[.int .i64 (x.1 : Int), encP x.2] W fun e W' =>
      (e = .returned (.bool true) ∧ J (pre ++ [x]) W' ∧ KpB n₀ Bs W W') ∨ (e = .returned (.bool false) ∧ Jx (pre ++ [x]) W'))
    (W : World) (hBs : Boxed W Bs 52 (.slice (some ⟨b, off, none⟩) len cap)) (hc : ∀ j, j < len → PrgAt W b off j (prg zs j)) (h0 : J [] W) :
    CallsIn F n Try.prog 59 #[.func (.yield l) #[] #[], .pointer (some ⟨Bs, 0, none⟩)] W fun e W' => (∃ v, e = .returned v) ∧
      ((∃ ys, ys = upto zs len len ∧ J ys W') ∨ (∃ pre, (∃ k, k ≤ len ∧ pre = upto zs len k) ∧ Jx pre W')) := by
  have hB0 := hBs.cell
  refine callsIn_of_wp Try.func59 rfl h7 ?_ hro
  simp only [Try.ntmps59, List.size_toArray, List.length_cons, List.length_nil, Nat.reduceAdd, Nat.reduceSub, Array.replicate_succ, Array.replicate_zero, List.push_toArray, List.append_toArray, List.nil_append, List.cons_append]
  gi_wp2
  gi_loopw [3] (fun i wr => ∃ m : Nat, m ≤ len ∧ i = .int .i64 ((m : Int) - 1) ∧ J (upto zs len (len - m)) wr ∧ KpB n₀ Bs W wr)
    (fun i _ => (intOf i + 1).toNat)
  case atStart => exact ⟨len, Nat.le_refl _, rfl, by simpa [upto] using h0, KpB.refl _ _ _⟩
  case round =>
    obtain ⟨m, hm, rfl, hJs, hnx⟩ := hrel
    have hBx : wr.cell? ⟨Bs, 0, none⟩ = some (.slice (some ⟨b, off, none⟩) len cap) := (hnx.2 _ hBs).cell
    cases m with
    | succ k =>
      have he : ((k + 1 : Nat) : Int) - 1 = (k : Int) := by omega
      rw [he]
      have hlt : k < len := by omega
      obtain ⟨fn, tmps, assign, body, hy, hR⟩ := hY _ (k, prg zs k) wr hJs (by rw [upto_length]; omega)
      obtain ⟨c1, c2, c3⟩ := PrgAt.below hnx.1 hb (hc k hlt)
      dsimp only [encP] at hy
      gi_wp2
      refine hR.mono ?_
      have hup : upto zs len (len - k) = upto zs len (len - (k + 1)) ++ [(k, prg zs k)] := by
        have := upto_succ zs len (len - (k + 1))
        rw [show len - (k + 1) + 1 = len - k from by omega, show len - 1 - (len - (k + 1)) = k from by omega] at this
        exact this
      rintro e W3 (⟨rfl, hJ3, hk3⟩ | ⟨rfl, hJx3⟩)
      · gi_wp2
        go_roundw
        case rel => exact ⟨k, by omega, by simp, by rw [hup]; exact hJ3, hnx.trans hk3⟩
        case measure => simp [intOf]
      · gi_wp2
        refine bodyPost_ret (results_none rfl _ _ _) rfl ?_
        exact ⟨⟨_, rfl⟩, .inr ⟨_, ⟨len - k, by omega, hup.symm⟩, hJx3⟩⟩
    | zero =>
      gi_wp2
      go_end0
      exact ⟨⟨_, rfl⟩, .inl ⟨_, rfl, by simpa using hJs⟩⟩

set_option maxRecDepth 100000 in
set_option maxHeartbeats 1000000 in
theorem back1_nil_in (F : Fence) (n : Nat) (h7 : F.fn 59) (hro : F.round = none) (l Bs : Nat) (J : List (Nat × Prg) → World → Prop) (W : World) (A : Option Addr) (cap : Nat) (hBs : Boxed W Bs 52 (.slice A 0 cap)) (h0 : J [] W) :
    CallsIn F n Try.prog 59 #[.func (.yield l) #[] #[], .pointer (some ⟨Bs, 0, none⟩)] W fun e W' => (∃ v, e = .returned v) ∧ J [] W' := by
  have hB0 := hBs.cell
  refine callsIn_of_wp Try.func59 rfl h7 ?_ hro
  simp only [Try.ntmps59, List.size_toArray, List.length_cons, List.length_nil, Nat.reduceAdd, Nat.reduceSub, Array.replicate_succ, Array.replicate_zero, List.push_toArray, List.append_toArray, List.nil_append, List.cons_append]
  gi_wp2
  gi_loopw [3] (fun i wr => i = .int .i64 (-1) ∧ J [] wr) (fun _ _ => 0)
  case atStart => exact ⟨rfl, h0⟩
  case round =>
    obtain ⟨rfl, hJs⟩ := hrel
    gi_wp2
    go_end0
    exact ⟨⟨_, rfl⟩, hJs⟩

set_option maxHeartbeats 1000000 in
theorem back_in (F : Fence) (n : Nat) (h5 : F.fn 29) (hro : F.round = none) (a : Option Addr) (len cap : Nat) (w : World) :
    CallsIn F n Try.prog 29 #[.slice a len cap] w fun e w' => e = .returned (.func (.func 59) #[] #[.pointer (some ⟨w.heap.size, 0, none⟩)]) ∧ w' = w.alloc (.cells #[.slice a len cap] 52) := by
  refine callsIn_of_wp Try.func29 rfl h5 ?_ hro
  simp only [Try.ntmps29, List.size_toArray, List.length_cons, List.length_nil, Nat.reduceAdd, Nat.reduceSub, Array.replicate_succ, Array.replicate_zero, List.push_toArray, List.append_toArray, List.nil_append, List.cons_append]
  gi_wp2
  go_ret
  exact ⟨rfl, rfl⟩

/-- A slice value holds the programs zs. -/
def PrgsAt (n₀ : Nat) (W : World) (sv : Value) (zs : List Prg) : Prop :=
  (zs = [] ∧ ∃ A cap, sv = .slice A 0 cap) ∨ ∃ b off cap, sv = .slice (some ⟨b, off, none⟩) zs.length cap ∧ b < n₀ ∧ ∀ j, j < zs.length → PrgAt W b off j (prg zs j)
theorem PrgsAt.below {n₀ : Nat} {A B : World} (h : Below n₀ A B) {sv : Value} {zs : List Prg} : PrgsAt n₀ A sv zs → PrgsAt n₀ B sv zs
  | .inl e => .inl e
  | .inr ⟨b, off, cap, e, hb, hc⟩ => .inr ⟨b, off, cap, e, hb, fun j hj => PrgAt.below h hb (hc j hj)⟩
theorem back_stops (F : Fence) (n : Nat) (h8 : F.fn 59) (hro : F.round = none) (hn : 1 ≤ n) (Bs n₀ : Nat) (sv : Value) (zs : List Prg) (hreach : zs.length * 32 ≤ 140737488351232) (w : World) (hn₀ : n₀ ≤ w.heap.size)
    (hc : Boxed w Bs 52 sv) (hI : PrgsAt n₀ w sv zs) :
    SeqStopsK F n Try.prog 59 #[.pointer (some ⟨Bs, 0, none⟩)] (fun x : Nat × Prg => #[Value.int .i64 (x.1 : Int), encP x.2]) (KpB n₀ Bs) (fun ys => ys = upto zs zs.length zs.length)
      (fun pre => ∃ k, k ≤ zs.length ∧ pre = upto zs zs.length k) zs.length w := fun l J Jx W hW _ _ hY h0 => by
  have hc' : Boxed W Bs 52 sv := (hW.block Bs hc.lt).trans hc
  rcases hI.below (hW.mono hn₀) with ⟨rfl, A, cap, rfl⟩ | ⟨b, off, cap, rfl, hb, hcs⟩
  · exact (back1_nil_in F n h8 hro l Bs J W A cap hc' h0).mono fun e W' ⟨he, hj⟩ => ⟨he, .inl ⟨_, rfl, hj⟩⟩
  · exact back1_in F n h8 hro hn l Bs n₀ b off zs.length cap zs hreach hb J Jx hY W hc' hcs h0
end Go.Proofs.Ytmciomkibklokaa

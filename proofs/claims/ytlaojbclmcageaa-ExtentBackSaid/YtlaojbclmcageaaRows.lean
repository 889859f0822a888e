/-
  No cell of these rows narrows 'for every input' (looked for: loops, veiled, ifaces, maps, wideKeys, modest, calm, conditions, laid).
  DERIVED. THE GIVEN ROWS OF THIS SEAT. 9 by the template 'for every input the law returns true; each argument reads behind the call as it read before'; 0 by the template 'total and deterministic' (their statements: YtlaojbclmcageaaTotals.lean).
  GIVEN WITH THE SEED: the statements are not yours to turn. If you find one false, say at which input.
  Laid BY PROGRAM, IN A SANDBOX (cutbox-rows.mjs): the forced cells as the released guide's own fill.sh prints them over the translation c934c271348e5fea… (all of the seat's roots in one cut). By AI agents, Wed Nov 11 2026. No macro, syntax, notation, axiom, sorry.
-/
import Derived.Test.YtlaojbclmcageaaChecked
import GoSem.Claim
import GoSem.ClaimJoined
import GoSem.ClaimMapViews
import Derived.JoinedTies
import Derived.KernelRfl
namespace Go.Proofs.Ytlaojbclmcageaa
/- THE CELL 'sum', in the pinned program and in every row, IS THE sha256 OF THE DUMP (.gsa) THAT YtlaojbclmcageaaProg.lean LOADS. Nothing in Lean hashes anything: it is a label: what it is worth is what the hold of that sum in a sandbox is worth. -/
noncomputable def Try.pinned : Pinned := { name := "ytlaojbclmcageaa", sum := "c934c271348e5feab626089f429dc24298bff327fc060ba97f8f555edaad8648", checked := Try.checked }
namespace Rows
def none {H : Type} : Left H := { results := [], args := [] }

/-- 'tithinglaw15.ExtentAllots': WHATEVER THE INPUT: true; the input reads as it did. -/
def extentAllotsSpec : ChangeSpec := { name := "extentAllots", fn := fun _ => fun
  | [d1, d2] => { results := [.lit (.bool true)], args := [d1, d2] }
  | _ => none }
def extentAllotsRow : OpenClaim := { program := "ytlaojbclmcageaa", sum := "c934c271348e5feab626089f429dc24298bff327fc060ba97f8f555edaad8648", func := "tithing/tithinglaw15.ExtentAllots", spec := "extentAllots", unfollowed := true, recurses := true, apart := false }
def ExtentAllotsSaid : Prop := extentAllotsRow.holds Try.pinned (OpenSpec.ofChange extentAllotsSpec)

/-- ITS FALSE NEIGHBOUR: 'it returns false'. Refute it at one input. -/
def extentAllotsWrong : ChangeSpec := { name := "extentAllots", fn := fun _ => fun
  | [d1, d2] => { results := [.lit (.bool false)], args := [d1, d2] }
  | _ => none }
def ExtentAllotsWrongFalsely : Prop := extentAllotsRow.holds Try.pinned (OpenSpec.ofChange extentAllotsWrong)

/-- 'tithinglaw15.ExtentOf': WHATEVER THE INPUT: true; the input reads as it did. -/
def extentOfSpec : ChangeSpec := { name := "extentOf", fn := fun _ => fun
  | [d] => { results := [.lit (.bool true)], args := [d] }
  | _ => none }
def extentOfRow : OpenClaim := { program := "ytlaojbclmcageaa", sum := "c934c271348e5feab626089f429dc24298bff327fc060ba97f8f555edaad8648", func := "tithing/tithinglaw15.ExtentOf", spec := "extentOf", unfollowed := true, recurses := true, apart := false }
def ExtentOfSaid : Prop := extentOfRow.holds Try.pinned (OpenSpec.ofChange extentOfSpec)

/-- ITS FALSE NEIGHBOUR: 'it returns false'. Refute it at one input. -/
def extentOfWrong : ChangeSpec := { name := "extentOf", fn := fun _ => fun
  | [d] => { results := [.lit (.bool false)], args := [d] }
  | _ => none }
def ExtentOfWrongFalsely : Prop := extentOfRow.holds Try.pinned (OpenSpec.ofChange extentOfWrong)

/-- 'tithinglaw15.ExtentMarks': WHATEVER THE INPUT: true; the input reads as it did. -/
def extentMarksSpec : ChangeSpec := { name := "extentMarks", fn := fun _ => fun
  | [d1, d2] => { results := [.lit (.bool true)], args := [d1, d2] }
  | _ => none }
def extentMarksRow : OpenClaim := { program := "ytlaojbclmcageaa", sum := "c934c271348e5feab626089f429dc24298bff327fc060ba97f8f555edaad8648", func := "tithing/tithinglaw15.ExtentMarks", spec := "extentMarks", unfollowed := true, recurses := true, apart := false }
def ExtentMarksSaid : Prop := extentMarksRow.holds Try.pinned (OpenSpec.ofChange extentMarksSpec)

/-- ITS FALSE NEIGHBOUR: 'it returns false'. Refute it at one input. -/
def extentMarksWrong : ChangeSpec := { name := "extentMarks", fn := fun _ => fun
  | [d1, d2] => { results := [.lit (.bool false)], args := [d1, d2] }
  | _ => none }
def ExtentMarksWrongFalsely : Prop := extentMarksRow.holds Try.pinned (OpenSpec.ofChange extentMarksWrong)

/-- 'tithinglaw15.ExtentGrows': WHATEVER THE INPUT: true; the input reads as it did. -/
def extentGrowsSpec : ChangeSpec := { name := "extentGrows", fn := fun _ => fun
  | [d1, d2, d3] => { results := [.lit (.bool true)], args := [d1, d2, d3] }
  | _ => none }
def extentGrowsRow : OpenClaim := { program := "ytlaojbclmcageaa", sum := "c934c271348e5feab626089f429dc24298bff327fc060ba97f8f555edaad8648", func := "tithing/tithinglaw15.ExtentGrows", spec := "extentGrows", unfollowed := true, recurses := true, apart := false }
def ExtentGrowsSaid : Prop := extentGrowsRow.holds Try.pinned (OpenSpec.ofChange extentGrowsSpec)

/-- ITS FALSE NEIGHBOUR: 'it returns false'. Refute it at one input. -/
def extentGrowsWrong : ChangeSpec := { name := "extentGrows", fn := fun _ => fun
  | [d1, d2, d3] => { results := [.lit (.bool false)], args := [d1, d2, d3] }
  | _ => none }
def ExtentGrowsWrongFalsely : Prop := extentGrowsRow.holds Try.pinned (OpenSpec.ofChange extentGrowsWrong)

/-- 'tithinglaw15.ExtentFree': WHATEVER THE INPUT: true; the input reads as it did. -/
def extentFreeSpec : ChangeSpec := { name := "extentFree", fn := fun _ => fun
  | [d1, d2] => { results := [.lit (.bool true)], args := [d1, d2] }
  | _ => none }
def extentFreeRow : OpenClaim := { program := "ytlaojbclmcageaa", sum := "c934c271348e5feab626089f429dc24298bff327fc060ba97f8f555edaad8648", func := "tithing/tithinglaw15.ExtentFree", spec := "extentFree", unfollowed := true, recurses := true, apart := false }
def ExtentFreeSaid : Prop := extentFreeRow.holds Try.pinned (OpenSpec.ofChange extentFreeSpec)

/-- ITS FALSE NEIGHBOUR: 'it returns false'. Refute it at one input. -/
def extentFreeWrong : ChangeSpec := { name := "extentFree", fn := fun _ => fun
  | [d1, d2] => { results := [.lit (.bool false)], args := [d1, d2] }
  | _ => none }
def ExtentFreeWrongFalsely : Prop := extentFreeRow.holds Try.pinned (OpenSpec.ofChange extentFreeWrong)

/-- 'tithinglaw15.ExtentLists': WHATEVER THE INPUT: true; the input reads as it did. -/
def extentListsSpec : ChangeSpec := { name := "extentLists", fn := fun _ => fun
  | [d1, d2, d3] => { results := [.lit (.bool true)], args := [d1, d2, d3] }
  | _ => none }
def extentListsRow : OpenClaim := { program := "ytlaojbclmcageaa", sum := "c934c271348e5feab626089f429dc24298bff327fc060ba97f8f555edaad8648", func := "tithing/tithinglaw15.ExtentLists", spec := "extentLists", unfollowed := true, recurses := true, apart := false }
def ExtentListsSaid : Prop := extentListsRow.holds Try.pinned (OpenSpec.ofChange extentListsSpec)

/-- ITS FALSE NEIGHBOUR: 'it returns false'. Refute it at one input. -/
def extentListsWrong : ChangeSpec := { name := "extentLists", fn := fun _ => fun
  | [d1, d2, d3] => { results := [.lit (.bool false)], args := [d1, d2, d3] }
  | _ => none }
def ExtentListsWrongFalsely : Prop := extentListsRow.holds Try.pinned (OpenSpec.ofChange extentListsWrong)

/-- 'tithinglaw15.ExtentPacks': WHATEVER THE INPUT: true; the input reads as it did. -/
def extentPacksSpec : ChangeSpec := { name := "extentPacks", fn := fun _ => fun
  | [d1, d2, d3] => { results := [.lit (.bool true)], args := [d1, d2, d3] }
  | _ => none }
def extentPacksRow : OpenClaim := { program := "ytlaojbclmcageaa", sum := "c934c271348e5feab626089f429dc24298bff327fc060ba97f8f555edaad8648", func := "tithing/tithinglaw15.ExtentPacks", spec := "extentPacks", unfollowed := true, recurses := true, apart := false }
def ExtentPacksSaid : Prop := extentPacksRow.holds Try.pinned (OpenSpec.ofChange extentPacksSpec)

/-- ITS FALSE NEIGHBOUR: 'it returns false'. Refute it at one input. -/
def extentPacksWrong : ChangeSpec := { name := "extentPacks", fn := fun _ => fun
  | [d1, d2, d3] => { results := [.lit (.bool false)], args := [d1, d2, d3] }
  | _ => none }
def ExtentPacksWrongFalsely : Prop := extentPacksRow.holds Try.pinned (OpenSpec.ofChange extentPacksWrong)

/-- 'tithinglaw15.ExtentCuts': WHATEVER THE INPUT: true; the input reads as it did. -/
def extentCutsSpec : ChangeSpec := { name := "extentCuts", fn := fun _ => fun
  | [d1, d2, d3] => { results := [.lit (.bool true)], args := [d1, d2, d3] }
  | _ => none }
def extentCutsRow : OpenClaim := { program := "ytlaojbclmcageaa", sum := "c934c271348e5feab626089f429dc24298bff327fc060ba97f8f555edaad8648", func := "tithing/tithinglaw15.ExtentCuts", spec := "extentCuts", unfollowed := true, recurses := true, apart := false }
def ExtentCutsSaid : Prop := extentCutsRow.holds Try.pinned (OpenSpec.ofChange extentCutsSpec)

/-- ITS FALSE NEIGHBOUR: 'it returns false'. Refute it at one input. -/
def extentCutsWrong : ChangeSpec := { name := "extentCuts", fn := fun _ => fun
  | [d1, d2, d3] => { results := [.lit (.bool false)], args := [d1, d2, d3] }
  | _ => none }
def ExtentCutsWrongFalsely : Prop := extentCutsRow.holds Try.pinned (OpenSpec.ofChange extentCutsWrong)

/-- 'tithinglaw15.ExtentBack': WHATEVER THE INPUT: true; the input reads as it did. -/
def extentBackSpec : ChangeSpec := { name := "extentBack", fn := fun _ => fun
  | [d1, d2, d3] => { results := [.lit (.bool true)], args := [d1, d2, d3] }
  | _ => none }
def extentBackRow : OpenClaim := { program := "ytlaojbclmcageaa", sum := "c934c271348e5feab626089f429dc24298bff327fc060ba97f8f555edaad8648", func := "tithing/tithinglaw15.ExtentBack", spec := "extentBack", unfollowed := true, recurses := true, apart := false }
def ExtentBackSaid : Prop := extentBackRow.holds Try.pinned (OpenSpec.ofChange extentBackSpec)

/-- ITS FALSE NEIGHBOUR: 'it returns false'. Refute it at one input. -/
def extentBackWrong : ChangeSpec := { name := "extentBack", fn := fun _ => fun
  | [d1, d2, d3] => { results := [.lit (.bool false)], args := [d1, d2, d3] }
  | _ => none }
def ExtentBackWrongFalsely : Prop := extentBackRow.holds Try.pinned (OpenSpec.ofChange extentBackWrong)

/- THE SECOND FORM. 'bulk': how many values and letters a reading holds, each counted each time it is reached (what is shared counts as often as it is met; a slice's spare places count too). A statement '..UptoSaid' is the law's where the arguments, and the package variables that the reading takes, are together of bulk at most 1048576: NARROWER than '..Said'. Prove '..Said' where nothing that the law and all that it calls make is longer than what came in: it says more and counts as full. Else prove '..UptoSaid'. A law counts once. -/
mutual
def uptoBulk {H : Type} : DataW H → Nat
  | .lit (.string bytes) => bytes.length + 1
  | .lit _ => 1
  | .nil => 1
  | .ptr d => uptoBulk d + 1
  | .slice elems spare => uptoBulkAll elems + uptoBulkAll spare + 1
  | .agg parts => uptoBulkAll parts + 1
  | .iface _ d => uptoBulk d + 1
  | .map entries => uptoBulkEntries entries + 1
  | .held _ => 1
def uptoBulkAll {H : Type} : List (DataW H) → Nat
  | [] => 0
  | d :: r => uptoBulk d + uptoBulkAll r
def uptoBulkEntries {H : Type} : List (Lit × DataW H) → Nat
  | [] => 0
  | x :: r => uptoBulkEntry x + uptoBulkEntries r
def uptoBulkEntry {H : Type} : Lit × DataW H → Nat
  | (.string bytes, d) => bytes.length + uptoBulk d + 1
  | (_, d) => uptoBulk d + 1
 end
def uptoSmall : (H : Type) → List (DataW H) → Bool := fun _ ds => decide (uptoBulkAll ds ≤ 1048576)
def OpenSpec.upto (s : _root_.Go.ChangeSpec) : _root_.Go.OpenSpec := { _root_.Go.OpenSpec.ofChange s with cond := some uptoSmall }

/-- 'tithinglaw15.ExtentAllots', WHERE WHAT IT READS IS OF BULK AT MOST 1048576: true; the input reads as it did. -/
def extentAllotsUptoRow : OpenClaim := { program := "ytlaojbclmcageaa", sum := "c934c271348e5feab626089f429dc24298bff327fc060ba97f8f555edaad8648", func := "tithing/tithinglaw15.ExtentAllots", spec := "extentAllots", unfollowed := true, recurses := true, apart := false, narrowed := true }
def ExtentAllotsUptoSaid : Prop := extentAllotsUptoRow.holds Try.pinned (OpenSpec.upto extentAllotsSpec)

/-- 'tithinglaw15.ExtentOf', WHERE WHAT IT READS IS OF BULK AT MOST 1048576: true; the input reads as it did. -/
def extentOfUptoRow : OpenClaim := { program := "ytlaojbclmcageaa", sum := "c934c271348e5feab626089f429dc24298bff327fc060ba97f8f555edaad8648", func := "tithing/tithinglaw15.ExtentOf", spec := "extentOf", unfollowed := true, recurses := true, apart := false, narrowed := true }
def ExtentOfUptoSaid : Prop := extentOfUptoRow.holds Try.pinned (OpenSpec.upto extentOfSpec)

/-- 'tithinglaw15.ExtentMarks', WHERE WHAT IT READS IS OF BULK AT MOST 1048576: true; the input reads as it did. -/
def extentMarksUptoRow : OpenClaim := { program := "ytlaojbclmcageaa", sum := "c934c271348e5feab626089f429dc24298bff327fc060ba97f8f555edaad8648", func := "tithing/tithinglaw15.ExtentMarks", spec := "extentMarks", unfollowed := true, recurses := true, apart := false, narrowed := true }
def ExtentMarksUptoSaid : Prop := extentMarksUptoRow.holds Try.pinned (OpenSpec.upto extentMarksSpec)

/-- 'tithinglaw15.ExtentGrows', WHERE WHAT IT READS IS OF BULK AT MOST 1048576: true; the input reads as it did. -/
def extentGrowsUptoRow : OpenClaim := { program := "ytlaojbclmcageaa", sum := "c934c271348e5feab626089f429dc24298bff327fc060ba97f8f555edaad8648", func := "tithing/tithinglaw15.ExtentGrows", spec := "extentGrows", unfollowed := true, recurses := true, apart := false, narrowed := true }
def ExtentGrowsUptoSaid : Prop := extentGrowsUptoRow.holds Try.pinned (OpenSpec.upto extentGrowsSpec)

/-- 'tithinglaw15.ExtentFree', WHERE WHAT IT READS IS OF BULK AT MOST 1048576: true; the input reads as it did. -/
def extentFreeUptoRow : OpenClaim := { program := "ytlaojbclmcageaa", sum := "c934c271348e5feab626089f429dc24298bff327fc060ba97f8f555edaad8648", func := "tithing/tithinglaw15.ExtentFree", spec := "extentFree", unfollowed := true, recurses := true, apart := false, narrowed := true }
def ExtentFreeUptoSaid : Prop := extentFreeUptoRow.holds Try.pinned (OpenSpec.upto extentFreeSpec)

/-- 'tithinglaw15.ExtentLists', WHERE WHAT IT READS IS OF BULK AT MOST 1048576: true; the input reads as it did. -/
def extentListsUptoRow : OpenClaim := { program := "ytlaojbclmcageaa", sum := "c934c271348e5feab626089f429dc24298bff327fc060ba97f8f555edaad8648", func := "tithing/tithinglaw15.ExtentLists", spec := "extentLists", unfollowed := true, recurses := true, apart := false, narrowed := true }
def ExtentListsUptoSaid : Prop := extentListsUptoRow.holds Try.pinned (OpenSpec.upto extentListsSpec)

/-- 'tithinglaw15.ExtentPacks', WHERE WHAT IT READS IS OF BULK AT MOST 1048576: true; the input reads as it did. -/
def extentPacksUptoRow : OpenClaim := { program := "ytlaojbclmcageaa", sum := "c934c271348e5feab626089f429dc24298bff327fc060ba97f8f555edaad8648", func := "tithing/tithinglaw15.ExtentPacks", spec := "extentPacks", unfollowed := true, recurses := true, apart := false, narrowed := true }
def ExtentPacksUptoSaid : Prop := extentPacksUptoRow.holds Try.pinned (OpenSpec.upto extentPacksSpec)

/-- 'tithinglaw15.ExtentCuts', WHERE WHAT IT READS IS OF BULK AT MOST 1048576: true; the input reads as it did. -/
def extentCutsUptoRow : OpenClaim := { program := "ytlaojbclmcageaa", sum := "c934c271348e5feab626089f429dc24298bff327fc060ba97f8f555edaad8648", func := "tithing/tithinglaw15.ExtentCuts", spec := "extentCuts", unfollowed := true, recurses := true, apart := false, narrowed := true }
def ExtentCutsUptoSaid : Prop := extentCutsUptoRow.holds Try.pinned (OpenSpec.upto extentCutsSpec)

/-- 'tithinglaw15.ExtentBack', WHERE WHAT IT READS IS OF BULK AT MOST 1048576: true; the input reads as it did. -/
def extentBackUptoRow : OpenClaim := { program := "ytlaojbclmcageaa", sum := "c934c271348e5feab626089f429dc24298bff327fc060ba97f8f555edaad8648", func := "tithing/tithinglaw15.ExtentBack", spec := "extentBack", unfollowed := true, recurses := true, apart := false, narrowed := true }
def ExtentBackUptoSaid : Prop := extentBackUptoRow.holds Try.pinned (OpenSpec.upto extentBackSpec)

end Rows
end Go.Proofs.Ytlaojbclmcageaa

/-
  No cell of these rows narrows 'for every input' (looked for: loops, veiled, ifaces, maps, wideKeys, modest, calm, conditions, laid).
  DERIVED. THE GIVEN ROWS OF THIS SEAT. 3 by the template 'for every input the law returns true; each argument reads behind the call as it read before'; 0 by the template 'total and deterministic' (their statements: YtmciomkibklokaaTotals.lean).
  GIVEN WITH THE SEED: the statements are not yours to turn. If you find one false, say at which input.
  Laid BY PROGRAM, IN A SANDBOX (cutbox-rows.mjs): the forced cells as the released guide's own fill.sh prints them over the translation 8805714882d7250b… (all of the seat's roots in one cut). By AI agents, Wed Nov 11 2026. No macro, syntax, notation, axiom, sorry.
-/
import Derived.Test.YtmciomkibklokaaChecked
import GoSem.Claim
import GoSem.ClaimJoined
import GoSem.ClaimMapViews
import Derived.JoinedTies
import Derived.KernelRfl
namespace Go.Proofs.Ytmciomkibklokaa
/- THE CELL 'sum', in the pinned program and in every row, IS THE sha256 OF THE DUMP (.gsa) THAT YtmciomkibklokaaProg.lean LOADS. Nothing in Lean hashes anything: it is a label: what it is worth is what the hold of that sum in a sandbox is worth. -/
noncomputable def Try.pinned : Pinned := { name := "ytmciomkibklokaa", sum := "8805714882d7250b4774048fe6e731dc59b3d4eef1d3a9b7f89a7ca134132cd4", checked := Try.checked }
namespace Rows
def none {H : Type} : Left H := { results := [], args := [] }

/-- 'tithinglaw23.DesktopLatest': WHATEVER THE INPUT: true; the input reads as it did. -/
def desktopLatestSpec : ChangeSpec := { name := "desktopLatest", fn := fun _ => fun
  | [d1, d2] => { results := [.lit (.bool true)], args := [d1, d2] }
  | _ => none }
def desktopLatestRow : OpenClaim := { program := "ytmciomkibklokaa", sum := "8805714882d7250b4774048fe6e731dc59b3d4eef1d3a9b7f89a7ca134132cd4", func := "tithing/tithinglaw23.DesktopLatest", spec := "desktopLatest", unfollowed := true, recurses := true, apart := false }
def DesktopLatestSaid : Prop := desktopLatestRow.holds Try.pinned (OpenSpec.ofChange desktopLatestSpec)

/-- ITS FALSE NEIGHBOUR: 'it returns false'. Refute it at one input. -/
def desktopLatestWrong : ChangeSpec := { name := "desktopLatest", fn := fun _ => fun
  | [d1, d2] => { results := [.lit (.bool false)], args := [d1, d2] }
  | _ => none }
def DesktopLatestWrongFalsely : Prop := desktopLatestRow.holds Try.pinned (OpenSpec.ofChange desktopLatestWrong)

/-- 'tithinglaw23.DesktopLoads': WHATEVER THE INPUT: true; the input reads as it did. -/
def desktopLoadsSpec : ChangeSpec := { name := "desktopLoads", fn := fun _ => fun
  | [d] => { results := [.lit (.bool true)], args := [d] }
  | _ => none }
def desktopLoadsRow : OpenClaim := { program := "ytmciomkibklokaa", sum := "8805714882d7250b4774048fe6e731dc59b3d4eef1d3a9b7f89a7ca134132cd4", func := "tithing/tithinglaw23.DesktopLoads", spec := "desktopLoads", unfollowed := true, recurses := true, apart := false }
def DesktopLoadsSaid : Prop := desktopLoadsRow.holds Try.pinned (OpenSpec.ofChange desktopLoadsSpec)

/-- ITS FALSE NEIGHBOUR: 'it returns false'. Refute it at one input. -/
def desktopLoadsWrong : ChangeSpec := { name := "desktopLoads", fn := fun _ => fun
  | [d] => { results := [.lit (.bool false)], args := [d] }
  | _ => none }
def DesktopLoadsWrongFalsely : Prop := desktopLoadsRow.holds Try.pinned (OpenSpec.ofChange desktopLoadsWrong)

/-- 'tithinglaw23.DesktopNils': WHATEVER THE INPUT: true; the input reads as it did. -/
def desktopNilsSpec : ChangeSpec := { name := "desktopNils", fn := fun _ => fun
  | [d1, d2] => { results := [.lit (.bool true)], args := [d1, d2] }
  | _ => none }
def desktopNilsRow : OpenClaim := { program := "ytmciomkibklokaa", sum := "8805714882d7250b4774048fe6e731dc59b3d4eef1d3a9b7f89a7ca134132cd4", func := "tithing/tithinglaw23.DesktopNils", spec := "desktopNils", inPlace := ["maps.clone"], unfollowed := true, recurses := true, apart := false }
def DesktopNilsSaid : Prop := desktopNilsRow.holds Try.pinned (OpenSpec.ofChange desktopNilsSpec)

/-- ITS FALSE NEIGHBOUR: 'it returns false'. Refute it at one input. -/
def desktopNilsWrong : ChangeSpec := { name := "desktopNils", fn := fun _ => fun
  | [d1, d2] => { results := [.lit (.bool false)], args := [d1, d2] }
  | _ => none }
def DesktopNilsWrongFalsely : Prop := desktopNilsRow.holds Try.pinned (OpenSpec.ofChange desktopNilsWrong)

/- THE SECOND FORM. 'bulk': how many values and letters a reading holds, each counted each time it is reached (what is shared counts as often as it is met; a slice's spare places count too). A statement '..UptoSaid' is the law's where the arguments, and the package variables that the reading takes, are together of bulk at most 1048576: NARROWER than '..Said'. Prove '..Said' where nothing that the law and all that it calls make is longer than what came in: it says more and counts as full. Else prove '..UptoSaid'. A law counts once. -/
mutual
def uptoBulk {H : Type} : DataW H → Nat
  | .lit (.string bytes) => bytes.length + 1
  | .lit _ => 1
  | .nil => 1
  | .ptr d => uptoBulk d + 1
  | .slice elems spare => uptoBulkAll elems + uptoBulkAll spare + 1
  | .agg parts => uptoBulkAll parts + 1
  | .iface _ d => uptoBulk d + 1
  | .map entries => uptoBulkEntries entries + 1
  | .held _ => 1
def uptoBulkAll {H : Type} : List (DataW H) → Nat
  | [] => 0
  | d :: r => uptoBulk d + uptoBulkAll r
def uptoBulkEntries {H : Type} : List (Lit × DataW H) → Nat
  | [] => 0
  | x :: r => uptoBulkEntry x + uptoBulkEntries r
def uptoBulkEntry {H : Type} : Lit × DataW H → Nat
  | (.string bytes, d) => bytes.length + uptoBulk d + 1
  | (_, d) => uptoBulk d + 1
 end
def uptoSmall : (H : Type) → List (DataW H) → Bool := fun _ ds => decide (uptoBulkAll ds ≤ 1048576)
def OpenSpec.upto (s : _root_.Go.ChangeSpec) : _root_.Go.OpenSpec := { _root_.Go.OpenSpec.ofChange s with cond := some uptoSmall }

/-- 'tithinglaw23.DesktopLatest', WHERE WHAT IT READS IS OF BULK AT MOST 1048576: true; the input reads as it did. -/
def desktopLatestUptoRow : OpenClaim := { program := "ytmciomkibklokaa", sum := "8805714882d7250b4774048fe6e731dc59b3d4eef1d3a9b7f89a7ca134132cd4", func := "tithing/tithinglaw23.DesktopLatest", spec := "desktopLatest", unfollowed := true, recurses := true, apart := false, narrowed := true }
def DesktopLatestUptoSaid : Prop := desktopLatestUptoRow.holds Try.pinned (OpenSpec.upto desktopLatestSpec)

/-- 'tithinglaw23.DesktopLoads', WHERE WHAT IT READS IS OF BULK AT MOST 1048576: true; the input reads as it did. -/
def desktopLoadsUptoRow : OpenClaim := { program := "ytmciomkibklokaa", sum := "8805714882d7250b4774048fe6e731dc59b3d4eef1d3a9b7f89a7ca134132cd4", func := "tithing/tithinglaw23.DesktopLoads", spec := "desktopLoads", unfollowed := true, recurses := true, apart := false, narrowed := true }
def DesktopLoadsUptoSaid : Prop := desktopLoadsUptoRow.holds Try.pinned (OpenSpec.upto desktopLoadsSpec)

/-- 'tithinglaw23.DesktopNils', WHERE WHAT IT READS IS OF BULK AT MOST 1048576: true; the input reads as it did. -/
def desktopNilsUptoRow : OpenClaim := { program := "ytmciomkibklokaa", sum := "8805714882d7250b4774048fe6e731dc59b3d4eef1d3a9b7f89a7ca134132cd4", func := "tithing/tithinglaw23.DesktopNils", spec := "desktopNils", inPlace := ["maps.clone"], unfollowed := true, recurses := true, apart := false, narrowed := true }
def DesktopNilsUptoSaid : Prop := desktopNilsUptoRow.holds Try.pinned (OpenSpec.upto desktopNilsSpec)

end Rows
end Go.Proofs.Ytmciomkibklokaa

/-
  No cell of these rows narrows 'for every input' (looked for: loops, veiled, ifaces, maps, wideKeys, modest, calm, conditions, laid).
  DERIVED. THE GIVEN ROWS OF THIS SEAT. 8 by the template 'for every input the law returns true; each argument reads behind the call as it read before'; 0 by the template 'total and deterministic' (their statements: YtofjhihigmimbaaTotals.lean).
  GIVEN WITH THE SEED: the statements are not yours to turn. If you find one false, say at which input.
  Laid BY PROGRAM, IN A SANDBOX (cutbox-rows.mjs): the forced cells as the released guide's own fill.sh prints them over the translation 186cc55b1644cff6… (all of the seat's roots in one cut). By AI agents, Wed Nov 11 2026. No macro, syntax, notation, axiom, sorry.
-/
import Derived.Test.YtofjhihigmimbaaChecked
import GoSem.Claim
import GoSem.ClaimJoined
import GoSem.ClaimMapViews
import Derived.JoinedTies
import Derived.KernelRfl
namespace Go.Proofs.Ytofjhihigmimbaa
/- THE CELL 'sum', in the pinned program and in every row, IS THE sha256 OF THE DUMP (.gsa) THAT YtofjhihigmimbaaProg.lean LOADS. Nothing in Lean hashes anything: it is a label: what it is worth is what the hold of that sum in a sandbox is worth. -/
noncomputable def Try.pinned : Pinned := { name := "ytofjhihigmimbaa", sum := "186cc55b1644cff6cb9a76898457b0bb263adf98bb273ba9a74733f600c7597c", checked := Try.checked }
namespace Rows
def none {H : Type} : Left H := { results := [], args := [] }

/-- 'tithinglaw10.TransValid': WHATEVER THE INPUT: true; the input reads as it did. -/
def transValidSpec : ChangeSpec := { name := "transValid", fn := fun _ => fun
  | [d] => { results := [.lit (.bool true)], args := [d] }
  | _ => none }
def transValidRow : OpenClaim := { program := "ytofjhihigmimbaa", sum := "186cc55b1644cff6cb9a76898457b0bb263adf98bb273ba9a74733f600c7597c", func := "tithing/tithinglaw10.TransValid", spec := "transValid", apart := false }
def TransValidSaid : Prop := transValidRow.holds Try.pinned (OpenSpec.ofChange transValidSpec)

/-- ITS FALSE NEIGHBOUR: 'it returns false'. Refute it at one input. -/
def transValidWrong : ChangeSpec := { name := "transValid", fn := fun _ => fun
  | [d] => { results := [.lit (.bool false)], args := [d] }
  | _ => none }
def TransValidWrongFalsely : Prop := transValidRow.holds Try.pinned (OpenSpec.ofChange transValidWrong)

/-- 'tithinglaw10.TransAsks': WHATEVER THE INPUT: true; the input reads as it did. -/
def transAsksSpec : ChangeSpec := { name := "transAsks", fn := fun _ => fun
  | [d1, d2] => { results := [.lit (.bool true)], args := [d1, d2] }
  | _ => none }
def transAsksRow : OpenClaim := { program := "ytofjhihigmimbaa", sum := "186cc55b1644cff6cb9a76898457b0bb263adf98bb273ba9a74733f600c7597c", func := "tithing/tithinglaw10.TransAsks", spec := "transAsks", unfollowed := true, recurses := true, apart := false }
def TransAsksSaid : Prop := transAsksRow.holds Try.pinned (OpenSpec.ofChange transAsksSpec)

/-- ITS FALSE NEIGHBOUR: 'it returns false'. Refute it at one input. -/
def transAsksWrong : ChangeSpec := { name := "transAsks", fn := fun _ => fun
  | [d1, d2] => { results := [.lit (.bool false)], args := [d1, d2] }
  | _ => none }
def TransAsksWrongFalsely : Prop := transAsksRow.holds Try.pinned (OpenSpec.ofChange transAsksWrong)

/-- 'tithinglaw10.TransAnswers': WHATEVER THE INPUT: true; the input reads as it did. -/
def transAnswersSpec : ChangeSpec := { name := "transAnswers", fn := fun _ => fun
  | [d] => { results := [.lit (.bool true)], args := [d] }
  | _ => none }
def transAnswersRow : OpenClaim := { program := "ytofjhihigmimbaa", sum := "186cc55b1644cff6cb9a76898457b0bb263adf98bb273ba9a74733f600c7597c", func := "tithing/tithinglaw10.TransAnswers", spec := "transAnswers", unfollowed := true, recurses := true, apart := false }
def TransAnswersSaid : Prop := transAnswersRow.holds Try.pinned (OpenSpec.ofChange transAnswersSpec)

/-- ITS FALSE NEIGHBOUR: 'it returns false'. Refute it at one input. -/
def transAnswersWrong : ChangeSpec := { name := "transAnswers", fn := fun _ => fun
  | [d] => { results := [.lit (.bool false)], args := [d] }
  | _ => none }
def TransAnswersWrongFalsely : Prop := transAnswersRow.holds Try.pinned (OpenSpec.ofChange transAnswersWrong)

/-- 'tithinglaw10.TransOnce': WHATEVER THE INPUT: true; the input reads as it did. -/
def transOnceSpec : ChangeSpec := { name := "transOnce", fn := fun _ => fun
  | [d] => { results := [.lit (.bool true)], args := [d] }
  | _ => none }
def transOnceRow : OpenClaim := { program := "ytofjhihigmimbaa", sum := "186cc55b1644cff6cb9a76898457b0bb263adf98bb273ba9a74733f600c7597c", func := "tithing/tithinglaw10.TransOnce", spec := "transOnce", unfollowed := true, recurses := true, apart := false }
def TransOnceSaid : Prop := transOnceRow.holds Try.pinned (OpenSpec.ofChange transOnceSpec)

/-- ITS FALSE NEIGHBOUR: 'it returns false'. Refute it at one input. -/
def transOnceWrong : ChangeSpec := { name := "transOnce", fn := fun _ => fun
  | [d] => { results := [.lit (.bool false)], args := [d] }
  | _ => none }
def TransOnceWrongFalsely : Prop := transOnceRow.holds Try.pinned (OpenSpec.ofChange transOnceWrong)

/-- 'tithinglaw10.TransEnds': WHATEVER THE INPUT: true; the input reads as it did. -/
def transEndsSpec : ChangeSpec := { name := "transEnds", fn := fun _ => fun
  | [d] => { results := [.lit (.bool true)], args := [d] }
  | _ => none }
def transEndsRow : OpenClaim := { program := "ytofjhihigmimbaa", sum := "186cc55b1644cff6cb9a76898457b0bb263adf98bb273ba9a74733f600c7597c", func := "tithing/tithinglaw10.TransEnds", spec := "transEnds", unfollowed := true, recurses := true, apart := false }
def TransEndsSaid : Prop := transEndsRow.holds Try.pinned (OpenSpec.ofChange transEndsSpec)

/-- ITS FALSE NEIGHBOUR: 'it returns false'. Refute it at one input. -/
def transEndsWrong : ChangeSpec := { name := "transEnds", fn := fun _ => fun
  | [d] => { results := [.lit (.bool false)], args := [d] }
  | _ => none }
def TransEndsWrongFalsely : Prop := transEndsRow.holds Try.pinned (OpenSpec.ofChange transEndsWrong)

/-- 'tithinglaw10.TransPairs': WHATEVER THE INPUT: true; the input reads as it did. -/
def transPairsSpec : ChangeSpec := { name := "transPairs", fn := fun _ => fun
  | [d] => { results := [.lit (.bool true)], args := [d] }
  | _ => none }
def transPairsRow : OpenClaim := { program := "ytofjhihigmimbaa", sum := "186cc55b1644cff6cb9a76898457b0bb263adf98bb273ba9a74733f600c7597c", func := "tithing/tithinglaw10.TransPairs", spec := "transPairs", unfollowed := true, recurses := true, apart := false }
def TransPairsSaid : Prop := transPairsRow.holds Try.pinned (OpenSpec.ofChange transPairsSpec)

/-- ITS FALSE NEIGHBOUR: 'it returns false'. Refute it at one input. -/
def transPairsWrong : ChangeSpec := { name := "transPairs", fn := fun _ => fun
  | [d] => { results := [.lit (.bool false)], args := [d] }
  | _ => none }
def TransPairsWrongFalsely : Prop := transPairsRow.holds Try.pinned (OpenSpec.ofChange transPairsWrong)

/-- 'tithinglaw10.TransNils': WHATEVER THE INPUT: true; the input reads as it did. -/
def transNilsSpec : ChangeSpec := { name := "transNils", fn := fun _ => fun
  | [d1, d2] => { results := [.lit (.bool true)], args := [d1, d2] }
  | _ => none }
def transNilsRow : OpenClaim := { program := "ytofjhihigmimbaa", sum := "186cc55b1644cff6cb9a76898457b0bb263adf98bb273ba9a74733f600c7597c", func := "tithing/tithinglaw10.TransNils", spec := "transNils", inPlace := ["maps.clone"], unfollowed := true, recurses := true, apart := false }
def TransNilsSaid : Prop := transNilsRow.holds Try.pinned (OpenSpec.ofChange transNilsSpec)

/-- ITS FALSE NEIGHBOUR: 'it returns false'. Refute it at one input. -/
def transNilsWrong : ChangeSpec := { name := "transNils", fn := fun _ => fun
  | [d1, d2] => { results := [.lit (.bool false)], args := [d1, d2] }
  | _ => none }
def TransNilsWrongFalsely : Prop := transNilsRow.holds Try.pinned (OpenSpec.ofChange transNilsWrong)

/-- 'tithinglaw10.TransCopies': WHATEVER THE INPUT: true; the input reads as it did. -/
def transCopiesSpec : ChangeSpec := { name := "transCopies", fn := fun _ => fun
  | [d1, d2, d3] => { results := [.lit (.bool true)], args := [d1, d2, d3] }
  | _ => none }
def transCopiesRow : OpenClaim := { program := "ytofjhihigmimbaa", sum := "186cc55b1644cff6cb9a76898457b0bb263adf98bb273ba9a74733f600c7597c", func := "tithing/tithinglaw10.TransCopies", spec := "transCopies", inPlace := ["maps.clone"], unfollowed := true, recurses := true, apart := false }
def TransCopiesSaid : Prop := transCopiesRow.holds Try.pinned (OpenSpec.ofChange transCopiesSpec)

/-- ITS FALSE NEIGHBOUR: 'it returns false'. Refute it at one input. -/
def transCopiesWrong : ChangeSpec := { name := "transCopies", fn := fun _ => fun
  | [d1, d2, d3] => { results := [.lit (.bool false)], args := [d1, d2, d3] }
  | _ => none }
def TransCopiesWrongFalsely : Prop := transCopiesRow.holds Try.pinned (OpenSpec.ofChange transCopiesWrong)

/- THE SECOND FORM. 'bulk': how many values and letters a reading holds, each counted each time it is reached (what is shared counts as often as it is met; a slice's spare places count too). A statement '..UptoSaid' is the law's where the arguments, and the package variables that the reading takes, are together of bulk at most 1048576: NARROWER than '..Said'. Prove '..Said' where nothing that the law and all that it calls make is longer than what came in: it says more and counts as full. Else prove '..UptoSaid'. A law counts once. -/
mutual
def uptoBulk {H : Type} : DataW H → Nat
  | .lit (.string bytes) => bytes.length + 1
  | .lit _ => 1
  | .nil => 1
  | .ptr d => uptoBulk d + 1
  | .slice elems spare => uptoBulkAll elems + uptoBulkAll spare + 1
  | .agg parts => uptoBulkAll parts + 1
  | .iface _ d => uptoBulk d + 1
  | .map entries => uptoBulkEntries entries + 1
  | .held _ => 1
def uptoBulkAll {H : Type} : List (DataW H) → Nat
  | [] => 0
  | d :: r => uptoBulk d + uptoBulkAll r
def uptoBulkEntries {H : Type} : List (Lit × DataW H) → Nat
  | [] => 0
  | x :: r => uptoBulkEntry x + uptoBulkEntries r
def uptoBulkEntry {H : Type} : Lit × DataW H → Nat
  | (.string bytes, d) => bytes.length + uptoBulk d + 1
  | (_, d) => uptoBulk d + 1
 end
def uptoSmall : (H : Type) → List (DataW H) → Bool := fun _ ds => decide (uptoBulkAll ds ≤ 1048576)
def OpenSpec.upto (s : _root_.Go.ChangeSpec) : _root_.Go.OpenSpec := { _root_.Go.OpenSpec.ofChange s with cond := some uptoSmall }

/-- 'tithinglaw10.TransValid', WHERE WHAT IT READS IS OF BULK AT MOST 1048576: true; the input reads as it did. -/
def transValidUptoRow : OpenClaim := { program := "ytofjhihigmimbaa", sum := "186cc55b1644cff6cb9a76898457b0bb263adf98bb273ba9a74733f600c7597c", func := "tithing/tithinglaw10.TransValid", spec := "transValid", apart := false, narrowed := true }
def TransValidUptoSaid : Prop := transValidUptoRow.holds Try.pinned (OpenSpec.upto transValidSpec)

/-- 'tithinglaw10.TransAsks', WHERE WHAT IT READS IS OF BULK AT MOST 1048576: true; the input reads as it did. -/
def transAsksUptoRow : OpenClaim := { program := "ytofjhihigmimbaa", sum := "186cc55b1644cff6cb9a76898457b0bb263adf98bb273ba9a74733f600c7597c", func := "tithing/tithinglaw10.TransAsks", spec := "transAsks", unfollowed := true, recurses := true, apart := false, narrowed := true }
def TransAsksUptoSaid : Prop := transAsksUptoRow.holds Try.pinned (OpenSpec.upto transAsksSpec)

/-- 'tithinglaw10.TransAnswers', WHERE WHAT IT READS IS OF BULK AT MOST 1048576: true; the input reads as it did. -/
def transAnswersUptoRow : OpenClaim := { program := "ytofjhihigmimbaa", sum := "186cc55b1644cff6cb9a76898457b0bb263adf98bb273ba9a74733f600c7597c", func := "tithing/tithinglaw10.TransAnswers", spec := "transAnswers", unfollowed := true, recurses := true, apart := false, narrowed := true }
def TransAnswersUptoSaid : Prop := transAnswersUptoRow.holds Try.pinned (OpenSpec.upto transAnswersSpec)

/-- 'tithinglaw10.TransOnce', WHERE WHAT IT READS IS OF BULK AT MOST 1048576: true; the input reads as it did. -/
def transOnceUptoRow : OpenClaim := { program := "ytofjhihigmimbaa", sum := "186cc55b1644cff6cb9a76898457b0bb263adf98bb273ba9a74733f600c7597c", func := "tithing/tithinglaw10.TransOnce", spec := "transOnce", unfollowed := true, recurses := true, apart := false, narrowed := true }
def TransOnceUptoSaid : Prop := transOnceUptoRow.holds Try.pinned (OpenSpec.upto transOnceSpec)

/-- 'tithinglaw10.TransEnds', WHERE WHAT IT READS IS OF BULK AT MOST 1048576: true; the input reads as it did. -/
def transEndsUptoRow : OpenClaim := { program := "ytofjhihigmimbaa", sum := "186cc55b1644cff6cb9a76898457b0bb263adf98bb273ba9a74733f600c7597c", func := "tithing/tithinglaw10.TransEnds", spec := "transEnds", unfollowed := true, recurses := true, apart := false, narrowed := true }
def TransEndsUptoSaid : Prop := transEndsUptoRow.holds Try.pinned (OpenSpec.upto transEndsSpec)

/-- 'tithinglaw10.TransPairs', WHERE WHAT IT READS IS OF BULK AT MOST 1048576: true; the input reads as it did. -/
def transPairsUptoRow : OpenClaim := { program := "ytofjhihigmimbaa", sum := "186cc55b1644cff6cb9a76898457b0bb263adf98bb273ba9a74733f600c7597c", func := "tithing/tithinglaw10.TransPairs", spec := "transPairs", unfollowed := true, recurses := true, apart := false, narrowed := true }
def TransPairsUptoSaid : Prop := transPairsUptoRow.holds Try.pinned (OpenSpec.upto transPairsSpec)

/-- 'tithinglaw10.TransNils', WHERE WHAT IT READS IS OF BULK AT MOST 1048576: true; the input reads as it did. -/
def transNilsUptoRow : OpenClaim := { program := "ytofjhihigmimbaa", sum := "186cc55b1644cff6cb9a76898457b0bb263adf98bb273ba9a74733f600c7597c", func := "tithing/tithinglaw10.TransNils", spec := "transNils", inPlace := ["maps.clone"], unfollowed := true, recurses := true, apart := false, narrowed := true }
def TransNilsUptoSaid : Prop := transNilsUptoRow.holds Try.pinned (OpenSpec.upto transNilsSpec)

/-- 'tithinglaw10.TransCopies', WHERE WHAT IT READS IS OF BULK AT MOST 1048576: true; the input reads as it did. -/
def transCopiesUptoRow : OpenClaim := { program := "ytofjhihigmimbaa", sum := "186cc55b1644cff6cb9a76898457b0bb263adf98bb273ba9a74733f600c7597c", func := "tithing/tithinglaw10.TransCopies", spec := "transCopies", inPlace := ["maps.clone"], unfollowed := true, recurses := true, apart := false, narrowed := true }
def TransCopiesUptoSaid : Prop := transCopiesUptoRow.holds Try.pinned (OpenSpec.upto transCopiesSpec)

end Rows
end Go.Proofs.Ytofjhihigmimbaa

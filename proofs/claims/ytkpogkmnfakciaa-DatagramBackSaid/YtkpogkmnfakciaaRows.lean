/-
  No cell of these rows narrows 'for every input' (looked for: loops, veiled, ifaces, maps, wideKeys, modest, calm, conditions, laid).
  DERIVED. THE GIVEN ROWS OF THIS SEAT. 10 by the template 'for every input the law returns true; each argument reads behind the call as it read before'; 0 by the template 'total and deterministic' (their statements: YtkpogkmnfakciaaTotals.lean).
  GIVEN WITH THE SEED: the statements are not yours to turn. If you find one false, say at which input.
  Laid BY PROGRAM, IN A SANDBOX (cutbox-rows.mjs): the forced cells as the released guide's own fill.sh prints them over the translation 10e9cb70861a70ba… (all of the seat's roots in one cut). By AI agents, Wed Nov 11 2026. No macro, syntax, notation, axiom, sorry.
-/
import Derived.Test.YtkpogkmnfakciaaChecked
import GoSem.Claim
import GoSem.ClaimJoined
import GoSem.ClaimMapViews
import Derived.JoinedTies
import Derived.KernelRfl
namespace Go.Proofs.Ytkpogkmnfakciaa
/- THE CELL 'sum', in the pinned program and in every row, IS THE sha256 OF THE DUMP (.gsa) THAT YtkpogkmnfakciaaProg.lean LOADS. Nothing in Lean hashes anything: it is a label: what it is worth is what the hold of that sum in a sandbox is worth. -/
noncomputable def Try.pinned : Pinned := { name := "ytkpogkmnfakciaa", sum := "10e9cb70861a70bafc525c30f873cc21970024844f032397192faacbda09ec9c", checked := Try.checked }
namespace Rows
def none {H : Type} : Left H := { results := [], args := [] }

/-- 'tithinglaw04.DatagramShorts': WHATEVER THE INPUT: true; the input reads as it did. -/
def datagramShortsSpec : ChangeSpec := { name := "datagramShorts", fn := fun _ => fun
  | [d] => { results := [.lit (.bool true)], args := [d] }
  | _ => none }
def datagramShortsRow : OpenClaim := { program := "ytkpogkmnfakciaa", sum := "10e9cb70861a70bafc525c30f873cc21970024844f032397192faacbda09ec9c", func := "tithing/tithinglaw04.DatagramShorts", spec := "datagramShorts", apart := false }
def DatagramShortsSaid : Prop := datagramShortsRow.holds Try.pinned (OpenSpec.ofChange datagramShortsSpec)

/-- ITS FALSE NEIGHBOUR: 'it returns false'. Refute it at one input. -/
def datagramShortsWrong : ChangeSpec := { name := "datagramShorts", fn := fun _ => fun
  | [d] => { results := [.lit (.bool false)], args := [d] }
  | _ => none }
def DatagramShortsWrongFalsely : Prop := datagramShortsRow.holds Try.pinned (OpenSpec.ofChange datagramShortsWrong)

/-- 'tithinglaw04.DatagramBacks': WHATEVER THE INPUT: true; the input reads as it did. -/
def datagramBacksSpec : ChangeSpec := { name := "datagramBacks", fn := fun _ => fun
  | [d1, d2] => { results := [.lit (.bool true)], args := [d1, d2] }
  | _ => none }
def datagramBacksRow : OpenClaim := { program := "ytkpogkmnfakciaa", sum := "10e9cb70861a70bafc525c30f873cc21970024844f032397192faacbda09ec9c", func := "tithing/tithinglaw04.DatagramBacks", spec := "datagramBacks", apart := false }
def DatagramBacksSaid : Prop := datagramBacksRow.holds Try.pinned (OpenSpec.ofChange datagramBacksSpec)

/-- ITS FALSE NEIGHBOUR: 'it returns false'. Refute it at one input. -/
def datagramBacksWrong : ChangeSpec := { name := "datagramBacks", fn := fun _ => fun
  | [d1, d2] => { results := [.lit (.bool false)], args := [d1, d2] }
  | _ => none }
def DatagramBacksWrongFalsely : Prop := datagramBacksRow.holds Try.pinned (OpenSpec.ofChange datagramBacksWrong)

/-- 'tithinglaw04.DatagramAlike': WHATEVER THE INPUT: true; the input reads as it did. -/
def datagramAlikeSpec : ChangeSpec := { name := "datagramAlike", fn := fun _ => fun
  | [d1, d2] => { results := [.lit (.bool true)], args := [d1, d2] }
  | _ => none }
def datagramAlikeRow : OpenClaim := { program := "ytkpogkmnfakciaa", sum := "10e9cb70861a70bafc525c30f873cc21970024844f032397192faacbda09ec9c", func := "tithing/tithinglaw04.DatagramAlike", spec := "datagramAlike", apart := false }
def DatagramAlikeSaid : Prop := datagramAlikeRow.holds Try.pinned (OpenSpec.ofChange datagramAlikeSpec)

/-- ITS FALSE NEIGHBOUR: 'it returns false'. Refute it at one input. -/
def datagramAlikeWrong : ChangeSpec := { name := "datagramAlike", fn := fun _ => fun
  | [d1, d2] => { results := [.lit (.bool false)], args := [d1, d2] }
  | _ => none }
def DatagramAlikeWrongFalsely : Prop := datagramAlikeRow.holds Try.pinned (OpenSpec.ofChange datagramAlikeWrong)

/-- 'tithinglaw04.DatagramHops': WHATEVER THE INPUT: true; the input reads as it did. -/
def datagramHopsSpec : ChangeSpec := { name := "datagramHops", fn := fun _ => fun
  | [d] => { results := [.lit (.bool true)], args := [d] }
  | _ => none }
def datagramHopsRow : OpenClaim := { program := "ytkpogkmnfakciaa", sum := "10e9cb70861a70bafc525c30f873cc21970024844f032397192faacbda09ec9c", func := "tithing/tithinglaw04.DatagramHops", spec := "datagramHops", apart := false }
def DatagramHopsSaid : Prop := datagramHopsRow.holds Try.pinned (OpenSpec.ofChange datagramHopsSpec)

/-- ITS FALSE NEIGHBOUR: 'it returns false'. Refute it at one input. -/
def datagramHopsWrong : ChangeSpec := { name := "datagramHops", fn := fun _ => fun
  | [d] => { results := [.lit (.bool false)], args := [d] }
  | _ => none }
def DatagramHopsWrongFalsely : Prop := datagramHopsRow.holds Try.pinned (OpenSpec.ofChange datagramHopsWrong)

/-- 'tithinglaw04.DatagramLongs': WHATEVER THE INPUT: true; the input reads as it did. -/
def datagramLongsSpec : ChangeSpec := { name := "datagramLongs", fn := fun _ => fun
  | [d] => { results := [.lit (.bool true)], args := [d] }
  | _ => none }
def datagramLongsRow : OpenClaim := { program := "ytkpogkmnfakciaa", sum := "10e9cb70861a70bafc525c30f873cc21970024844f032397192faacbda09ec9c", func := "tithing/tithinglaw04.DatagramLongs", spec := "datagramLongs", apart := false }
def DatagramLongsSaid : Prop := datagramLongsRow.holds Try.pinned (OpenSpec.ofChange datagramLongsSpec)

/-- ITS FALSE NEIGHBOUR: 'it returns false'. Refute it at one input. -/
def datagramLongsWrong : ChangeSpec := { name := "datagramLongs", fn := fun _ => fun
  | [d] => { results := [.lit (.bool false)], args := [d] }
  | _ => none }
def DatagramLongsWrongFalsely : Prop := datagramLongsRow.holds Try.pinned (OpenSpec.ofChange datagramLongsWrong)

/-- 'tithinglaw04.DatagramShortReads': WHATEVER THE INPUT: true; the input reads as it did. -/
def datagramShortReadsSpec : ChangeSpec := { name := "datagramShortReads", fn := fun _ => fun
  | [d1, d2, d3] => { results := [.lit (.bool true)], args := [d1, d2, d3] }
  | _ => none }
def datagramShortReadsRow : OpenClaim := { program := "ytkpogkmnfakciaa", sum := "10e9cb70861a70bafc525c30f873cc21970024844f032397192faacbda09ec9c", func := "tithing/tithinglaw04.DatagramShortReads", spec := "datagramShortReads", apart := false }
def DatagramShortReadsSaid : Prop := datagramShortReadsRow.holds Try.pinned (OpenSpec.ofChange datagramShortReadsSpec)

/-- ITS FALSE NEIGHBOUR: 'it returns false'. Refute it at one input. -/
def datagramShortReadsWrong : ChangeSpec := { name := "datagramShortReads", fn := fun _ => fun
  | [d1, d2, d3] => { results := [.lit (.bool false)], args := [d1, d2, d3] }
  | _ => none }
def DatagramShortReadsWrongFalsely : Prop := datagramShortReadsRow.holds Try.pinned (OpenSpec.ofChange datagramShortReadsWrong)

/-- 'tithinglaw04.DatagramReads': WHATEVER THE INPUT: true; the input reads as it did. -/
def datagramReadsSpec : ChangeSpec := { name := "datagramReads", fn := fun _ => fun
  | [d] => { results := [.lit (.bool true)], args := [d] }
  | _ => none }
def datagramReadsRow : OpenClaim := { program := "ytkpogkmnfakciaa", sum := "10e9cb70861a70bafc525c30f873cc21970024844f032397192faacbda09ec9c", func := "tithing/tithinglaw04.DatagramReads", spec := "datagramReads", unfollowed := true, recurses := true, apart := false }
def DatagramReadsSaid : Prop := datagramReadsRow.holds Try.pinned (OpenSpec.ofChange datagramReadsSpec)

/-- ITS FALSE NEIGHBOUR: 'it returns false'. Refute it at one input. -/
def datagramReadsWrong : ChangeSpec := { name := "datagramReads", fn := fun _ => fun
  | [d] => { results := [.lit (.bool false)], args := [d] }
  | _ => none }
def DatagramReadsWrongFalsely : Prop := datagramReadsRow.holds Try.pinned (OpenSpec.ofChange datagramReadsWrong)

/-- 'tithinglaw04.DatagramSums': WHATEVER THE INPUT: true; the input reads as it did. -/
def datagramSumsSpec : ChangeSpec := { name := "datagramSums", fn := fun _ => fun
  | [d1, d2, d3] => { results := [.lit (.bool true)], args := [d1, d2, d3] }
  | _ => none }
def datagramSumsRow : OpenClaim := { program := "ytkpogkmnfakciaa", sum := "10e9cb70861a70bafc525c30f873cc21970024844f032397192faacbda09ec9c", func := "tithing/tithinglaw04.DatagramSums", spec := "datagramSums", unfollowed := true, recurses := true, apart := false }
def DatagramSumsSaid : Prop := datagramSumsRow.holds Try.pinned (OpenSpec.ofChange datagramSumsSpec)

/-- ITS FALSE NEIGHBOUR: 'it returns false'. Refute it at one input. -/
def datagramSumsWrong : ChangeSpec := { name := "datagramSums", fn := fun _ => fun
  | [d1, d2, d3] => { results := [.lit (.bool false)], args := [d1, d2, d3] }
  | _ => none }
def DatagramSumsWrongFalsely : Prop := datagramSumsRow.holds Try.pinned (OpenSpec.ofChange datagramSumsWrong)

/-- 'tithinglaw04.DatagramBytes': WHATEVER THE INPUT: true; the input reads as it did. -/
def datagramBytesSpec : ChangeSpec := { name := "datagramBytes", fn := fun _ => fun
  | [d1, d2, d3] => { results := [.lit (.bool true)], args := [d1, d2, d3] }
  | _ => none }
def datagramBytesRow : OpenClaim := { program := "ytkpogkmnfakciaa", sum := "10e9cb70861a70bafc525c30f873cc21970024844f032397192faacbda09ec9c", func := "tithing/tithinglaw04.DatagramBytes", spec := "datagramBytes", unfollowed := true, recurses := true, apart := false }
def DatagramBytesSaid : Prop := datagramBytesRow.holds Try.pinned (OpenSpec.ofChange datagramBytesSpec)

/-- ITS FALSE NEIGHBOUR: 'it returns false'. Refute it at one input. -/
def datagramBytesWrong : ChangeSpec := { name := "datagramBytes", fn := fun _ => fun
  | [d1, d2, d3] => { results := [.lit (.bool false)], args := [d1, d2, d3] }
  | _ => none }
def DatagramBytesWrongFalsely : Prop := datagramBytesRow.holds Try.pinned (OpenSpec.ofChange datagramBytesWrong)

/-- 'tithinglaw04.DatagramBack': WHATEVER THE INPUT: true; the input reads as it did. -/
def datagramBackSpec : ChangeSpec := { name := "datagramBack", fn := fun _ => fun
  | [d] => { results := [.lit (.bool true)], args := [d] }
  | _ => none }
def datagramBackRow : OpenClaim := { program := "ytkpogkmnfakciaa", sum := "10e9cb70861a70bafc525c30f873cc21970024844f032397192faacbda09ec9c", func := "tithing/tithinglaw04.DatagramBack", spec := "datagramBack", unfollowed := true, recurses := true, apart := false }
def DatagramBackSaid : Prop := datagramBackRow.holds Try.pinned (OpenSpec.ofChange datagramBackSpec)

/-- ITS FALSE NEIGHBOUR: 'it returns false'. Refute it at one input. -/
def datagramBackWrong : ChangeSpec := { name := "datagramBack", fn := fun _ => fun
  | [d] => { results := [.lit (.bool false)], args := [d] }
  | _ => none }
def DatagramBackWrongFalsely : Prop := datagramBackRow.holds Try.pinned (OpenSpec.ofChange datagramBackWrong)

/- THE SECOND FORM. 'bulk': how many values and letters a reading holds, each counted each time it is reached (what is shared counts as often as it is met; a slice's spare places count too). A statement '..UptoSaid' is the law's where the arguments, and the package variables that the reading takes, are together of bulk at most 1048576: NARROWER than '..Said'. Prove '..Said' where nothing that the law and all that it calls make is longer than what came in: it says more and counts as full. Else prove '..UptoSaid'. A law counts once. -/
mutual
def uptoBulk {H : Type} : DataW H → Nat
  | .lit (.string bytes) => bytes.length + 1
  | .lit _ => 1
  | .nil => 1
  | .ptr d => uptoBulk d + 1
  | .slice elems spare => uptoBulkAll elems + uptoBulkAll spare + 1
  | .agg parts => uptoBulkAll parts + 1
  | .iface _ d => uptoBulk d + 1
  | .map entries => uptoBulkEntries entries + 1
  | .held _ => 1
def uptoBulkAll {H : Type} : List (DataW H) → Nat
  | [] => 0
  | d :: r => uptoBulk d + uptoBulkAll r
def uptoBulkEntries {H : Type} : List (Lit × DataW H) → Nat
  | [] => 0
  | x :: r => uptoBulkEntry x + uptoBulkEntries r
def uptoBulkEntry {H : Type} : Lit × DataW H → Nat
  | (.string bytes, d) => bytes.length + uptoBulk d + 1
  | (_, d) => uptoBulk d + 1
 end
def uptoSmall : (H : Type) → List (DataW H) → Bool := fun _ ds => decide (uptoBulkAll ds ≤ 1048576)
def OpenSpec.upto (s : _root_.Go.ChangeSpec) : _root_.Go.OpenSpec := { _root_.Go.OpenSpec.ofChange s with cond := some uptoSmall }

/-- 'tithinglaw04.DatagramShorts', WHERE WHAT IT READS IS OF BULK AT MOST 1048576: true; the input reads as it did. -/
def datagramShortsUptoRow : OpenClaim := { program := "ytkpogkmnfakciaa", sum := "10e9cb70861a70bafc525c30f873cc21970024844f032397192faacbda09ec9c", func := "tithing/tithinglaw04.DatagramShorts", spec := "datagramShorts", apart := false, narrowed := true }
def DatagramShortsUptoSaid : Prop := datagramShortsUptoRow.holds Try.pinned (OpenSpec.upto datagramShortsSpec)

/-- 'tithinglaw04.DatagramBacks', WHERE WHAT IT READS IS OF BULK AT MOST 1048576: true; the input reads as it did. -/
def datagramBacksUptoRow : OpenClaim := { program := "ytkpogkmnfakciaa", sum := "10e9cb70861a70bafc525c30f873cc21970024844f032397192faacbda09ec9c", func := "tithing/tithinglaw04.DatagramBacks", spec := "datagramBacks", apart := false, narrowed := true }
def DatagramBacksUptoSaid : Prop := datagramBacksUptoRow.holds Try.pinned (OpenSpec.upto datagramBacksSpec)

/-- 'tithinglaw04.DatagramAlike', WHERE WHAT IT READS IS OF BULK AT MOST 1048576: true; the input reads as it did. -/
def datagramAlikeUptoRow : OpenClaim := { program := "ytkpogkmnfakciaa", sum := "10e9cb70861a70bafc525c30f873cc21970024844f032397192faacbda09ec9c", func := "tithing/tithinglaw04.DatagramAlike", spec := "datagramAlike", apart := false, narrowed := true }
def DatagramAlikeUptoSaid : Prop := datagramAlikeUptoRow.holds Try.pinned (OpenSpec.upto datagramAlikeSpec)

/-- 'tithinglaw04.DatagramHops', WHERE WHAT IT READS IS OF BULK AT MOST 1048576: true; the input reads as it did. -/
def datagramHopsUptoRow : OpenClaim := { program := "ytkpogkmnfakciaa", sum := "10e9cb70861a70bafc525c30f873cc21970024844f032397192faacbda09ec9c", func := "tithing/tithinglaw04.DatagramHops", spec := "datagramHops", apart := false, narrowed := true }
def DatagramHopsUptoSaid : Prop := datagramHopsUptoRow.holds Try.pinned (OpenSpec.upto datagramHopsSpec)

/-- 'tithinglaw04.DatagramLongs', WHERE WHAT IT READS IS OF BULK AT MOST 1048576: true; the input reads as it did. -/
def datagramLongsUptoRow : OpenClaim := { program := "ytkpogkmnfakciaa", sum := "10e9cb70861a70bafc525c30f873cc21970024844f032397192faacbda09ec9c", func := "tithing/tithinglaw04.DatagramLongs", spec := "datagramLongs", apart := false, narrowed := true }
def DatagramLongsUptoSaid : Prop := datagramLongsUptoRow.holds Try.pinned (OpenSpec.upto datagramLongsSpec)

/-- 'tithinglaw04.DatagramShortReads', WHERE WHAT IT READS IS OF BULK AT MOST 1048576: true; the input reads as it did. -/
def datagramShortReadsUptoRow : OpenClaim := { program := "ytkpogkmnfakciaa", sum := "10e9cb70861a70bafc525c30f873cc21970024844f032397192faacbda09ec9c", func := "tithing/tithinglaw04.DatagramShortReads", spec := "datagramShortReads", apart := false, narrowed := true }
def DatagramShortReadsUptoSaid : Prop := datagramShortReadsUptoRow.holds Try.pinned (OpenSpec.upto datagramShortReadsSpec)

/-- 'tithinglaw04.DatagramReads', WHERE WHAT IT READS IS OF BULK AT MOST 1048576: true; the input reads as it did. -/
def datagramReadsUptoRow : OpenClaim := { program := "ytkpogkmnfakciaa", sum := "10e9cb70861a70bafc525c30f873cc21970024844f032397192faacbda09ec9c", func := "tithing/tithinglaw04.DatagramReads", spec := "datagramReads", unfollowed := true, recurses := true, apart := false, narrowed := true }
def DatagramReadsUptoSaid : Prop := datagramReadsUptoRow.holds Try.pinned (OpenSpec.upto datagramReadsSpec)

/-- 'tithinglaw04.DatagramSums', WHERE WHAT IT READS IS OF BULK AT MOST 1048576: true; the input reads as it did. -/
def datagramSumsUptoRow : OpenClaim := { program := "ytkpogkmnfakciaa", sum := "10e9cb70861a70bafc525c30f873cc21970024844f032397192faacbda09ec9c", func := "tithing/tithinglaw04.DatagramSums", spec := "datagramSums", unfollowed := true, recurses := true, apart := false, narrowed := true }
def DatagramSumsUptoSaid : Prop := datagramSumsUptoRow.holds Try.pinned (OpenSpec.upto datagramSumsSpec)

/-- 'tithinglaw04.DatagramBytes', WHERE WHAT IT READS IS OF BULK AT MOST 1048576: true; the input reads as it did. -/
def datagramBytesUptoRow : OpenClaim := { program := "ytkpogkmnfakciaa", sum := "10e9cb70861a70bafc525c30f873cc21970024844f032397192faacbda09ec9c", func := "tithing/tithinglaw04.DatagramBytes", spec := "datagramBytes", unfollowed := true, recurses := true, apart := false, narrowed := true }
def DatagramBytesUptoSaid : Prop := datagramBytesUptoRow.holds Try.pinned (OpenSpec.upto datagramBytesSpec)

/-- 'tithinglaw04.DatagramBack', WHERE WHAT IT READS IS OF BULK AT MOST 1048576: true; the input reads as it did. -/
def datagramBackUptoRow : OpenClaim := { program := "ytkpogkmnfakciaa", sum := "10e9cb70861a70bafc525c30f873cc21970024844f032397192faacbda09ec9c", func := "tithing/tithinglaw04.DatagramBack", spec := "datagramBack", unfollowed := true, recurses := true, apart := false, narrowed := true }
def DatagramBackUptoSaid : Prop := datagramBackUptoRow.holds Try.pinned (OpenSpec.upto datagramBackSpec)

end Rows
end Go.Proofs.Ytkpogkmnfakciaa

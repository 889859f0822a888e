/-
  No cell of these rows narrows 'for every input' (looked for: loops, veiled, ifaces, maps, wideKeys, modest, calm, conditions, laid).
  DERIVED. THE GIVEN ROWS OF THIS SEAT. 7 by the template 'for every input the law returns true; each argument reads behind the call as it read before'; 0 by the template 'total and deterministic' (their statements: YtfihnifhabbniaaTotals.lean).
  GIVEN WITH THE SEED: the statements are not yours to turn. If you find one false, say at which input.
  Laid BY PROGRAM, IN A SANDBOX (cutbox-rows.mjs): the forced cells as the released guide's own fill.sh prints them over the translation 6ceb50a3da611f06… (all of the seat's roots in one cut). By AI agents, Wed Nov 11 2026. No macro, syntax, notation, axiom, sorry.
-/
import Derived.Test.YtfihnifhabbniaaChecked
import GoSem.Claim
import GoSem.ClaimJoined
import GoSem.ClaimMapViews
import Derived.JoinedTies
import Derived.KernelRfl
namespace Go.Proofs.Ytfihnifhabbniaa
/- THE CELL 'sum', in the pinned program and in every row, IS THE sha256 OF THE DUMP (.gsa) THAT YtfihnifhabbniaaProg.lean LOADS. Nothing in Lean hashes anything: it is a label: what it is worth is what the hold of that sum in a sandbox is worth. -/
noncomputable def Try.pinned : Pinned := { name := "ytfihnifhabbniaa", sum := "6ceb50a3da611f062375d6081ec3eb87cdaf07500caf5797c55c1ae42ec30534", checked := Try.checked }
namespace Rows
def none {H : Type} : Left H := { results := [], args := [] }

/-- 'tithinglaw05.SocketOpens': WHATEVER THE INPUT: true; the input reads as it did. -/
def socketOpensSpec : ChangeSpec := { name := "socketOpens", fn := fun _ => fun
  | [d1, d2] => { results := [.lit (.bool true)], args := [d1, d2] }
  | _ => none }
def socketOpensRow : OpenClaim := { program := "ytfihnifhabbniaa", sum := "6ceb50a3da611f062375d6081ec3eb87cdaf07500caf5797c55c1ae42ec30534", func := "tithing/tithinglaw05.SocketOpens", spec := "socketOpens", apart := false }
def SocketOpensSaid : Prop := socketOpensRow.holds Try.pinned (OpenSpec.ofChange socketOpensSpec)

/-- ITS FALSE NEIGHBOUR: 'it returns false'. Refute it at one input. -/
def socketOpensWrong : ChangeSpec := { name := "socketOpens", fn := fun _ => fun
  | [d1, d2] => { results := [.lit (.bool false)], args := [d1, d2] }
  | _ => none }
def SocketOpensWrongFalsely : Prop := socketOpensRow.holds Try.pinned (OpenSpec.ofChange socketOpensWrong)

/-- 'tithinglaw05.SocketQueues': WHATEVER THE INPUT: true; the input reads as it did. -/
def socketQueuesSpec : ChangeSpec := { name := "socketQueues", fn := fun _ => fun
  | [d1, d2] => { results := [.lit (.bool true)], args := [d1, d2] }
  | _ => none }
def socketQueuesRow : OpenClaim := { program := "ytfihnifhabbniaa", sum := "6ceb50a3da611f062375d6081ec3eb87cdaf07500caf5797c55c1ae42ec30534", func := "tithing/tithinglaw05.SocketQueues", spec := "socketQueues", apart := false }
def SocketQueuesSaid : Prop := socketQueuesRow.holds Try.pinned (OpenSpec.ofChange socketQueuesSpec)

/-- ITS FALSE NEIGHBOUR: 'it returns false'. Refute it at one input. -/
def socketQueuesWrong : ChangeSpec := { name := "socketQueues", fn := fun _ => fun
  | [d1, d2] => { results := [.lit (.bool false)], args := [d1, d2] }
  | _ => none }
def SocketQueuesWrongFalsely : Prop := socketQueuesRow.holds Try.pinned (OpenSpec.ofChange socketQueuesWrong)

/-- 'tithinglaw05.SocketEcho': WHATEVER THE INPUT: true; the input reads as it did. -/
def socketEchoSpec : ChangeSpec := { name := "socketEcho", fn := fun _ => fun
  | [d1, d2, d3] => { results := [.lit (.bool true)], args := [d1, d2, d3] }
  | _ => none }
def socketEchoRow : OpenClaim := { program := "ytfihnifhabbniaa", sum := "6ceb50a3da611f062375d6081ec3eb87cdaf07500caf5797c55c1ae42ec30534", func := "tithing/tithinglaw05.SocketEcho", spec := "socketEcho", apart := false }
def SocketEchoSaid : Prop := socketEchoRow.holds Try.pinned (OpenSpec.ofChange socketEchoSpec)

/-- ITS FALSE NEIGHBOUR: 'it returns false'. Refute it at one input. -/
def socketEchoWrong : ChangeSpec := { name := "socketEcho", fn := fun _ => fun
  | [d1, d2, d3] => { results := [.lit (.bool false)], args := [d1, d2, d3] }
  | _ => none }
def SocketEchoWrongFalsely : Prop := socketEchoRow.holds Try.pinned (OpenSpec.ofChange socketEchoWrong)

/-- 'tithinglaw05.SocketBytes': WHATEVER THE INPUT: true; the input reads as it did. -/
def socketBytesSpec : ChangeSpec := { name := "socketBytes", fn := fun _ => fun
  | [d1, d2] => { results := [.lit (.bool true)], args := [d1, d2] }
  | _ => none }
def socketBytesRow : OpenClaim := { program := "ytfihnifhabbniaa", sum := "6ceb50a3da611f062375d6081ec3eb87cdaf07500caf5797c55c1ae42ec30534", func := "tithing/tithinglaw05.SocketBytes", spec := "socketBytes", unfollowed := true, recurses := true, apart := false }
def SocketBytesSaid : Prop := socketBytesRow.holds Try.pinned (OpenSpec.ofChange socketBytesSpec)

/-- ITS FALSE NEIGHBOUR: 'it returns false'. Refute it at one input. -/
def socketBytesWrong : ChangeSpec := { name := "socketBytes", fn := fun _ => fun
  | [d1, d2] => { results := [.lit (.bool false)], args := [d1, d2] }
  | _ => none }
def SocketBytesWrongFalsely : Prop := socketBytesRow.holds Try.pinned (OpenSpec.ofChange socketBytesWrong)

/-- 'tithinglaw05.SocketPlays': WHATEVER THE INPUT: true; the input reads as it did. -/
def socketPlaysSpec : ChangeSpec := { name := "socketPlays", fn := fun _ => fun
  | [d1, d2] => { results := [.lit (.bool true)], args := [d1, d2] }
  | _ => none }
def socketPlaysRow : OpenClaim := { program := "ytfihnifhabbniaa", sum := "6ceb50a3da611f062375d6081ec3eb87cdaf07500caf5797c55c1ae42ec30534", func := "tithing/tithinglaw05.SocketPlays", spec := "socketPlays", unfollowed := true, recurses := true, apart := false }
def SocketPlaysSaid : Prop := socketPlaysRow.holds Try.pinned (OpenSpec.ofChange socketPlaysSpec)

/-- ITS FALSE NEIGHBOUR: 'it returns false'. Refute it at one input. -/
def socketPlaysWrong : ChangeSpec := { name := "socketPlays", fn := fun _ => fun
  | [d1, d2] => { results := [.lit (.bool false)], args := [d1, d2] }
  | _ => none }
def SocketPlaysWrongFalsely : Prop := socketPlaysRow.holds Try.pinned (OpenSpec.ofChange socketPlaysWrong)

/-- 'tithinglaw05.SocketCopies': WHATEVER THE INPUT: true; the input reads as it did. -/
def socketCopiesSpec : ChangeSpec := { name := "socketCopies", fn := fun _ => fun
  | [d1, d2, d3] => { results := [.lit (.bool true)], args := [d1, d2, d3] }
  | _ => none }
def socketCopiesRow : OpenClaim := { program := "ytfihnifhabbniaa", sum := "6ceb50a3da611f062375d6081ec3eb87cdaf07500caf5797c55c1ae42ec30534", func := "tithing/tithinglaw05.SocketCopies", spec := "socketCopies", unfollowed := true, recurses := true, apart := false }
def SocketCopiesSaid : Prop := socketCopiesRow.holds Try.pinned (OpenSpec.ofChange socketCopiesSpec)

/-- ITS FALSE NEIGHBOUR: 'it returns false'. Refute it at one input. -/
def socketCopiesWrong : ChangeSpec := { name := "socketCopies", fn := fun _ => fun
  | [d1, d2, d3] => { results := [.lit (.bool false)], args := [d1, d2, d3] }
  | _ => none }
def SocketCopiesWrongFalsely : Prop := socketCopiesRow.holds Try.pinned (OpenSpec.ofChange socketCopiesWrong)

/-- 'tithinglaw05.SocketNils': WHATEVER THE INPUT: true; the input reads as it did. -/
def socketNilsSpec : ChangeSpec := { name := "socketNils", fn := fun _ => fun
  | [d1, d2, d3] => { results := [.lit (.bool true)], args := [d1, d2, d3] }
  | _ => none }
def socketNilsRow : OpenClaim := { program := "ytfihnifhabbniaa", sum := "6ceb50a3da611f062375d6081ec3eb87cdaf07500caf5797c55c1ae42ec30534", func := "tithing/tithinglaw05.SocketNils", spec := "socketNils", unfollowed := true, recurses := true, apart := false }
def SocketNilsSaid : Prop := socketNilsRow.holds Try.pinned (OpenSpec.ofChange socketNilsSpec)

/-- ITS FALSE NEIGHBOUR: 'it returns false'. Refute it at one input. -/
def socketNilsWrong : ChangeSpec := { name := "socketNils", fn := fun _ => fun
  | [d1, d2, d3] => { results := [.lit (.bool false)], args := [d1, d2, d3] }
  | _ => none }
def SocketNilsWrongFalsely : Prop := socketNilsRow.holds Try.pinned (OpenSpec.ofChange socketNilsWrong)

/- THE SECOND FORM. 'bulk': how many values and letters a reading holds, each counted each time it is reached (what is shared counts as often as it is met; a slice's spare places count too). A statement '..UptoSaid' is the law's where the arguments, and the package variables that the reading takes, are together of bulk at most 1048576: NARROWER than '..Said'. Prove '..Said' where nothing that the law and all that it calls make is longer than what came in: it says more and counts as full. Else prove '..UptoSaid'. A law counts once. -/
mutual
def uptoBulk {H : Type} : DataW H → Nat
  | .lit (.string bytes) => bytes.length + 1
  | .lit _ => 1
  | .nil => 1
  | .ptr d => uptoBulk d + 1
  | .slice elems spare => uptoBulkAll elems + uptoBulkAll spare + 1
  | .agg parts => uptoBulkAll parts + 1
  | .iface _ d => uptoBulk d + 1
  | .map entries => uptoBulkEntries entries + 1
  | .held _ => 1
def uptoBulkAll {H : Type} : List (DataW H) → Nat
  | [] => 0
  | d :: r => uptoBulk d + uptoBulkAll r
def uptoBulkEntries {H : Type} : List (Lit × DataW H) → Nat
  | [] => 0
  | x :: r => uptoBulkEntry x + uptoBulkEntries r
def uptoBulkEntry {H : Type} : Lit × DataW H → Nat
  | (.string bytes, d) => bytes.length + uptoBulk d + 1
  | (_, d) => uptoBulk d + 1
 end
def uptoSmall : (H : Type) → List (DataW H) → Bool := fun _ ds => decide (uptoBulkAll ds ≤ 1048576)
def OpenSpec.upto (s : _root_.Go.ChangeSpec) : _root_.Go.OpenSpec := { _root_.Go.OpenSpec.ofChange s with cond := some uptoSmall }

/-- 'tithinglaw05.SocketOpens', WHERE WHAT IT READS IS OF BULK AT MOST 1048576: true; the input reads as it did. -/
def socketOpensUptoRow : OpenClaim := { program := "ytfihnifhabbniaa", sum := "6ceb50a3da611f062375d6081ec3eb87cdaf07500caf5797c55c1ae42ec30534", func := "tithing/tithinglaw05.SocketOpens", spec := "socketOpens", apart := false, narrowed := true }
def SocketOpensUptoSaid : Prop := socketOpensUptoRow.holds Try.pinned (OpenSpec.upto socketOpensSpec)

/-- 'tithinglaw05.SocketQueues', WHERE WHAT IT READS IS OF BULK AT MOST 1048576: true; the input reads as it did. -/
def socketQueuesUptoRow : OpenClaim := { program := "ytfihnifhabbniaa", sum := "6ceb50a3da611f062375d6081ec3eb87cdaf07500caf5797c55c1ae42ec30534", func := "tithing/tithinglaw05.SocketQueues", spec := "socketQueues", apart := false, narrowed := true }
def SocketQueuesUptoSaid : Prop := socketQueuesUptoRow.holds Try.pinned (OpenSpec.upto socketQueuesSpec)

/-- 'tithinglaw05.SocketEcho', WHERE WHAT IT READS IS OF BULK AT MOST 1048576: true; the input reads as it did. -/
def socketEchoUptoRow : OpenClaim := { program := "ytfihnifhabbniaa", sum := "6ceb50a3da611f062375d6081ec3eb87cdaf07500caf5797c55c1ae42ec30534", func := "tithing/tithinglaw05.SocketEcho", spec := "socketEcho", apart := false, narrowed := true }
def SocketEchoUptoSaid : Prop := socketEchoUptoRow.holds Try.pinned (OpenSpec.upto socketEchoSpec)

/-- 'tithinglaw05.SocketBytes', WHERE WHAT IT READS IS OF BULK AT MOST 1048576: true; the input reads as it did. -/
def socketBytesUptoRow : OpenClaim := { program := "ytfihnifhabbniaa", sum := "6ceb50a3da611f062375d6081ec3eb87cdaf07500caf5797c55c1ae42ec30534", func := "tithing/tithinglaw05.SocketBytes", spec := "socketBytes", unfollowed := true, recurses := true, apart := false, narrowed := true }
def SocketBytesUptoSaid : Prop := socketBytesUptoRow.holds Try.pinned (OpenSpec.upto socketBytesSpec)

/-- 'tithinglaw05.SocketPlays', WHERE WHAT IT READS IS OF BULK AT MOST 1048576: true; the input reads as it did. -/
def socketPlaysUptoRow : OpenClaim := { program := "ytfihnifhabbniaa", sum := "6ceb50a3da611f062375d6081ec3eb87cdaf07500caf5797c55c1ae42ec30534", func := "tithing/tithinglaw05.SocketPlays", spec := "socketPlays", unfollowed := true, recurses := true, apart := false, narrowed := true }
def SocketPlaysUptoSaid : Prop := socketPlaysUptoRow.holds Try.pinned (OpenSpec.upto socketPlaysSpec)

/-- 'tithinglaw05.SocketCopies', WHERE WHAT IT READS IS OF BULK AT MOST 1048576: true; the input reads as it did. -/
def socketCopiesUptoRow : OpenClaim := { program := "ytfihnifhabbniaa", sum := "6ceb50a3da611f062375d6081ec3eb87cdaf07500caf5797c55c1ae42ec30534", func := "tithing/tithinglaw05.SocketCopies", spec := "socketCopies", unfollowed := true, recurses := true, apart := false, narrowed := true }
def SocketCopiesUptoSaid : Prop := socketCopiesUptoRow.holds Try.pinned (OpenSpec.upto socketCopiesSpec)

/-- 'tithinglaw05.SocketNils', WHERE WHAT IT READS IS OF BULK AT MOST 1048576: true; the input reads as it did. -/
def socketNilsUptoRow : OpenClaim := { program := "ytfihnifhabbniaa", sum := "6ceb50a3da611f062375d6081ec3eb87cdaf07500caf5797c55c1ae42ec30534", func := "tithing/tithinglaw05.SocketNils", spec := "socketNils", unfollowed := true, recurses := true, apart := false, narrowed := true }
def SocketNilsUptoSaid : Prop := socketNilsUptoRow.holds Try.pinned (OpenSpec.upto socketNilsSpec)

end Rows
end Go.Proofs.Ytfihnifhabbniaa

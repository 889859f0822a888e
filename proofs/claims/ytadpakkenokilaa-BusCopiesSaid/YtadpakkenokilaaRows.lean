/-
  No cell of these rows narrows 'for every input' (looked for: loops, veiled, ifaces, maps, wideKeys, modest, calm, conditions, laid).
  DERIVED. THE GIVEN ROWS OF THIS SEAT. 7 by the template 'for every input the law returns true; each argument reads behind the call as it read before'; 0 by the template 'total and deterministic' (their statements: YtadpakkenokilaaTotals.lean).
  GIVEN WITH THE SEED: the statements are not yours to turn. If you find one false, say at which input.
  Laid BY PROGRAM, IN A SANDBOX (cutbox-rows.mjs): the forced cells as the released guide's own fill.sh prints them over the translation dfc67ada4d8f114c… (all of the seat's roots in one cut). By AI agents, Wed Nov 11 2026. No macro, syntax, notation, axiom, sorry.
-/
import Derived.Test.YtadpakkenokilaaChecked
import GoSem.Claim
import GoSem.ClaimJoined
import GoSem.ClaimMapViews
import Derived.JoinedTies
import Derived.KernelRfl
namespace Go.Proofs.Ytadpakkenokilaa
/- THE CELL 'sum', in the pinned program and in every row, IS THE sha256 OF THE DUMP (.gsa) THAT YtadpakkenokilaaProg.lean LOADS. Nothing in Lean hashes anything: it is a label: what it is worth is what the hold of that sum in a sandbox is worth. -/
noncomputable def Try.pinned : Pinned := { name := "ytadpakkenokilaa", sum := "dfc67ada4d8f114c0ce02e5eea404f33efd37683fb622539cee17e7ae98616fc", checked := Try.checked }
namespace Rows
def none {H : Type} : Left H := { results := [], args := [] }

/-- 'tithinglaw02.BusQuiets': WHATEVER THE INPUT: true; the input reads as it did. -/
def busQuietsSpec : ChangeSpec := { name := "busQuiets", fn := fun _ => fun
  | [d1, d2] => { results := [.lit (.bool true)], args := [d1, d2] }
  | _ => none }
def busQuietsRow : OpenClaim := { program := "ytadpakkenokilaa", sum := "dfc67ada4d8f114c0ce02e5eea404f33efd37683fb622539cee17e7ae98616fc", func := "tithing/tithinglaw02.BusQuiets", spec := "busQuiets", unfollowed := true, recurses := true, apart := false }
def BusQuietsSaid : Prop := busQuietsRow.holds Try.pinned (OpenSpec.ofChange busQuietsSpec)

/-- ITS FALSE NEIGHBOUR: 'it returns false'. Refute it at one input. -/
def busQuietsWrong : ChangeSpec := { name := "busQuiets", fn := fun _ => fun
  | [d1, d2] => { results := [.lit (.bool false)], args := [d1, d2] }
  | _ => none }
def BusQuietsWrongFalsely : Prop := busQuietsRow.holds Try.pinned (OpenSpec.ofChange busQuietsWrong)

/-- 'tithinglaw02.BusFinds': WHATEVER THE INPUT: true; the input reads as it did. -/
def busFindsSpec : ChangeSpec := { name := "busFinds", fn := fun _ => fun
  | [d] => { results := [.lit (.bool true)], args := [d] }
  | _ => none }
def busFindsRow : OpenClaim := { program := "ytadpakkenokilaa", sum := "dfc67ada4d8f114c0ce02e5eea404f33efd37683fb622539cee17e7ae98616fc", func := "tithing/tithinglaw02.BusFinds", spec := "busFinds", unfollowed := true, recurses := true, apart := false }
def BusFindsSaid : Prop := busFindsRow.holds Try.pinned (OpenSpec.ofChange busFindsSpec)

/-- ITS FALSE NEIGHBOUR: 'it returns false'. Refute it at one input. -/
def busFindsWrong : ChangeSpec := { name := "busFinds", fn := fun _ => fun
  | [d] => { results := [.lit (.bool false)], args := [d] }
  | _ => none }
def BusFindsWrongFalsely : Prop := busFindsRow.holds Try.pinned (OpenSpec.ofChange busFindsWrong)

/-- 'tithinglaw02.BusAlone': WHATEVER THE INPUT: true; the input reads as it did. -/
def busAloneSpec : ChangeSpec := { name := "busAlone", fn := fun _ => fun
  | [d1, d2] => { results := [.lit (.bool true)], args := [d1, d2] }
  | _ => none }
def busAloneRow : OpenClaim := { program := "ytadpakkenokilaa", sum := "dfc67ada4d8f114c0ce02e5eea404f33efd37683fb622539cee17e7ae98616fc", func := "tithing/tithinglaw02.BusAlone", spec := "busAlone", unfollowed := true, recurses := true, apart := false }
def BusAloneSaid : Prop := busAloneRow.holds Try.pinned (OpenSpec.ofChange busAloneSpec)

/-- ITS FALSE NEIGHBOUR: 'it returns false'. Refute it at one input. -/
def busAloneWrong : ChangeSpec := { name := "busAlone", fn := fun _ => fun
  | [d1, d2] => { results := [.lit (.bool false)], args := [d1, d2] }
  | _ => none }
def BusAloneWrongFalsely : Prop := busAloneRow.holds Try.pinned (OpenSpec.ofChange busAloneWrong)

/-- 'tithinglaw02.BusPlays': WHATEVER THE INPUT: true; the input reads as it did. -/
def busPlaysSpec : ChangeSpec := { name := "busPlays", fn := fun _ => fun
  | [d1, d2] => { results := [.lit (.bool true)], args := [d1, d2] }
  | _ => none }
def busPlaysRow : OpenClaim := { program := "ytadpakkenokilaa", sum := "dfc67ada4d8f114c0ce02e5eea404f33efd37683fb622539cee17e7ae98616fc", func := "tithing/tithinglaw02.BusPlays", spec := "busPlays", unfollowed := true, recurses := true, apart := false }
def BusPlaysSaid : Prop := busPlaysRow.holds Try.pinned (OpenSpec.ofChange busPlaysSpec)

/-- ITS FALSE NEIGHBOUR: 'it returns false'. Refute it at one input. -/
def busPlaysWrong : ChangeSpec := { name := "busPlays", fn := fun _ => fun
  | [d1, d2] => { results := [.lit (.bool false)], args := [d1, d2] }
  | _ => none }
def BusPlaysWrongFalsely : Prop := busPlaysRow.holds Try.pinned (OpenSpec.ofChange busPlaysWrong)

/-- 'tithinglaw02.BusShares': WHATEVER THE INPUT: true; the input reads as it did. -/
def busSharesSpec : ChangeSpec := { name := "busShares", fn := fun _ => fun
  | [d1, d2] => { results := [.lit (.bool true)], args := [d1, d2] }
  | _ => none }
def busSharesRow : OpenClaim := { program := "ytadpakkenokilaa", sum := "dfc67ada4d8f114c0ce02e5eea404f33efd37683fb622539cee17e7ae98616fc", func := "tithing/tithinglaw02.BusShares", spec := "busShares", unfollowed := true, recurses := true, apart := false }
def BusSharesSaid : Prop := busSharesRow.holds Try.pinned (OpenSpec.ofChange busSharesSpec)

/-- ITS FALSE NEIGHBOUR: 'it returns false'. Refute it at one input. -/
def busSharesWrong : ChangeSpec := { name := "busShares", fn := fun _ => fun
  | [d1, d2] => { results := [.lit (.bool false)], args := [d1, d2] }
  | _ => none }
def BusSharesWrongFalsely : Prop := busSharesRow.holds Try.pinned (OpenSpec.ofChange busSharesWrong)

/-- 'tithinglaw02.BusNils': WHATEVER THE INPUT: true; the input reads as it did. -/
def busNilsSpec : ChangeSpec := { name := "busNils", fn := fun _ => fun
  | [d1, d2] => { results := [.lit (.bool true)], args := [d1, d2] }
  | _ => none }
def busNilsRow : OpenClaim := { program := "ytadpakkenokilaa", sum := "dfc67ada4d8f114c0ce02e5eea404f33efd37683fb622539cee17e7ae98616fc", func := "tithing/tithinglaw02.BusNils", spec := "busNils", unfollowed := true, recurses := true, apart := false }
def BusNilsSaid : Prop := busNilsRow.holds Try.pinned (OpenSpec.ofChange busNilsSpec)

/-- ITS FALSE NEIGHBOUR: 'it returns false'. Refute it at one input. -/
def busNilsWrong : ChangeSpec := { name := "busNils", fn := fun _ => fun
  | [d1, d2] => { results := [.lit (.bool false)], args := [d1, d2] }
  | _ => none }
def BusNilsWrongFalsely : Prop := busNilsRow.holds Try.pinned (OpenSpec.ofChange busNilsWrong)

/-- 'tithinglaw02.BusCopies': WHATEVER THE INPUT: true; the input reads as it did. -/
def busCopiesSpec : ChangeSpec := { name := "busCopies", fn := fun _ => fun
  | [d1, d2, d3] => { results := [.lit (.bool true)], args := [d1, d2, d3] }
  | _ => none }
def busCopiesRow : OpenClaim := { program := "ytadpakkenokilaa", sum := "dfc67ada4d8f114c0ce02e5eea404f33efd37683fb622539cee17e7ae98616fc", func := "tithing/tithinglaw02.BusCopies", spec := "busCopies", unfollowed := true, recurses := true, apart := false }
def BusCopiesSaid : Prop := busCopiesRow.holds Try.pinned (OpenSpec.ofChange busCopiesSpec)

/-- ITS FALSE NEIGHBOUR: 'it returns false'. Refute it at one input. -/
def busCopiesWrong : ChangeSpec := { name := "busCopies", fn := fun _ => fun
  | [d1, d2, d3] => { results := [.lit (.bool false)], args := [d1, d2, d3] }
  | _ => none }
def BusCopiesWrongFalsely : Prop := busCopiesRow.holds Try.pinned (OpenSpec.ofChange busCopiesWrong)

/- THE SECOND FORM. 'bulk': how many values and letters a reading holds, each counted each time it is reached (what is shared counts as often as it is met; a slice's spare places count too). A statement '..UptoSaid' is the law's where the arguments, and the package variables that the reading takes, are together of bulk at most 1048576: NARROWER than '..Said'. Prove '..Said' where nothing that the law and all that it calls make is longer than what came in: it says more and counts as full. Else prove '..UptoSaid'. A law counts once. -/
mutual
def uptoBulk {H : Type} : DataW H → Nat
  | .lit (.string bytes) => bytes.length + 1
  | .lit _ => 1
  | .nil => 1
  | .ptr d => uptoBulk d + 1
  | .slice elems spare => uptoBulkAll elems + uptoBulkAll spare + 1
  | .agg parts => uptoBulkAll parts + 1
  | .iface _ d => uptoBulk d + 1
  | .map entries => uptoBulkEntries entries + 1
  | .held _ => 1
def uptoBulkAll {H : Type} : List (DataW H) → Nat
  | [] => 0
  | d :: r => uptoBulk d + uptoBulkAll r
def uptoBulkEntries {H : Type} : List (Lit × DataW H) → Nat
  | [] => 0
  | x :: r => uptoBulkEntry x + uptoBulkEntries r
def uptoBulkEntry {H : Type} : Lit × DataW H → Nat
  | (.string bytes, d) => bytes.length + uptoBulk d + 1
  | (_, d) => uptoBulk d + 1
 end
def uptoSmall : (H : Type) → List (DataW H) → Bool := fun _ ds => decide (uptoBulkAll ds ≤ 1048576)
def OpenSpec.upto (s : _root_.Go.ChangeSpec) : _root_.Go.OpenSpec := { _root_.Go.OpenSpec.ofChange s with cond := some uptoSmall }

/-- 'tithinglaw02.BusQuiets', WHERE WHAT IT READS IS OF BULK AT MOST 1048576: true; the input reads as it did. -/
def busQuietsUptoRow : OpenClaim := { program := "ytadpakkenokilaa", sum := "dfc67ada4d8f114c0ce02e5eea404f33efd37683fb622539cee17e7ae98616fc", func := "tithing/tithinglaw02.BusQuiets", spec := "busQuiets", unfollowed := true, recurses := true, apart := false, narrowed := true }
def BusQuietsUptoSaid : Prop := busQuietsUptoRow.holds Try.pinned (OpenSpec.upto busQuietsSpec)

/-- 'tithinglaw02.BusFinds', WHERE WHAT IT READS IS OF BULK AT MOST 1048576: true; the input reads as it did. -/
def busFindsUptoRow : OpenClaim := { program := "ytadpakkenokilaa", sum := "dfc67ada4d8f114c0ce02e5eea404f33efd37683fb622539cee17e7ae98616fc", func := "tithing/tithinglaw02.BusFinds", spec := "busFinds", unfollowed := true, recurses := true, apart := false, narrowed := true }
def BusFindsUptoSaid : Prop := busFindsUptoRow.holds Try.pinned (OpenSpec.upto busFindsSpec)

/-- 'tithinglaw02.BusAlone', WHERE WHAT IT READS IS OF BULK AT MOST 1048576: true; the input reads as it did. -/
def busAloneUptoRow : OpenClaim := { program := "ytadpakkenokilaa", sum := "dfc67ada4d8f114c0ce02e5eea404f33efd37683fb622539cee17e7ae98616fc", func := "tithing/tithinglaw02.BusAlone", spec := "busAlone", unfollowed := true, recurses := true, apart := false, narrowed := true }
def BusAloneUptoSaid : Prop := busAloneUptoRow.holds Try.pinned (OpenSpec.upto busAloneSpec)

/-- 'tithinglaw02.BusPlays', WHERE WHAT IT READS IS OF BULK AT MOST 1048576: true; the input reads as it did. -/
def busPlaysUptoRow : OpenClaim := { program := "ytadpakkenokilaa", sum := "dfc67ada4d8f114c0ce02e5eea404f33efd37683fb622539cee17e7ae98616fc", func := "tithing/tithinglaw02.BusPlays", spec := "busPlays", unfollowed := true, recurses := true, apart := false, narrowed := true }
def BusPlaysUptoSaid : Prop := busPlaysUptoRow.holds Try.pinned (OpenSpec.upto busPlaysSpec)

/-- 'tithinglaw02.BusShares', WHERE WHAT IT READS IS OF BULK AT MOST 1048576: true; the input reads as it did. -/
def busSharesUptoRow : OpenClaim := { program := "ytadpakkenokilaa", sum := "dfc67ada4d8f114c0ce02e5eea404f33efd37683fb622539cee17e7ae98616fc", func := "tithing/tithinglaw02.BusShares", spec := "busShares", unfollowed := true, recurses := true, apart := false, narrowed := true }
def BusSharesUptoSaid : Prop := busSharesUptoRow.holds Try.pinned (OpenSpec.upto busSharesSpec)

/-- 'tithinglaw02.BusNils', WHERE WHAT IT READS IS OF BULK AT MOST 1048576: true; the input reads as it did. -/
def busNilsUptoRow : OpenClaim := { program := "ytadpakkenokilaa", sum := "dfc67ada4d8f114c0ce02e5eea404f33efd37683fb622539cee17e7ae98616fc", func := "tithing/tithinglaw02.BusNils", spec := "busNils", unfollowed := true, recurses := true, apart := false, narrowed := true }
def BusNilsUptoSaid : Prop := busNilsUptoRow.holds Try.pinned (OpenSpec.upto busNilsSpec)

/-- 'tithinglaw02.BusCopies', WHERE WHAT IT READS IS OF BULK AT MOST 1048576: true; the input reads as it did. -/
def busCopiesUptoRow : OpenClaim := { program := "ytadpakkenokilaa", sum := "dfc67ada4d8f114c0ce02e5eea404f33efd37683fb622539cee17e7ae98616fc", func := "tithing/tithinglaw02.BusCopies", spec := "busCopies", unfollowed := true, recurses := true, apart := false, narrowed := true }
def BusCopiesUptoSaid : Prop := busCopiesUptoRow.holds Try.pinned (OpenSpec.upto busCopiesSpec)

end Rows
end Go.Proofs.Ytadpakkenokilaa

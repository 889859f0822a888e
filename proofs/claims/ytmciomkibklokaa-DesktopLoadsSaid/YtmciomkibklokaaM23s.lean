/- slices.Sorted of maps.Keys, out of the library's contracts. -/
import Derived.WalkKit
import Derived.Test.YtmciomkibklokaaB23shelf
import Derived.Test.YtmciomkibklokaaA27
set_option autoImplicit false
set_option linter.unusedVariables false
namespace Go.Proofs.Ytmciomkibklokaa
open Go Go.Proofs Go.RowKit Go.Maps Go.Sort Go.Shelf
theorem sorts65 (m : Nat) : AnyZI.SortsIn Try.prog Try.sorted47_ren Fence.wide m :=
  ⟨fun blk off cap ss W hH hblk hsz => callsIn_wide.2 (AnyM.slices_Sort_int Try.sort65 blk off cap ss W hH hblk hsz),
   fun p cap W => callsIn_wide.2 (AnyM.slices_Sort_int_none Try.sort65 p cap W)⟩
theorem keysS66 : Go.AM.KeysSorted Try.prog 47 66 3 3 :=
  ⟨fun Bm b nn D0 R w hB hc hown hsz hsz8 => callsIn_wide.1 (AnyZI.sorted_in Try.sorted47 Fence.wide 5 trivial trivial trivial trivial rfl (by omega) (sorts65 _) (enters_of Try.func65 (by kernel_rfl) rfl) 66 #[.pointer (some ⟨Bm, 0, none⟩)] trivial (enters_of Try.func66 (by kernel_rfl) rfl) _ (Maps.size D0) hsz hsz8 _
      (AnyZI.keys_gives Try.keys66 Fence.wide 2 trivial rfl (by omega) Bm b nn D0 w hB hc hown)),
   fun Bm w hB hc => callsIn_wide.1 (AnyZI.sorted_in Try.sorted47 Fence.wide 5 trivial trivial trivial trivial rfl (by omega) (sorts65 _) (enters_of Try.func65 (by kernel_rfl) rfl) 66 #[.pointer (some ⟨Bm, 0, none⟩)] trivial (enters_of Try.func66 (by kernel_rfl) rfl) _ 0 (Nat.zero_le _) (by omega) _
      (AnyZI.keys_gives_nil Try.keys66 Fence.wide 2 trivial rfl Bm w hB hc))⟩
end Go.Proofs.Ytmciomkibklokaa

/-
  DERIVED: THE SHELF's CONTRACTS AT THIS DUMP, IN PLAIN WORDS (tools/lay-plain.mjs out of 'B6Shelf.lean', which tools/lay-shelf.mjs wrote): THE SAME DECLARATIONS UNDER THE SAME NAMES: 'import', 'namespace', 'open', 'def', 'theorem' AND NOTHING ELSE: no command of the shelf's: FOR A HAND-IN. Each laying: the table of numbers ('.._ren') and one theorem, a field a fact of the dump's own or the kernel's comparison; each contract: ONE APPLICATION.
-/
import Derived.Shelf.SlGeneric
import Derived.Shelf.SlIterI.Nil
import Derived.Shelf.SlIterI.Sorted
import Derived.Shelf.SortM.Plain
import Derived.Shelf.SortM.SortNone
import Derived.Ground.GgzProg
import Derived.Ground.SlgmProg
import Derived.Test.YtgnnkpgceahjdaaProg
namespace Go.Proofs
open Go.Shelf
def Try.sorted74_ren : Go.Shelf.Ren := ⟨fun | 6 => 74 | 8 => 152 | 9 => 153 | 11 => 192 | 13 => 194 | 12 => 193 | 23 => 220 | 24 => 221 | 14 => 212 | 15 => 213 | 16 => 214 | 17 => 215 | 18 => 216 | 19 => 217 | 20 => 204 | 21 => 218 | 22 => 219 | 25 => 234 | 26 => 235 | 27 => 236 | 28 => 237 | 29 => 238 | 30 => 211 | 31 => 242 | n => n, fun | 26 => 3 | 28 => 152 | 24 => 55 | 0 => 0 | 3 => 3 | 37 => 269 | 48 => 293 | 50 => 295 | 4 => 4 | 40 => 287 | 39 => 286 | 45 => 139 | 5 => 5 | 9 => 9 | 51 => 303 | 55 => 307 | 57 => 311 | 58 => 312 | 33 => 222 | n => n, fun | n => n⟩
theorem Try.sorted74 : Go.Proofs.SlLaysZI.n6 Try.prog Try.sorted74_ren := {
  mixed := by kernel_rfl
  f6 := ⟨Try.f74.name, by decide, Try.func74.trans (congrArg some (by kernel_rfl))⟩
  f8 := ⟨Try.f152.name, by decide, Try.func152.trans (congrArg some (by kernel_rfl))⟩
  f11 := ⟨Try.f192.name, by decide, Try.func192.trans (congrArg some (by kernel_rfl))⟩
  t0 := Try.underlying0
  a0 := Try.isAgg0
  z0 := Try.sizeOf0
  v0 := Try.zeroValue0
  t24 := Try.underlying55
  a24 := Try.isAgg55
  z24 := Try.sizeOf55
  v24 := Try.zeroValue55
  t26 := Try.underlying3
  a26 := Try.isAgg3
  z26 := Try.sizeOf3
  v26 := Try.zeroValue3
  t28 := Try.underlying152
  a28 := Try.isAgg152
  z28 := Try.sizeOf152
  v28 := Try.zeroValue152
  i26 := by kernel_rfl }
def Try.sort153_ren : Go.Shelf.Ren := ⟨fun | 5 => 153 | 8 => 194 | 7 => 193 | 19 => 220 | 20 => 221 | 10 => 212 | 11 => 213 | 12 => 214 | 13 => 215 | 14 => 216 | 15 => 217 | 16 => 204 | 17 => 218 | 18 => 219 | 30 => 234 | 31 => 235 | 32 => 236 | 33 => 237 | 34 => 238 | 35 => 211 | 40 => 242 | n => n, fun | 23 => 55 | 25 => 3 | 3 => 3 | 32 => 269 | 22 => 55 | 0 => 0 | 44 => 293 | 46 => 295 | 4 => 4 | 36 => 287 | 35 => 286 | 41 => 139 | 5 => 5 | 9 => 9 | 53 => 303 | 57 => 307 | 63 => 311 | 64 => 312 | n => n, fun | n => n⟩
theorem Try.sort153 : Go.Proofs.SlLaysM.n5 Try.prog Try.sort153_ren := {
  mixed := by kernel_rfl
  f5 := ⟨Try.f153.name, by decide, Try.func153.trans (congrArg some (by kernel_rfl))⟩
  f7 := ⟨Try.f193.name, by decide, Try.func193.trans (congrArg some (by kernel_rfl))⟩
  f8 := Try.func194.trans (congrArg some (by kernel_rfl))
  f10 := ⟨Try.f212.name, by decide, Try.func212.trans (congrArg some (by kernel_rfl))⟩
  f11 := ⟨Try.f213.name, by decide, Try.func213.trans (congrArg some (by kernel_rfl))⟩
  f12 := ⟨Try.f214.name, by decide, Try.func214.trans (congrArg some (by kernel_rfl))⟩
  f13 := ⟨Try.f215.name, by decide, Try.func215.trans (congrArg some (by kernel_rfl))⟩
  f14 := ⟨Try.f216.name, by decide, Try.func216.trans (congrArg some (by kernel_rfl))⟩
  f15 := ⟨Try.f217.name, by decide, Try.func217.trans (congrArg some (by kernel_rfl))⟩
  f16 := ⟨Try.f204.name, by decide, Try.func204.trans (congrArg some (by kernel_rfl))⟩
  f17 := ⟨Try.f218.name, by decide, Try.func218.trans (congrArg some (by kernel_rfl))⟩
  f18 := ⟨Try.f219.name, by decide, Try.func219.trans (congrArg some (by kernel_rfl))⟩
  f19 := Try.func220.trans (congrArg some (by kernel_rfl))
  f20 := Try.func221.trans (congrArg some (by kernel_rfl))
  f30 := ⟨Try.f234.name, by decide, Try.func234.trans (congrArg some (by kernel_rfl))⟩
  f31 := Try.func235.trans (congrArg some (by kernel_rfl))
  f32 := Try.func236.trans (congrArg some (by kernel_rfl))
  f33 := ⟨Try.f237.name, by decide, Try.func237.trans (congrArg some (by kernel_rfl))⟩
  f34 := ⟨Try.f238.name, by decide, Try.func238.trans (congrArg some (by kernel_rfl))⟩
  f35 := ⟨Try.f211.name, by decide, Try.func211.trans (congrArg some (by kernel_rfl))⟩
  f40 := ⟨Try.f242.name, by decide, Try.func242.trans (congrArg some (by kernel_rfl))⟩
  t0 := Try.underlying0
  a0 := Try.isAgg0
  z0 := Try.sizeOf0
  v0 := Try.zeroValue0
  t3 := Try.underlying3
  a3 := Try.isAgg3
  z3 := Try.sizeOf3
  v3 := Try.zeroValue3
  t4 := Try.underlying4
  a4 := Try.isAgg4
  z4 := Try.sizeOf4
  v4 := Try.zeroValue4
  t5 := Try.underlying5
  a5 := Try.isAgg5
  z5 := Try.sizeOf5
  v5 := Try.zeroValue5
  t9 := Try.underlying9
  a9 := Try.isAgg9
  z9 := Try.sizeOf9
  v9 := Try.zeroValue9
  t22 := Try.underlying55
  a22 := Try.isAgg55
  z22 := Try.sizeOf55
  v22 := Try.zeroValue55
  t23 := Try.underlying55
  a23 := Try.isAgg55
  z23 := Try.sizeOf55
  v23 := Try.zeroValue55
  t25 := Try.underlying3
  a25 := Try.isAgg3
  z25 := Try.sizeOf3
  v25 := Try.zeroValue3
  t32 := Try.underlying269
  a32 := Try.isAgg269
  z32 := Try.sizeOf269
  v32 := Try.zeroValue269
  t35 := Try.underlying286
  a35 := Try.isAgg286
  z35 := Try.sizeOf286
  v35 := Try.zeroValue286
  t36 := Try.underlying287
  a36 := Try.isAgg287
  z36 := Try.sizeOf287
  v36 := Try.zeroValue287
  t41 := Try.underlying139
  a41 := Try.isAgg139
  z41 := Try.sizeOf139
  v41 := Try.zeroValue139
  t44 := Try.underlying293
  a44 := Try.isAgg293
  z44 := Try.sizeOf293
  v44 := Try.zeroValue293
  t46 := Try.underlying295
  a46 := Try.isAgg295
  z46 := Try.sizeOf295
  v46 := Try.zeroValue295
  t53 := Try.underlying303
  a53 := Try.isAgg303
  z53 := Try.sizeOf303
  v53 := Try.zeroValue303
  t57 := Try.underlying307
  a57 := Try.isAgg307
  z57 := Try.sizeOf307
  v57 := Try.zeroValue307
  t63 := Try.underlying311
  a63 := Try.isAgg311
  z63 := Try.sizeOf311
  v63 := Try.zeroValue311
  t64 := Try.underlying312
  a64 := Try.isAgg312
  z64 := Try.sizeOf312
  v64 := Try.zeroValue312 }
end Go.Proofs

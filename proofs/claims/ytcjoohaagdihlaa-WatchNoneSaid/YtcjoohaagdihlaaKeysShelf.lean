/-
  DERIVED: THE SHELF's CONTRACTS AT THIS DUMP, IN PLAIN WORDS (tools/lay-plain.mjs out of 'YtcjoohaagdihlaaKeysShelfL.lean', which tools/lay-shelf.mjs wrote): THE SAME DECLARATIONS UNDER THE SAME NAMES: 'import', 'namespace', 'open', 'def', 'theorem' AND NOTHING ELSE: no command of the shelf's: FOR A HAND-IN. Each laying: the table of numbers ('.._ren') and one theorem, a field a fact of the dump's own or the kernel's comparison; each contract: ONE APPLICATION.
-/
import Derived.Shelf.SlGeneric
import Derived.Shelf.SlIterI.Nil
import Derived.Ground.GgzProg
import Derived.Test.YtcjoohaagdihlaaProg
namespace Go.Proofs
open Go.Shelf
def Try.keysA_ren : Go.Shelf.Ren := ⟨fun | 7 => 115 | 10 => 143 | n => n, fun | 23 => 108 | 26 => 3 | 3 => 4 | 28 => 142 | 0 => 0 | 27 => 141 | 33 => 52 | 4 => 4 | n => n, fun | n => n⟩
theorem Try.keysA : Go.Proofs.SlLaysZI.n7 Try.prog Try.keysA_ren := {
  mixed := by kernel_rfl
  f7 := ⟨Try.f115.name, by decide, Try.func115.trans (congrArg some (by kernel_rfl))⟩
  f10 := ⟨Try.f143.name, by decide, Try.func143.trans (congrArg some (by kernel_rfl))⟩
  t0 := Try.underlying0
  a0 := Try.isAgg0
  z0 := Try.sizeOf0
  v0 := Try.zeroValue0
  t4 := Try.underlying4
  a4 := Try.isAgg4
  z4 := Try.sizeOf4
  v4 := Try.zeroValue4
  t23 := Try.underlying108
  a23 := Try.isAgg108
  z23 := Try.sizeOf108
  v23 := Try.zeroValue108
  t26 := Try.underlying3
  a26 := Try.isAgg3
  z26 := Try.sizeOf3
  v26 := Try.zeroValue3
  t27 := Try.underlying141
  a27 := Try.isAgg141
  z27 := Try.sizeOf141
  v27 := Try.zeroValue141
  t28 := Try.underlying142
  a28 := Try.isAgg142
  z28 := Try.sizeOf142
  v28 := Try.zeroValue142
  t33 := Try.underlying52
  a33 := Try.isAgg52
  z33 := Try.sizeOf52
  v33 := Try.zeroValue52 }
def Try.keysB_ren : Go.Shelf.Ren := ⟨fun | 7 => 121 | 10 => 148 | n => n, fun | 23 => 128 | 26 => 3 | 3 => 137 | 28 => 142 | 0 => 0 | 27 => 141 | 33 => 52 | 4 => 4 | n => n, fun | n => n⟩
theorem Try.keysB : Go.Proofs.SlLaysZI.n7 Try.prog Try.keysB_ren := {
  mixed := by kernel_rfl
  f7 := ⟨Try.f121.name, by decide, Try.func121.trans (congrArg some (by kernel_rfl))⟩
  f10 := ⟨Try.f148.name, by decide, Try.func148.trans (congrArg some (by kernel_rfl))⟩
  t0 := Try.underlying0
  a0 := Try.isAgg0
  z0 := Try.sizeOf0
  v0 := Try.zeroValue0
  t4 := Try.underlying4
  a4 := Try.isAgg4
  z4 := Try.sizeOf4
  v4 := Try.zeroValue4
  t23 := Try.underlying128
  a23 := Try.isAgg128
  z23 := Try.sizeOf128
  v23 := Try.zeroValue128
  t26 := Try.underlying3
  a26 := Try.isAgg3
  z26 := Try.sizeOf3
  v26 := Try.zeroValue3
  t27 := Try.underlying141
  a27 := Try.isAgg141
  z27 := Try.sizeOf141
  v27 := Try.zeroValue141
  t28 := Try.underlying142
  a28 := Try.isAgg142
  z28 := Try.sizeOf142
  v28 := Try.zeroValue142
  t33 := Try.underlying52
  a33 := Try.isAgg52
  z33 := Try.sizeOf52
  v33 := Try.zeroValue52 }
def Try.sortedA_ren : Go.Shelf.Ren := ⟨fun | 6 => 114 | 8 => 142 | 9 => 127 | 11 => 156 | 13 => 151 | 12 => 150 | 23 => 167 | 24 => 168 | 14 => 158 | 15 => 159 | 16 => 160 | 17 => 161 | 18 => 162 | 19 => 163 | 20 => 164 | 21 => 165 | 22 => 166 | 25 => 171 | 26 => 172 | 27 => 173 | 28 => 174 | 29 => 175 | 30 => 176 | 31 => 178 | n => n, fun | 26 => 3 | 28 => 142 | 24 => 40 | 0 => 0 | 3 => 3 | 37 => 151 | 48 => 176 | 50 => 22 | 4 => 4 | 40 => 168 | 39 => 167 | 45 => 173 | 5 => 5 | 9 => 9 | 51 => 180 | 55 => 184 | 57 => 186 | 58 => 187 | 33 => 52 | n => n, fun | n => n⟩
theorem Try.sortedA : Go.Proofs.SlLaysZI.n6 Try.prog Try.sortedA_ren := {
  mixed := by kernel_rfl
  f6 := ⟨Try.f114.name, by decide, Try.func114.trans (congrArg some (by kernel_rfl))⟩
  f8 := ⟨Try.f142.name, by decide, Try.func142.trans (congrArg some (by kernel_rfl))⟩
  f11 := ⟨Try.f156.name, by decide, Try.func156.trans (congrArg some (by kernel_rfl))⟩
  t0 := Try.underlying0
  a0 := Try.isAgg0
  z0 := Try.sizeOf0
  v0 := Try.zeroValue0
  t24 := Try.underlying40
  a24 := Try.isAgg40
  z24 := Try.sizeOf40
  v24 := Try.zeroValue40
  t26 := Try.underlying3
  a26 := Try.isAgg3
  z26 := Try.sizeOf3
  v26 := Try.zeroValue3
  t28 := Try.underlying142
  a28 := Try.isAgg142
  z28 := Try.sizeOf142
  v28 := Try.zeroValue142
  i26 := by kernel_rfl }
end Go.Proofs

/-
  DERIVED: THE SHELF's CONTRACTS AT THIS DUMP, IN PLAIN WORDS (tools/lay-plain.mjs out of 'YtcjoohaagdihlaaDoorHexShelfL.lean', which tools/lay-shelf.mjs wrote): THE SAME DECLARATIONS UNDER THE SAME NAMES: 'import', 'namespace', 'open', 'def', 'theorem' AND NOTHING ELSE: no command of the shelf's: FOR A HAND-IN. Each laying: the table of numbers ('.._ren') and one theorem, a field a fact of the dump's own or the kernel's comparison; each contract: ONE APPLICATION.
-/
import Derived.Shelf.Strings.Repeat
import Derived.Shelf.LaysM
import Derived.Shelf.Small.Strs
import Derived.Ground.NamesProg
import Derived.Ground.Names2Prog
import Derived.Test.YtcjoohaagdihlaaDoorProg
namespace Go.Proofs
open Go.Shelf
def Tryd.lays137_ren : Go.Shelf.Ren := ⟨fun | 137 => 101 | 217 => 131 | 266 => 151 | n => n, fun | 9 => 9 | 5 => 5 | 3 => 3 | n => n, fun | n => n⟩
theorem Tryd.lays137 : Go.Proofs.Lays.n137 Tryd.prog Tryd.lays137_ren := {
  mixed := by kernel_rfl
  f137 := Tryd.func101.trans (congrArg some (by kernel_rfl))
  f217 := Tryd.func131.trans (congrArg some (by kernel_rfl))
  f266 := Tryd.func151.trans (congrArg some (by kernel_rfl))
  t3 := Tryd.underlying3
  a3 := Tryd.isAgg3
  z3 := Tryd.sizeOf3
  v3 := Tryd.zeroValue3
  t5 := Tryd.underlying5
  a5 := Tryd.isAgg5
  z5 := Tryd.sizeOf5
  v5 := Tryd.zeroValue5
  t9 := Tryd.underlying9
  a9 := Tryd.isAgg9
  z9 := Tryd.sizeOf9
  v9 := Tryd.zeroValue9 }
open Go.RowKit in
/-- strings.IndexByte: "IndexByte returns the index of the first instance of c in s, or -1 if c is not present in s.": IT RETURNS 'Lib.indexByte s c'; the world is as it was. (LAID: no walk: one application.) -/
theorem Tryd.strings_IndexByte (s : ByteArray) (c : Int) (w : World) :
    Calls Tryd.prog 101 #[.string s, .int .u8 c] w fun e w' => e = .returned (.int .i64 (Lib.indexByte s.data.toList c.toNat.toUInt8)) ∧ w' = w := Any.strings_IndexByte Tryd.lays137 s c w
def Tryd.lays105_ren : Go.Shelf.Ren := ⟨fun | 105 => 107 | 212 => 134 | 99 => 135 | 165 => 136 | 166 => 137 | 170 => 138 | 169 => 139 | 263 => 156 | 264 => 157 | 206 => 158 | 240 => 159 | 241 => 160 | 276 => 181 | 277 => 182 | n => n, fun | 9 => 9 | 3 => 3 | 4 => 4 | 20 => 20 | 0 => 0 | 46 => 128 | 109 => 154 | 5 => 5 | 72 => 159 | 76 => 163 | 51 => 178 | 146 => 179 | 53 => 66 | 148 => 181 | 70 => 157 | 37 => 152 | 75 => 162 | 127 => 183 | 164 => 199 | 80 => 166 | n => n, fun | n => n⟩
theorem Tryd.lays105 : Go.Proofs.Lays.n105 Tryd.prog Tryd.lays105_ren := {
  mixed := by kernel_rfl
  f99 := Tryd.func135.trans (congrArg some (by kernel_rfl))
  f105 := Tryd.func107.trans (congrArg some (by kernel_rfl))
  f165 := Tryd.func136.trans (congrArg some (by kernel_rfl))
  f166 := Tryd.func137.trans (congrArg some (by kernel_rfl))
  f169 := Tryd.func139.trans (congrArg some (by kernel_rfl))
  f170 := Tryd.func138.trans (congrArg some (by kernel_rfl))
  f206 := Tryd.func158.trans (congrArg some (by kernel_rfl))
  f212 := Tryd.func134.trans (congrArg some (by kernel_rfl))
  f240 := Tryd.func159.trans (congrArg some (by kernel_rfl))
  f241 := Tryd.func160.trans (congrArg some (by kernel_rfl))
  f263 := Tryd.func156.trans (congrArg some (by kernel_rfl))
  f264 := Tryd.func157.trans (congrArg some (by kernel_rfl))
  f276 := Tryd.func181.trans (congrArg some (by kernel_rfl))
  f277 := Tryd.func182.trans (congrArg some (by kernel_rfl))
  t0 := Tryd.underlying0
  a0 := Tryd.isAgg0
  z0 := Tryd.sizeOf0
  v0 := Tryd.zeroValue0
  t3 := Tryd.underlying3
  a3 := Tryd.isAgg3
  z3 := Tryd.sizeOf3
  v3 := Tryd.zeroValue3
  t4 := Tryd.underlying4
  a4 := Tryd.isAgg4
  z4 := Tryd.sizeOf4
  v4 := Tryd.zeroValue4
  t5 := Tryd.underlying5
  a5 := Tryd.isAgg5
  z5 := Tryd.sizeOf5
  v5 := Tryd.zeroValue5
  t9 := Tryd.underlying9
  a9 := Tryd.isAgg9
  z9 := Tryd.sizeOf9
  v9 := Tryd.zeroValue9
  t20 := Tryd.underlying20
  a20 := Tryd.isAgg20
  z20 := Tryd.sizeOf20
  v20 := Tryd.zeroValue20
  t37 := Tryd.underlying152
  a37 := Tryd.isAgg152
  z37 := Tryd.sizeOf152
  v37 := Tryd.zeroValue152
  t46 := Tryd.underlying128
  a46 := Tryd.isAgg128
  z46 := Tryd.sizeOf128
  v46 := Tryd.zeroValue128
  t51 := Tryd.underlying178
  a51 := Tryd.isAgg178
  z51 := Tryd.sizeOf178
  v51 := Tryd.zeroValue178
  t53 := Tryd.underlying66
  a53 := Tryd.isAgg66
  z53 := Tryd.sizeOf66
  v53 := Tryd.zeroValue66
  t70 := Tryd.underlying157
  a70 := Tryd.isAgg157
  z70 := Tryd.sizeOf157
  v70 := Tryd.zeroValue157
  t72 := Tryd.underlying159
  a72 := Tryd.isAgg159
  z72 := Tryd.sizeOf159
  v72 := Tryd.zeroValue159
  t75 := Tryd.underlying162
  a75 := Tryd.isAgg162
  z75 := Tryd.sizeOf162
  v75 := Tryd.zeroValue162
  t76 := Tryd.underlying163
  a76 := Tryd.isAgg163
  z76 := Tryd.sizeOf163
  v76 := Tryd.zeroValue163
  t109 := Tryd.underlying154
  a109 := Tryd.isAgg154
  z109 := Tryd.sizeOf154
  v109 := Tryd.zeroValue154
  t127 := Tryd.underlying183
  a127 := Tryd.isAgg183
  z127 := Tryd.sizeOf183
  v127 := Tryd.zeroValue183
  t146 := Tryd.underlying179
  a146 := Tryd.isAgg179
  z146 := Tryd.sizeOf179
  v146 := Tryd.zeroValue179
  t148 := Tryd.underlying181
  a148 := Tryd.isAgg181
  z148 := Tryd.sizeOf181
  v148 := Tryd.zeroValue181
  t164 := Tryd.underlying199
  a164 := Tryd.isAgg199
  z164 := Tryd.sizeOf199
  v164 := Tryd.zeroValue199 }
theorem Tryd.Builder_Extra_105 : Builder.Extra Tryd.prog Tryd.lays105_ren := {
  sizeBuilder := by kernel_rfl
  liesBuilder := by kernel_rfl
  t5 := Tryd.underlying5
  a5 := Tryd.isAgg5
  z5 := Tryd.sizeOf5
  v5 := Tryd.zeroValue5
  infoByte := by kernel_rfl
  cellsByte := by kernel_rfl
  sizeByte := by kernel_rfl
  neB5 := by decide }
open Go.RowKit Go.Lib in
/-- **strings.Repeat: count ≥ 0, the result within one allocation: count copies of s.** (LAID: no walk: one application.) -/
theorem Tryd.strings_Repeat (s : ByteArray) (c : Nat) (w : World) (hc : c ≤ 9223372036854775807) (hlen : s.size * c ≤ 140737488355328) :
    Calls Tryd.prog 107 #[.string s, .int .i64 c] w fun e w' => e = .returned (.string ⟨(Lib.repeatL s.data.toList c).toArray⟩) ∧ Below w.heap.size w w' := Any.strings_Repeat Tryd.lays105 Tryd.Builder_Extra_105 s c w hc hlen
end Go.Proofs

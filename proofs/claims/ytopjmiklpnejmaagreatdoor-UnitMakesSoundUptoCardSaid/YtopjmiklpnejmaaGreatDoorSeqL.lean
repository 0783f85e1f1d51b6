/-
  DERIVED: THE SHELF's CONTRACTS AT THIS DUMP, IN PLAIN WORDS (tools/lay-plain.mjs out of 'YtopjmiklpnejmaaGreatDoorSeqL.lean', which tools/lay-shelf.mjs wrote): THE SAME DECLARATIONS UNDER THE SAME NAMES: 'import', 'namespace', 'open', 'def', 'theorem' AND NOTHING ELSE: no command of the shelf's: FOR A HAND-IN. Each laying: the table of numbers ('.._ren') and one theorem, a field a fact of the dump's own or the kernel's comparison; each contract: ONE APPLICATION.
-/
import Derived.Shelf.SlGeneric
import Derived.Shelf.SlIter.Sorted
import Derived.Ground.GgzProg
import Derived.Test.YtopjmiklpnejmaaGreatDoorProg
namespace Go.Proofs
open Go.Shelf
def Tryz.zSorted_ren : Go.Shelf.Ren := ⟨fun | 6 => 136 | 8 => 184 | 9 => 83 | 11 => 218 | 13 => 146 | 12 => 145 | 23 => 199 | 24 => 200 | 14 => 190 | 15 => 191 | 16 => 192 | 17 => 193 | 18 => 194 | 19 => 195 | 20 => 196 | 21 => 197 | 22 => 198 | 25 => 221 | 26 => 222 | 27 => 223 | 28 => 224 | 29 => 225 | 30 => 226 | 31 => 240 | n => n, fun | 26 => 9 | 28 => 160 | 24 => 25 | 0 => 0 | 3 => 3 | 37 => 170 | 48 => 231 | 50 => 233 | 4 => 4 | 40 => 224 | 39 => 223 | 45 => 228 | 5 => 5 | 9 => 9 | 51 => 246 | 55 => 65 | 57 => 255 | 58 => 155 | 33 => 22 | n => n, fun | n => n⟩
theorem Tryz.zSorted : Go.Proofs.SlLaysZ.n6 Tryz.prog Tryz.zSorted_ren := {
  mixed := by kernel_rfl
  f6 := ⟨Tryz.f136.name, by decide, Tryz.func136.trans (congrArg some (by kernel_rfl))⟩
  f8 := ⟨Tryz.f184.name, by decide, Tryz.func184.trans (congrArg some (by kernel_rfl))⟩
  f11 := ⟨Tryz.f218.name, by decide, Tryz.func218.trans (congrArg some (by kernel_rfl))⟩
  t0 := Tryz.underlying0
  a0 := Tryz.isAgg0
  z0 := Tryz.sizeOf0
  v0 := Tryz.zeroValue0
  t24 := Tryz.underlying25
  a24 := Tryz.isAgg25
  z24 := Tryz.sizeOf25
  v24 := Tryz.zeroValue25
  t26 := Tryz.underlying9
  a26 := Tryz.isAgg9
  z26 := Tryz.sizeOf9
  v26 := Tryz.zeroValue9
  t28 := Tryz.underlying160
  a28 := Tryz.isAgg160
  z28 := Tryz.sizeOf160
  v28 := Tryz.zeroValue160
  i26 := by kernel_rfl }
end Go.Proofs

/-
  DERIVED: THE SHELF's CONTRACTS AT THIS DUMP, IN PLAIN WORDS (tools/lay-plain.mjs out of 'TrydShelfS.lean', which tools/lay-shelf.mjs wrote): THE SAME DECLARATIONS UNDER THE SAME NAMES: 'import', 'namespace', 'open', 'def', 'theorem' AND NOTHING ELSE: no command of the shelf's: FOR A HAND-IN. Each laying: the table of numbers ('.._ren') and one theorem, a field a fact of the dump's own or the kernel's comparison; each contract: ONE APPLICATION.
-/
import Derived.Shelf.SlSortCmp.WholeK
import Derived.Ground.SlsfProg
import Derived.Test.YtdapimjhjnbfdaaDoorProg
namespace Go.Proofs
open Go.Shelf
def Tryd.sortE_ren : Go.Shelf.Ren := ⟨fun | 6 => 131 | 15 => 114 | 14 => 156 | 28 => 144 | 29 => 145 | 20 => 172 | 21 => 173 | 22 => 174 | 23 => 175 | 24 => 176 | 25 => 177 | 26 => 178 | 27 => 179 | 46 => 195 | 47 => 160 | 48 => 161 | 49 => 196 | 50 => 197 | 57 => 203 | n => n, fun | 22 => 136 | 24 => 138 | 25 => 141 | 3 => 3 | 39 => 153 | 0 => 0 | 53 => 175 | 55 => 125 | 4 => 4 | 46 => 169 | 45 => 168 | 50 => 105 | 5 => 5 | 9 => 9 | 66 => 190 | 70 => 51 | 76 => 213 | 77 => 214 | n => n, fun | n => n⟩
theorem Tryd.sortE : Go.Proofs.SlLaysF0.n6 Tryd.prog Tryd.sortE_ren := {
  mixed := by kernel_rfl
  f6 := ⟨Tryd.f131.name, by decide, Tryd.func131.trans (congrArg some (by kernel_rfl))⟩
  f14 := ⟨Tryd.f156.name, by decide, Tryd.func156.trans (congrArg some (by kernel_rfl))⟩
  f15 := Tryd.func114.trans (congrArg some (by kernel_rfl))
  f20 := ⟨Tryd.f172.name, by decide, Tryd.func172.trans (congrArg some (by kernel_rfl))⟩
  f21 := ⟨Tryd.f173.name, by decide, Tryd.func173.trans (congrArg some (by kernel_rfl))⟩
  f22 := ⟨Tryd.f174.name, by decide, Tryd.func174.trans (congrArg some (by kernel_rfl))⟩
  f23 := ⟨Tryd.f175.name, by decide, Tryd.func175.trans (congrArg some (by kernel_rfl))⟩
  f24 := ⟨Tryd.f176.name, by decide, Tryd.func176.trans (congrArg some (by kernel_rfl))⟩
  f25 := ⟨Tryd.f177.name, by decide, Tryd.func177.trans (congrArg some (by kernel_rfl))⟩
  f26 := ⟨Tryd.f178.name, by decide, Tryd.func178.trans (congrArg some (by kernel_rfl))⟩
  f27 := ⟨Tryd.f179.name, by decide, Tryd.func179.trans (congrArg some (by kernel_rfl))⟩
  f28 := Tryd.func144.trans (congrArg some (by kernel_rfl))
  f29 := Tryd.func145.trans (congrArg some (by kernel_rfl))
  f46 := ⟨Tryd.f195.name, by decide, Tryd.func195.trans (congrArg some (by kernel_rfl))⟩
  f47 := Tryd.func160.trans (congrArg some (by kernel_rfl))
  f48 := Tryd.func161.trans (congrArg some (by kernel_rfl))
  f49 := ⟨Tryd.f196.name, by decide, Tryd.func196.trans (congrArg some (by kernel_rfl))⟩
  f50 := ⟨Tryd.f197.name, by decide, Tryd.func197.trans (congrArg some (by kernel_rfl))⟩
  f57 := ⟨Tryd.f203.name, by decide, Tryd.func203.trans (congrArg some (by kernel_rfl))⟩
  t0 := Tryd.underlying0
  a0 := Tryd.isAgg0
  z0 := Tryd.sizeOf0
  v0 := Tryd.zeroValue0
  t3 := Tryd.underlying3
  a3 := Tryd.isAgg3
  z3 := Tryd.sizeOf3
  v3 := Tryd.zeroValue3
  t4 := Tryd.underlying4
  a4 := Tryd.isAgg4
  z4 := Tryd.sizeOf4
  v4 := Tryd.zeroValue4
  t5 := Tryd.underlying5
  a5 := Tryd.isAgg5
  z5 := Tryd.sizeOf5
  v5 := Tryd.zeroValue5
  t9 := Tryd.underlying9
  a9 := Tryd.isAgg9
  z9 := Tryd.sizeOf9
  v9 := Tryd.zeroValue9
  t22 := Tryd.underlying136
  a22 := Tryd.isAgg136
  z22 := Tryd.sizeOf136
  v22 := Tryd.zeroValue136
  t25 := Tryd.underlying141
  a25 := Tryd.isAgg141
  z25 := Tryd.sizeOf141
  v25 := Tryd.zeroValue141
  t39 := Tryd.underlying153
  a39 := Tryd.isAgg153
  z39 := Tryd.sizeOf153
  v39 := Tryd.zeroValue153
  t45 := Tryd.underlying168
  a45 := Tryd.isAgg168
  z45 := Tryd.sizeOf168
  v45 := Tryd.zeroValue168
  t46 := Tryd.underlying169
  a46 := Tryd.isAgg169
  z46 := Tryd.sizeOf169
  v46 := Tryd.zeroValue169
  t50 := Tryd.underlying105
  a50 := Tryd.isAgg105
  z50 := Tryd.sizeOf105
  v50 := Tryd.zeroValue105
  t53 := Tryd.underlying175
  a53 := Tryd.isAgg175
  z53 := Tryd.sizeOf175
  v53 := Tryd.zeroValue175
  t55 := Tryd.underlying125
  a55 := Tryd.isAgg125
  z55 := Tryd.sizeOf125
  v55 := Tryd.zeroValue125
  t66 := Tryd.underlying190
  a66 := Tryd.isAgg190
  z66 := Tryd.sizeOf190
  v66 := Tryd.zeroValue190
  t70 := Tryd.underlying51
  a70 := Tryd.isAgg51
  z70 := Tryd.sizeOf51
  v70 := Tryd.zeroValue51
  t76 := Tryd.underlying213
  a76 := Tryd.isAgg213
  z76 := Tryd.sizeOf213
  v76 := Tryd.zeroValue213
  t77 := Tryd.underlying214
  a77 := Tryd.isAgg214
  z77 := Tryd.sizeOf214
  v77 := Tryd.zeroValue214 }
end Go.Proofs

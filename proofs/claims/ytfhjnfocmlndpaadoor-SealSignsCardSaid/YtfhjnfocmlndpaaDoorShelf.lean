/- The contracts of the kit that are used here, laid at this program (written by the kit's own tool). -/
import Derived.Ground.NamesProg
import Derived.Shelf.Strings.SlTrimAscii
import Derived.Shelf.Small.Strs
import Derived.Test.YtfhjnfocmlndpaaDoorProg
namespace Go.Proofs
open Go.Shelf
def Tryd.lays160_ren : Go.Shelf.Ren := ⟨fun | 160 => 142 | 232 => 168 | 231 => 167 | 227 => 169 | 234 => 171 | 233 => 170 | 236 => 173 | 235 => 172 | 228 => 189 | 271 => 192 | 151 => 191 | 197 => 190 | 120 => 208 | 152 => 207 | 260 => 206 | 137 => 141 | 119 => 214 | 224 => 215 | 225 => 216 | 217 => 166 | 266 => 188 | n => n, fun | 9 => 9 | 4 => 4 | 3 => 3 | 5 => 5 | 117 => 219 | 116 => 218 | 0 => 0 | 124 => 222 | 21 => 21 | 105 => 239 | 46 => 148 | 119 => 276 | 139 => 279 | 138 => 278 | n => n, fun | 3 => 4 | 4 => 5 | n => n⟩
theorem Tryd.lays160 : Go.Proofs.Lays.n160 Tryd.prog Tryd.lays160_ren := {
  mixed := by kernel_rfl
  f119 := Tryd.func214.trans (congrArg some (by kernel_rfl))
  f120 := Tryd.func208.trans (congrArg some (by kernel_rfl))
  f137 := Tryd.func141.trans (congrArg some (by kernel_rfl))
  f151 := Tryd.func191.trans (congrArg some (by kernel_rfl))
  f152 := Tryd.func207.trans (congrArg some (by kernel_rfl))
  f160 := Tryd.func142.trans (congrArg some (by kernel_rfl))
  f197 := Tryd.func190.trans (congrArg some (by kernel_rfl))
  f217 := Tryd.func166.trans (congrArg some (by kernel_rfl))
  f224 := Tryd.func215.trans (congrArg some (by kernel_rfl))
  f225 := Tryd.func216.trans (congrArg some (by kernel_rfl))
  f227 := Tryd.func169.trans (congrArg some (by kernel_rfl))
  f228 := Tryd.func189.trans (congrArg some (by kernel_rfl))
  f231 := Tryd.func167.trans (congrArg some (by kernel_rfl))
  f232 := Tryd.func168.trans (congrArg some (by kernel_rfl))
  f233 := Tryd.func170.trans (congrArg some (by kernel_rfl))
  f234 := Tryd.func171.trans (congrArg some (by kernel_rfl))
  f235 := Tryd.func172.trans (congrArg some (by kernel_rfl))
  f236 := Tryd.func173.trans (congrArg some (by kernel_rfl))
  f260 := Tryd.func206.trans (congrArg some (by kernel_rfl))
  f266 := Tryd.func188.trans (congrArg some (by kernel_rfl))
  f271 := Tryd.func192.trans (congrArg some (by kernel_rfl))
  t0 := Tryd.underlying0
  a0 := Tryd.isAgg0
  z0 := Tryd.sizeOf0
  v0 := Tryd.zeroValue0
  t3 := Tryd.underlying3
  a3 := Tryd.isAgg3
  z3 := Tryd.sizeOf3
  v3 := Tryd.zeroValue3
  t4 := Tryd.underlying4
  a4 := Tryd.isAgg4
  z4 := Tryd.sizeOf4
  v4 := Tryd.zeroValue4
  t5 := Tryd.underlying5
  a5 := Tryd.isAgg5
  z5 := Tryd.sizeOf5
  v5 := Tryd.zeroValue5
  t9 := Tryd.underlying9
  a9 := Tryd.isAgg9
  z9 := Tryd.sizeOf9
  v9 := Tryd.zeroValue9
  t21 := Tryd.underlying21
  a21 := Tryd.isAgg21
  z21 := Tryd.sizeOf21
  v21 := Tryd.zeroValue21
  t46 := Tryd.underlying148
  a46 := Tryd.isAgg148
  z46 := Tryd.sizeOf148
  v46 := Tryd.zeroValue148
  t105 := Tryd.underlying239
  a105 := Tryd.isAgg239
  z105 := Tryd.sizeOf239
  v105 := Tryd.zeroValue239
  t116 := Tryd.underlying218
  a116 := Tryd.isAgg218
  z116 := Tryd.sizeOf218
  t117 := Tryd.underlying219
  a117 := Tryd.isAgg219
  z117 := Tryd.sizeOf219
  v117 := Tryd.zeroValue219
  t119 := Tryd.underlying276
  a119 := Tryd.isAgg276
  z119 := Tryd.sizeOf276
  t124 := Tryd.underlying222
  a124 := Tryd.isAgg222
  z124 := Tryd.sizeOf222
  v124 := Tryd.zeroValue222
  t138 := Tryd.underlying278
  a138 := Tryd.isAgg278
  z138 := Tryd.sizeOf278
  v138 := Tryd.zeroValue278
  t139 := Tryd.underlying279
  a139 := Tryd.isAgg279
  z139 := Tryd.sizeOf279
  v139 := Tryd.zeroValue279
  g3 := by kernel_rfl
  g4 := by kernel_rfl }
def Tryd.lays137_ren : Go.Shelf.Ren := ⟨fun | 137 => 141 | 217 => 166 | 266 => 188 | n => n, fun | 9 => 9 | 5 => 5 | 3 => 3 | n => n, fun | n => n⟩
theorem Tryd.lays137 : Go.Proofs.Lays.n137 Tryd.prog Tryd.lays137_ren := {
  mixed := by kernel_rfl
  f137 := Tryd.func141.trans (congrArg some (by kernel_rfl))
  f217 := Tryd.func166.trans (congrArg some (by kernel_rfl))
  f266 := Tryd.func188.trans (congrArg some (by kernel_rfl))
  t3 := Tryd.underlying3
  a3 := Tryd.isAgg3
  z3 := Tryd.sizeOf3
  v3 := Tryd.zeroValue3
  t5 := Tryd.underlying5
  a5 := Tryd.isAgg5
  z5 := Tryd.sizeOf5
  v5 := Tryd.zeroValue5
  t9 := Tryd.underlying9
  a9 := Tryd.isAgg9
  z9 := Tryd.sizeOf9
  v9 := Tryd.zeroValue9 }
end Go.Proofs

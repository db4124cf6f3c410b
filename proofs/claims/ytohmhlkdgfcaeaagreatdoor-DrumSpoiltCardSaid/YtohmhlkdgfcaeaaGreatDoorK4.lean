/- What all claims of this seat share, part 4: the engine, the contracts, the frame. -/
import Derived.Shelf.Strings.Builder1
import Derived.Shelf.Strings.Builder2
import Derived.Shelf.Strings.OnBuilder
import Derived.Shelf.Strconv.Itoa0
import Derived.Shelf.Strconv.Itoa1
import Derived.Shelf.LaysM
import Derived.Shelf.Strconv.Itoa2
import Derived.Shelf.Strconv.Itoa3
import Derived.Shelf.Strings.Search1
import Derived.Shelf.Strings.Search2
import Derived.Shelf.Strings.Search3
import Derived.Shelf.Strings.Cut
import Derived.Shelf.Strings.Count
import Derived.Shelf.Strings.Shaped
import Derived.Shelf.Strings.Split
import Derived.Shelf.Bits.Mul64
import Derived.Shelf.Unicode.DecodeSlow
import Derived.Shelf.Unicode.DecodeAny
import Derived.Test.YtohmhlkdgfcaeaaGreatDoorProg
import Derived.Test.YtohmhlkdgfcaeaaGreatDoorK3
set_option linter.unusedVariables false
set_option linter.unusedSimpArgs false
namespace Go.Proofs
open Go.Shelf
def Tryz.lays156_ren : Go.Shelf.Ren := ⟨fun | 156 => 157 | 165 => 177 | 166 => 178 | 169 => 179 | 240 => 190 | 241 => 191 | 276 => 199 | 277 => 200 | n => n, fun | 31 => 141 | 9 => 9 | 3 => 3 | 4 => 4 | 0 => 0 | 20 => 20 | 72 => 197 | 76 => 201 | 70 => 195 | 37 => 73 | 75 => 200 | 127 => 209 | 164 => 219 | 5 => 5 | 80 => 203 | n => n, fun | n => n⟩
theorem Tryz.lays156 : Go.Proofs.Lays.n156 Tryz.prog Tryz.lays156_ren := {
 mixed := by kernel_rfl
 f156 := Tryz.func157.trans (congrArg some (by kernel_rfl))
 f165 := Tryz.func177.trans (congrArg some (by kernel_rfl))
 f166 := Tryz.func178.trans (congrArg some (by kernel_rfl))
 f169 := Tryz.func179.trans (congrArg some (by kernel_rfl))
 f240 := Tryz.func190.trans (congrArg some (by kernel_rfl))
 f241 := Tryz.func191.trans (congrArg some (by kernel_rfl))
 f276 := Tryz.func199.trans (congrArg some (by kernel_rfl))
 f277 := Tryz.func200.trans (congrArg some (by kernel_rfl))
 t0 := Tryz.underlying0
 a0 := Tryz.isAgg0
 z0 := Tryz.sizeOf0
 v0 := Tryz.zeroValue0
 t3 := Tryz.underlying3
 a3 := Tryz.isAgg3
 z3 := Tryz.sizeOf3
 v3 := Tryz.zeroValue3
 t4 := Tryz.underlying4
 a4 := Tryz.isAgg4
 z4 := Tryz.sizeOf4
 v4 := Tryz.zeroValue4
 t9 := Tryz.underlying9
 a9 := Tryz.isAgg9
 z9 := Tryz.sizeOf9
 v9 := Tryz.zeroValue9
 t20 := Tryz.underlying20
 a20 := Tryz.isAgg20
 z20 := Tryz.sizeOf20
 v20 := Tryz.zeroValue20
 t31 := Tryz.underlying141
 a31 := Tryz.isAgg141
 z31 := Tryz.sizeOf141
 v31 := Tryz.zeroValue141
 t37 := Tryz.underlying73
 a37 := Tryz.isAgg73
 z37 := Tryz.sizeOf73
 v37 := Tryz.zeroValue73
 t70 := Tryz.underlying195
 a70 := Tryz.isAgg195
 z70 := Tryz.sizeOf195
 v70 := Tryz.zeroValue195
 t72 := Tryz.underlying197
 a72 := Tryz.isAgg197
 z72 := Tryz.sizeOf197
 v72 := Tryz.zeroValue197
 t75 := Tryz.underlying200
 a75 := Tryz.isAgg200
 z75 := Tryz.sizeOf200
 v75 := Tryz.zeroValue200
 t76 := Tryz.underlying201
 a76 := Tryz.isAgg201
 z76 := Tryz.sizeOf201
 v76 := Tryz.zeroValue201
 t127 := Tryz.underlying209
 a127 := Tryz.isAgg209
 z127 := Tryz.sizeOf209
 v127 := Tryz.zeroValue209
 t164 := Tryz.underlying219
 a164 := Tryz.isAgg219
 z164 := Tryz.sizeOf219
 v164 := Tryz.zeroValue219 }
theorem Tryz.Builder_Extra_156 : Builder.Extra Tryz.prog Tryz.lays156_ren := {
 sizeBuilder := by kernel_rfl
 liesBuilder := by kernel_rfl
 t5 := Tryz.underlying5
 a5 := Tryz.isAgg5
 z5 := Tryz.sizeOf5
 v5 := Tryz.zeroValue5
 infoByte := by kernel_rfl
 cellsByte := by kernel_rfl
 sizeByte := by kernel_rfl
 neB5 := by decide }
open Go.RowKit in
theorem Tryz.strings_Join_none (a : Option Addr) (c : Nat) (sep : ByteArray) (w : World) :
  Calls Tryz.prog 157 #[.slice a 0 c, .string sep] w fun e w' => e = .returned (.string ⟨#[]⟩) ∧ w' = w := Any.strings_Join_none Tryz.lays156 Tryz.Builder_Extra_156 a c sep w
open Go.RowKit in
theorem Tryz.strings_Join (bk o c : Nat) (xs : List ByteArray) (sep : ByteArray) (w : World) (hcells : ∀ (j : Nat) x, xs[j]? = some x → w.cell? ⟨bk, o + j, none⟩ = some (.string x)) (hbk : bk < w.heap.size) (hN : xs.length ≤ 140737488355328) (hcap : xs.length ≤ c) (hlen : (Lib.join (xs.map (·.data.toList)) sep.data.toList).length ≤ 140737488355328) :
  Calls Tryz.prog 157 #[.slice (some ⟨bk, o, none⟩) xs.length c, .string sep] w fun e w' => e = .returned (.string ⟨(Lib.join (xs.map (·.data.toList)) sep.data.toList).toArray⟩) ∧ Below w.heap.size w w' := Any.strings_Join Tryz.lays156 Tryz.Builder_Extra_156 bk o c xs sep w hcells hbk hN hcap hlen
def Tryz.laysM171_ren : Go.Shelf.Ren := ⟨fun | 171 => 156 | 243 => 176 | 246 => 189 | 283 => 195 | 284 => 196 | 285 => 197 | 286 => 198 | 129 => 209 | 317 => 208 | 318 => 210 | 319 => 211 | 320 => 212 | 337 => 216 | 338 => 217 | n => n, fun | 3 => 3 | 9 => 9 | 2 => 2 | 4 => 4 | 171 => 213 | 0 => 0 | 53 => 214 | 37 => 73 | 5 => 5 | 173 => 217 | 212 => 230 | 51 => 224 | 20 => 20 | 213 => 231 | 46 => 98 | 232 => 239 | 233 => 240 | n => n, fun | 17 => 1 | 18 => 4 | 19 => 5 | n => n⟩
theorem Tryz.laysM171 : Go.Proofs.LaysM.n171 Tryz.prog Tryz.laysM171_ren := {
 mixed := by kernel_rfl
 f129 := Tryz.func209.trans (congrArg some (by kernel_rfl))
 f171 := Tryz.func156.trans (congrArg some (by kernel_rfl))
 f243 := Tryz.func176.trans (congrArg some (by kernel_rfl))
 f246 := Tryz.func189.trans (congrArg some (by kernel_rfl))
 f283 := Tryz.func195.trans (congrArg some (by kernel_rfl))
 f284 := Tryz.func196.trans (congrArg some (by kernel_rfl))
 f285 := Tryz.func197.trans (congrArg some (by kernel_rfl))
 f286 := Tryz.func198.trans (congrArg some (by kernel_rfl))
 f317 := Tryz.func208.trans (congrArg some (by kernel_rfl))
 f318 := Tryz.func210.trans (congrArg some (by kernel_rfl))
 f319 := Tryz.func211.trans (congrArg some (by kernel_rfl))
 f320 := Tryz.func212.trans (congrArg some (by kernel_rfl))
 f337 := Tryz.func216.trans (congrArg some (by kernel_rfl))
 f338 := Tryz.func217.trans (congrArg some (by kernel_rfl))
 t0 := Tryz.underlying0
 a0 := Tryz.isAgg0
 z0 := Tryz.sizeOf0
 v0 := Tryz.zeroValue0
 t2 := Tryz.underlying2
 a2 := Tryz.isAgg2
 z2 := Tryz.sizeOf2
 v2 := Tryz.zeroValue2
 t3 := Tryz.underlying3
 a3 := Tryz.isAgg3
 z3 := Tryz.sizeOf3
 v3 := Tryz.zeroValue3
 t4 := Tryz.underlying4
 a4 := Tryz.isAgg4
 z4 := Tryz.sizeOf4
 v4 := Tryz.zeroValue4
 t5 := Tryz.underlying5
 a5 := Tryz.isAgg5
 z5 := Tryz.sizeOf5
 v5 := Tryz.zeroValue5
 t9 := Tryz.underlying9
 a9 := Tryz.isAgg9
 z9 := Tryz.sizeOf9
 v9 := Tryz.zeroValue9
 t20 := Tryz.underlying20
 a20 := Tryz.isAgg20
 z20 := Tryz.sizeOf20
 v20 := Tryz.zeroValue20
 t37 := Tryz.underlying73
 a37 := Tryz.isAgg73
 z37 := Tryz.sizeOf73
 v37 := Tryz.zeroValue73
 t46 := Tryz.underlying98
 a46 := Tryz.isAgg98
 z46 := Tryz.sizeOf98
 v46 := Tryz.zeroValue98
 t51 := Tryz.underlying224
 a51 := Tryz.isAgg224
 z51 := Tryz.sizeOf224
 v51 := Tryz.zeroValue224
 t53 := Tryz.underlying214
 a53 := Tryz.isAgg214
 z53 := Tryz.sizeOf214
 v53 := Tryz.zeroValue214
 t171 := Tryz.underlying213
 a171 := Tryz.isAgg213
 z171 := Tryz.sizeOf213
 v171 := Tryz.zeroValue213
 t173 := Tryz.underlying217
 a173 := Tryz.isAgg217
 z173 := Tryz.sizeOf217
 v173 := Tryz.zeroValue217
 t212 := Tryz.underlying230
 a212 := Tryz.isAgg230
 z212 := Tryz.sizeOf230
 v212 := Tryz.zeroValue230
 t213 := Tryz.underlying231
 a213 := Tryz.isAgg231
 z213 := Tryz.sizeOf231
 t232 := Tryz.underlying239
 a232 := Tryz.isAgg239
 z232 := Tryz.sizeOf239
 v232 := Tryz.zeroValue239
 t233 := Tryz.underlying240
 a233 := Tryz.isAgg240
 z233 := Tryz.sizeOf240
 v233 := Tryz.zeroValue240
 g17 := by kernel_rfl
 g18 := by kernel_rfl
 g19 := by kernel_rfl
 i0 := by kernel_rfl
 i2 := by kernel_rfl
 i3 := by kernel_rfl
 i4 := by kernel_rfl
 i5 := by kernel_rfl
 i9 := by kernel_rfl
 i20 := by kernel_rfl
 i37 := by kernel_rfl
 i46 := by kernel_rfl
 i51 := by kernel_rfl
 i53 := by kernel_rfl
 i171 := by kernel_rfl
 i173 := by kernel_rfl
 i212 := by kernel_rfl
 i232 := by kernel_rfl
 i233 := by kernel_rfl
 m17 := by kernel_rfl
 m18 := by kernel_rfl
 m19 := by kernel_rfl }
open Go.RowKit Go.Sort Go.Lib in
theorem Tryz.strconv_Itoa (n : Int) (h0 : -9223372036854775808 ≤ n) (h1 : n ≤ 9223372036854775807) (w : World) (htab : Lib.TabIs Tryz.prog w "internal/strconv.uint64pow10" .u64 Lib.pow10Tab) :
  Calls Tryz.prog 156 #[.int .i64 n] w fun e w' => e = .returned (.string ⟨(Lib.itoa n).toArray⟩) ∧ ∃ k os, w' = grow (w.drewN k) os := Any.strconv_Itoa Tryz.laysM171 n h0 h1 w htab
def Tryz.lays145_ren : Go.Shelf.Ren := ⟨fun | 145 => 162 | 220 => 182 | 219 => 193 | 217 => 202 | 225 => 203 | 224 => 204 | 267 => 205 | 266 => 214 | 314 => 215 | n => n, fun | 9 => 9 | 4 => 4 | 59 => 181 | 3 => 3 | 5 => 5 | 46 => 98 | 146 => 225 | 51 => 224 | n => n, fun | 1 => 0 | n => n⟩
theorem Tryz.lays145 : Go.Proofs.Lays.n145 Tryz.prog Tryz.lays145_ren := {
 mixed := by kernel_rfl
 f145 := Tryz.func162.trans (congrArg some (by kernel_rfl))
 f217 := Tryz.func202.trans (congrArg some (by kernel_rfl))
 f219 := Tryz.func193.trans (congrArg some (by kernel_rfl))
 f220 := Tryz.func182.trans (congrArg some (by kernel_rfl))
 f224 := Tryz.func204.trans (congrArg some (by kernel_rfl))
 f225 := Tryz.func203.trans (congrArg some (by kernel_rfl))
 f266 := Tryz.func214.trans (congrArg some (by kernel_rfl))
 f267 := Tryz.func205.trans (congrArg some (by kernel_rfl))
 f314 := Tryz.func215.trans (congrArg some (by kernel_rfl))
 t3 := Tryz.underlying3
 a3 := Tryz.isAgg3
 z3 := Tryz.sizeOf3
 v3 := Tryz.zeroValue3
 t4 := Tryz.underlying4
 a4 := Tryz.isAgg4
 z4 := Tryz.sizeOf4
 v4 := Tryz.zeroValue4
 t5 := Tryz.underlying5
 a5 := Tryz.isAgg5
 z5 := Tryz.sizeOf5
 v5 := Tryz.zeroValue5
 t9 := Tryz.underlying9
 a9 := Tryz.isAgg9
 z9 := Tryz.sizeOf9
 v9 := Tryz.zeroValue9
 t46 := Tryz.underlying98
 a46 := Tryz.isAgg98
 z46 := Tryz.sizeOf98
 v46 := Tryz.zeroValue98
 t51 := Tryz.underlying224
 a51 := Tryz.isAgg224
 z51 := Tryz.sizeOf224
 v51 := Tryz.zeroValue224
 t59 := Tryz.underlying181
 a59 := Tryz.isAgg181
 z59 := Tryz.sizeOf181
 v59 := Tryz.zeroValue181
 t146 := Tryz.underlying225
 a146 := Tryz.isAgg225
 z146 := Tryz.sizeOf225
 v146 := Tryz.zeroValue225
 g1 := by kernel_rfl }
open Go.RowKit Go.Lib in
theorem Tryz.strings_Cut (s sep : ByteArray) (m : Int) (w : World) (hs : s.size < 4294967281) (hm : w.cell? ⟨0, 0, none⟩ = some (.int .i64 m)) :
  Calls Tryz.prog 162 #[.string s, .string sep] w fun e w' => e = .returned (.tuple #[.string ⟨(Lib.cut s.data.toList sep.data.toList).1.toArray⟩, .string ⟨(Lib.cut s.data.toList sep.data.toList).2.1.toArray⟩, .bool (Lib.cut s.data.toList sep.data.toList).2.2]) ∧ ∃ n, w' = w.drewN n := Any.strings_Cut Tryz.lays145 s sep m w hs hm
def Tryz.lays138_ren : Go.Shelf.Ren := ⟨fun | 138 => 163 | 195 => 183 | 218 => 184 | 143 => 185 | 219 => 193 | 217 => 202 | 225 => 203 | 224 => 204 | 267 => 205 | 266 => 214 | 314 => 215 | n => n, fun | 9 => 9 | 3 => 3 | 4 => 4 | 5 => 5 | 0 => 0 | 46 => 98 | 146 => 225 | 51 => 224 | n => n, fun | 1 => 0 | n => n⟩
theorem Tryz.lays138 : Go.Proofs.Lays.n138 Tryz.prog Tryz.lays138_ren := {
 mixed := by kernel_rfl
 f138 := Tryz.func163.trans (congrArg some (by kernel_rfl))
 f143 := Tryz.func185.trans (congrArg some (by kernel_rfl))
 f195 := Tryz.func183.trans (congrArg some (by kernel_rfl))
 f217 := Tryz.func202.trans (congrArg some (by kernel_rfl))
 f218 := Tryz.func184.trans (congrArg some (by kernel_rfl))
 f219 := Tryz.func193.trans (congrArg some (by kernel_rfl))
 f224 := Tryz.func204.trans (congrArg some (by kernel_rfl))
 f225 := Tryz.func203.trans (congrArg some (by kernel_rfl))
 f266 := Tryz.func214.trans (congrArg some (by kernel_rfl))
 f267 := Tryz.func205.trans (congrArg some (by kernel_rfl))
 f314 := Tryz.func215.trans (congrArg some (by kernel_rfl))
 t0 := Tryz.underlying0
 a0 := Tryz.isAgg0
 z0 := Tryz.sizeOf0
 v0 := Tryz.zeroValue0
 t3 := Tryz.underlying3
 a3 := Tryz.isAgg3
 z3 := Tryz.sizeOf3
 v3 := Tryz.zeroValue3
 t4 := Tryz.underlying4
 a4 := Tryz.isAgg4
 z4 := Tryz.sizeOf4
 v4 := Tryz.zeroValue4
 t5 := Tryz.underlying5
 a5 := Tryz.isAgg5
 z5 := Tryz.sizeOf5
 v5 := Tryz.zeroValue5
 t9 := Tryz.underlying9
 a9 := Tryz.isAgg9
 z9 := Tryz.sizeOf9
 v9 := Tryz.zeroValue9
 t46 := Tryz.underlying98
 a46 := Tryz.isAgg98
 z46 := Tryz.sizeOf98
 v46 := Tryz.zeroValue98
 t51 := Tryz.underlying224
 a51 := Tryz.isAgg224
 z51 := Tryz.sizeOf224
 v51 := Tryz.zeroValue224
 t146 := Tryz.underlying225
 a146 := Tryz.isAgg225
 z146 := Tryz.sizeOf225
 v146 := Tryz.zeroValue225
 g1 := by kernel_rfl }
open Go.RowKit Go.Lib in
theorem Tryz.strings_Count_one (s : ByteArray) (c : UInt8) (w : World) :
  Calls Tryz.prog 163 #[.string s, .string ⟨#[c]⟩] w fun e w' => e = .returned (.int .i64 (Lib.countByte s.data.toList c)) ∧ w' = w := Any.strings_Count_one Tryz.lays138 s c w
def Tryz.lays146_ren : Go.Shelf.Ren := ⟨fun | 146 => 159 | 221 => 180 | 268 => 192 | 138 => 163 | 143 => 185 | 195 => 183 | 197 => 201 | 218 => 184 | 219 => 193 | 260 => 213 | 217 => 202 | 225 => 203 | 224 => 204 | 267 => 205 | 266 => 214 | 314 => 215 | n => n, fun | 9 => 9 | 31 => 141 | 3 => 3 | 4 => 4 | 0 => 0 | 105 => 222 | 21 => 21 | 5 => 5 | 46 => 98 | 119 => 235 | 139 => 238 | 138 => 237 | 146 => 225 | 51 => 224 | n => n, fun | 1 => 0 | 3 => 2 | 4 => 3 | n => n⟩
theorem Tryz.lays146 : Go.Proofs.Lays.n146 Tryz.prog Tryz.lays146_ren := {
 mixed := by kernel_rfl
 f138 := Tryz.func163.trans (congrArg some (by kernel_rfl))
 f143 := Tryz.func185.trans (congrArg some (by kernel_rfl))
 f146 := Tryz.func159.trans (congrArg some (by kernel_rfl))
 f195 := Tryz.func183.trans (congrArg some (by kernel_rfl))
 f197 := Tryz.func201.trans (congrArg some (by kernel_rfl))
 f217 := Tryz.func202.trans (congrArg some (by kernel_rfl))
 f218 := Tryz.func184.trans (congrArg some (by kernel_rfl))
 f219 := Tryz.func193.trans (congrArg some (by kernel_rfl))
 f221 := Tryz.func180.trans (congrArg some (by kernel_rfl))
 f224 := Tryz.func204.trans (congrArg some (by kernel_rfl))
 f225 := Tryz.func203.trans (congrArg some (by kernel_rfl))
 f260 := Tryz.func213.trans (congrArg some (by kernel_rfl))
 f266 := Tryz.func214.trans (congrArg some (by kernel_rfl))
 f267 := Tryz.func205.trans (congrArg some (by kernel_rfl))
 f268 := Tryz.func192.trans (congrArg some (by kernel_rfl))
 f314 := Tryz.func215.trans (congrArg some (by kernel_rfl))
 t0 := Tryz.underlying0
 a0 := Tryz.isAgg0
 z0 := Tryz.sizeOf0
 v0 := Tryz.zeroValue0
 t3 := Tryz.underlying3
 a3 := Tryz.isAgg3
 z3 := Tryz.sizeOf3
 v3 := Tryz.zeroValue3
 t4 := Tryz.underlying4
 a4 := Tryz.isAgg4
 z4 := Tryz.sizeOf4
 v4 := Tryz.zeroValue4
 t5 := Tryz.underlying5
 a5 := Tryz.isAgg5
 z5 := Tryz.sizeOf5
 v5 := Tryz.zeroValue5
 t9 := Tryz.underlying9
 a9 := Tryz.isAgg9
 z9 := Tryz.sizeOf9
 v9 := Tryz.zeroValue9
 t21 := Tryz.underlying21
 a21 := Tryz.isAgg21
 z21 := Tryz.sizeOf21
 v21 := Tryz.zeroValue21
 t31 := Tryz.underlying141
 a31 := Tryz.isAgg141
 z31 := Tryz.sizeOf141
 v31 := Tryz.zeroValue141
 t46 := Tryz.underlying98
 a46 := Tryz.isAgg98
 z46 := Tryz.sizeOf98
 v46 := Tryz.zeroValue98
 t51 := Tryz.underlying224
 a51 := Tryz.isAgg224
 z51 := Tryz.sizeOf224
 v51 := Tryz.zeroValue224
 t105 := Tryz.underlying222
 a105 := Tryz.isAgg222
 z105 := Tryz.sizeOf222
 v105 := Tryz.zeroValue222
 t119 := Tryz.underlying235
 a119 := Tryz.isAgg235
 z119 := Tryz.sizeOf235
 t138 := Tryz.underlying237
 a138 := Tryz.isAgg237
 z138 := Tryz.sizeOf237
 v138 := Tryz.zeroValue237
 t139 := Tryz.underlying238
 a139 := Tryz.isAgg238
 z139 := Tryz.sizeOf238
 v139 := Tryz.zeroValue238
 t146 := Tryz.underlying225
 a146 := Tryz.isAgg225
 z146 := Tryz.sizeOf225
 v146 := Tryz.zeroValue225
 g1 := by kernel_rfl
 g3 := by kernel_rfl
 g4 := by kernel_rfl }
open Go.RowKit Go.Lib in
theorem Tryz.strings_Split (s sep : ByteArray) (m : Int) (w : World) (hs : s.size < 4294967281) (hm : w.cell? ⟨0, 0, none⟩ = some (.int .i64 m)) (h1 : 1 ≤ sep.size) :
  Calls Tryz.prog 159 #[.string s, .string sep] w fun e w' =>
   e = .returned (.slice (some ⟨w.heap.size, 0, none⟩) (Lib.countB s sep + 1) (Lib.countB s sep + 1)) ∧ w' = w.alloc (.cells ((Lib.splitB sep 0 (Lib.countB s sep) s).map Value.string).toArray 9) := Any.strings_Split Tryz.lays146 (by kernel_rfl) s sep m w hs hm h1
def Tryz.lays212_ren : Go.Shelf.Ren := ⟨fun | 212 => 194 | 263 => 206 | 264 => 207 | n => n, fun | 46 => 98 | 51 => 224 | 146 => 225 | 53 => 214 | 148 => 227 | n => n, fun | n => n⟩
theorem Tryz.lays212 : Go.Proofs.Lays.n212 Tryz.prog Tryz.lays212_ren := {
 mixed := by kernel_rfl
 f212 := Tryz.func194.trans (congrArg some (by kernel_rfl))
 f263 := Tryz.func206.trans (congrArg some (by kernel_rfl))
 f264 := Tryz.func207.trans (congrArg some (by kernel_rfl))
 t46 := Tryz.underlying98
 a46 := Tryz.isAgg98
 z46 := Tryz.sizeOf98
 v46 := Tryz.zeroValue98
 t51 := Tryz.underlying224
 a51 := Tryz.isAgg224
 z51 := Tryz.sizeOf224
 v51 := Tryz.zeroValue224
 t53 := Tryz.underlying214
 a53 := Tryz.isAgg214
 z53 := Tryz.sizeOf214
 v53 := Tryz.zeroValue214
 t146 := Tryz.underlying225
 a146 := Tryz.isAgg225
 z146 := Tryz.sizeOf225
 v146 := Tryz.zeroValue225
 t148 := Tryz.underlying227
 a148 := Tryz.isAgg227
 z148 := Tryz.sizeOf227
 v148 := Tryz.zeroValue227 }
open Go.RowKit Go.Lib in
theorem Tryz.bits_Mul (x y : Nat) (hx : x < 18446744073709551616) (hy : y < 18446744073709551616) (w : World) :
  Calls Tryz.prog 194 #[.int .u64 x, .int .u64 y] w fun e w' => e = .returned (.tuple #[.int .u64 ((x * y / 18446744073709551616 : Nat) : Int), .int .u64 ((x * y % 18446744073709551616 : Nat) : Int)]) ∧ w' = w := Any.bits_Mul Tryz.lays212 x y hx hy w
end Go.Proofs
namespace Go.Proofs.YtohmhlkdgfcaeaaGreatDoor
open Go Go.RowKit
theorem fun_of_calls {P : Program} {f : FuncId} {args : List PV} {r : PV} {vals : List Value} (ha : args = vals.map .val)
  (h : ∀ (w : World) (F : Foot), F.ok w → Calls P f vals.toArray w fun e w' => (∃ v, e = .returned v ∧ ∀ w F, Rd w F r v) ∧ Below w.heap.size w w') : Fun P f args (.ret r) := by
 intro w F vs hok hv
 have he : vs = vals.toArray := by
  subst ha
  apply Array.ext
  ·simpa using hv.1
  ·intro i h1 h2
   have h3 : i < vals.length := by simpa using h2
   have := hv.2 i (.val vals[i]) vs[i] (by simp [h3]) (Array.getElem?_eq_getElem h1)
   rw [rd_val this]
   simp
 subst he
 refine (h w F hok).mono ?_
 rintro e w' ⟨⟨v, rfl, hr⟩, hb⟩
 have hx := Ext.of_below (F := F) hb
 exact ⟨F, hx, Foot.le.refl F _, hx.ok hok, v, rfl, hr _ _⟩
theorem below_drewN (w : World) (n : Nat) : Below w.heap.size w (w.drewN n) := by
 induction n with
 | zero => exact Below.refl _ _
 | succ n ih => exact ⟨ih.os, ih.tape, ih.output, ih.size, ih.block⟩
theorem below_grow (w : World) (os : Array Obj) : Below w.heap.size w (Go.Sort.grow w os) :=
 ⟨rfl, rfl, rfl, by simp [Go.Sort.grow], fun k hk => Go.Sort.heap_grow_old w os hk⟩
def s_156 (n : Nat) (i : Int) : Option ByteArray := bif decide (-9223372036854775808 ≤ i) && decide (i ≤ 9223372036854775807) then some ⟨(Lib.itoa i).toArray⟩ else none
theorem c_156 (n : Nat) (i : Int) {r : ByteArray} (h : s_156 n i = some r) : Fun Tryz.prog 156 [.val (.int .i64 i)] (.ret (.s r)) := by
 obtain ⟨h1, h2⟩ := bif_some h
 cases h2
 simp only [Bool.and_eq_true, decide_eq_true_eq] at h1
 refine fun_of_calls (vals := [.int .i64 i]) rfl (fun w F hok => ?_)
 have htab : Lib.TabIs Tryz.prog w "internal/strconv.uint64pow10" IntKind.u64 Lib.pow10Tab := by
  obtain ⟨o0, o1, h0, h1, ⟨_, T, fr, rfl⟩, _, _⟩ := hok.tab
  have hg : Tryz.prog.globalNamed "internal/strconv.uint64pow10" = some 1 := by kernel_rfl
  simp [Lib.TabIs, World.var?, hg, h1]
 refine (Tryz.strconv_Itoa i h1.1 h1.2 w htab).mono ?_
 rintro e w' ⟨rfl, k, os, rfl⟩
 exact ⟨⟨_, rfl, fun _ _ => Rd.val _⟩, (below_drewN w k).trans (below_grow (w.drewN k) os)⟩
theorem maxLen_told {w : World} {F : Foot} (hok : F.ok w) : ∃ m, w.cell? { block := 0, off := 0 } = some (.int .i64 m) := by
 obtain ⟨o0, o1, h0, h1, ⟨⟨m, T, fr, rfl⟩, _⟩, _, _⟩ := hok.tab
 exact ⟨m, by simp [World.cell?, h0]⟩
def s_162 (n : Nat) (s sep : ByteArray) : Option (ByteArray × ByteArray × Bool) := bif decide (s.size < 4294967281) then some (⟨(Lib.cut s.data.toList sep.data.toList).1.toArray⟩, ⟨(Lib.cut s.data.toList sep.data.toList).2.1.toArray⟩, (Lib.cut s.data.toList sep.data.toList).2.2) else none
theorem c_162 (n : Nat) (s sep : ByteArray) {r : ByteArray × ByteArray × Bool} (h : s_162 n s sep = some r) : Fun Tryz.prog 162 [.s s, .s sep] (.ret (.tup [.s r.1, .s r.2.1, .b r.2.2])) := by
 obtain ⟨h1, h2⟩ := bif_some h
 cases h2
 refine fun_of_calls (vals := [.string s, .string sep]) rfl (fun w F hok => ?_)
 obtain ⟨m, hm⟩ := maxLen_told hok
 refine (Tryz.strings_Cut s sep m w (of_decide_eq_true h1) hm).mono ?_
 rintro e w' ⟨rfl, k, rfl⟩
 refine ⟨⟨_, rfl, fun _ _ => Rd.tup _ _ rfl ?_⟩, below_drewN w k⟩
 intro j c u hc hu
 match j with
 | 0 => simp at hc hu; subst hc hu; exact .val _
 | 1 => simp at hc hu; subst hc hu; exact .val _
 | 2 => simp at hc hu; subst hc hu; exact .val _
 | j + 3 => simp at hc
def s_163 (n : Nat) (s sep : ByteArray) : Option Int := match sep with
 | ⟨⟨[c]⟩⟩ => some (Lib.countByte s.data.toList c)
 | _ => none
theorem c_163 (n : Nat) (s sep : ByteArray) {r : Int} (h : s_163 n s sep = some r) : Fun Tryz.prog 163 [.s s, .s sep] (.ret (.val (.int .i64 r))) := by
 unfold s_163 at h
 split at h
 ·rename_i c
  cases h
  refine fun_of_calls (vals := [.string s, .string _]) rfl (fun w F hok => ?_)
  refine (Tryz.strings_Count_one s c w).mono ?_
  rintro e w' ⟨rfl, rfl⟩
  exact ⟨⟨_, rfl, fun _ _ => Rd.val _⟩, Below.refl _ _⟩
 ·cases h
def s_159 (n : Nat) (s sep : ByteArray) : Option (List ByteArray) := bif decide (s.size < 4294967281) && decide (1 ≤ sep.size) then some (Lib.splitB sep 0 (Lib.countB s sep) s) else none
theorem c_159 (n : Nat) (s sep : ByteArray) {r : List ByteArray} (h : s_159 n s sep = some r) : Fun Tryz.prog 159 [.s s, .s sep] (.ret (.sl (r.map eS))) := by
 obtain ⟨h1, h2⟩ := bif_some h
 simp only [Option.some.injEq] at h2
 simp only [Bool.and_eq_true, decide_eq_true_eq] at h1
 have hlen : (Lib.splitB sep 0 (Lib.countB s sep) s).length = Lib.countB s sep + 1 := Lib.splitB_all sep h1.2 0 _ s rfl
 rw [h2] at hlen
 intro w F vs hok hv
 have he : vs = #[.string s, .string sep] := by
  apply Array.ext
  ·simpa using hv.1
  ·intro i h1 h2
   match i with
   | 0 => have := hv.2 0 _ vs[0] rfl (Array.getElem?_eq_getElem h1); rw [rd_val this]; rfl
   | 1 => have := hv.2 1 _ vs[1] rfl (Array.getElem?_eq_getElem h1); rw [rd_val this]; rfl
   | i + 2 => exact absurd h2 (by simp)
 subst he
 obtain ⟨m, hm⟩ := maxLen_told hok
 refine (Tryz.strings_Split s sep m w h1.1 hm h1.2).mono ?_
 rintro e w' ⟨rfl, rfl⟩
 rw [h2]
 have hb : Below w.heap.size w (w.alloc (.cells (r.map Value.string).toArray 9)) := (Below.refl _ w).alloc (Nat.le_refl _) _
 have hx := Ext.of_below (F := F) hb
 let F' : Foot := { c := fun b o => F.c b o ∨ b = w.heap.size, mw := F.mw }
 have hle : F.le F' w.heap.size := ⟨fun _ _ h => .inl h, fun _ _ h => h, fun b o h => by rcases h with h | rfl; exact .inl h; exact .inr (Nat.le_refl _), fun _ _ h => .inl h⟩
 have hnew : ∀ j, (w.alloc (.cells (r.map Value.string).toArray 9)).cell? ⟨w.heap.size, j, none⟩ = (r.map Value.string)[j]? := fun j => by
  have := cell_of_row (w.alloc (.cells (r.map Value.string).toArray 9)) w.heap.size j (r.map Value.string).toArray 9 (0, 0) (MapKept.heap_alloc w _).1
  rw [this]; simp
 have hok' : F'.ok (w.alloc (.cells (r.map Value.string).toArray 9)) := ⟨fun b o hc => by
   rcases hc with hc | rfl
   ·exact Nat.lt_of_lt_of_le (hok.lt b o hc) hx.size
   ·simp, (hx.ok hok).at_, hok.un, (hx.ok hok).tab.keep (fun _ _ h => .inl h) (fun _ _ _ h _ => h)⟩
 refine ⟨F', hx, hle, hok', _, rfl, ?_⟩
 refine Rd.sl (r.map eS) _ _ _ 1 ⟨w.heap.size, 0, none⟩ (fun i _ => (r.map Value.string).getD i undef) (by simpa using hlen.symm) (Nat.le_refl _) (fun _ => ⟨rfl, rfl⟩) ?_ ?_ ?_ ?_
 ·intro i e he
  rw [List.getElem?_map] at he
  obtain ⟨x, _, rfl⟩ := Option.map_eq_some_iff.1 he
  rfl
 ·intro i e j c he hj
  rw [List.getElem?_map] at he
  obtain ⟨x, hx, rfl⟩ := Option.map_eq_some_iff.1 he
  match j with
  | 0 =>
   rw [Nat.mul_one, Nat.add_zero, addr_block, hnew]
   simp [List.getD_eq_getElem?_getD, hx]
  | j + 1 => simp at hj
 ·intro i e j c he hj
  rw [List.getElem?_map] at he
  obtain ⟨x, hx, rfl⟩ := Option.map_eq_some_iff.1 he
  rw [addr_block]
  exact .inr rfl
 ·intro i e j c he hj
  rw [List.getElem?_map] at he
  obtain ⟨x, hx, rfl⟩ := Option.map_eq_some_iff.1 he
  match j with
  | 0 =>
   simp at hj
   subst hj
   simp only [List.getD_eq_getElem?_getD, List.getElem?_map, hx, Option.map_some, Option.getD_some]
   exact .val _
  | j + 1 => simp at hj
end Go.Proofs.YtohmhlkdgfcaeaaGreatDoor
namespace Go.Proofs.YtohmhlkdgfcaeaaGreatDoor
open Go Go.RowKit
set_option maxRecDepth 4000
attribute [local irreducible] W Ops GS GSG
def s_167_l1 (f1 : (Int → Option (Bool))) (v0 : (List Int)) : Nat → Int → Option (Int)
| 0, _ => none
| k1 + 1, v103 => bif (decide (v103 < (v0.length : Int))) then ( (ix v0 v103).bind fun v106 => (f1 v106).bind fun v107 => bif v107 then ( some (v103) ) else ( (s_167_l1 f1 v0 k1) (wr (v103 + 1)) ) ) else ( some ((-1)) )
def s_167 (n : Nat) (v0 : (List Int)) (f1 : (Int → Option (Bool))) : Option (Int) := s_167_l1 f1 v0 n 0
theorem c_167 (n : Nat) (v0 : (List Int)) (f1 : (Int → Option (Bool))) {fidf1 : Nat} {firstf1 capsf1 : List PV} (hcf1 : Callable Tryz.prog fidf1) (hgf1 : ∀ x0 y, f1 x0 = some y → Fun Tryz.prog fidf1 (firstf1 ++ [.val (.int .i64 x0)] ++ capsf1) (.ret (.b y))) {r : (Int)} (h : s_167 n v0 f1 = some r) :
  Fun Tryz.prog 167 [.sl (v0.map eI), .fn fidf1 firstf1 capsf1] (.ret (.val (.int .i64 r))) := by
 unfold s_167 at h
 refine enterW 19 Tryz.func167 q q q ?_
 intro w0 F0
 change W _ _ (Ev [(0, .pv (.sl (List.map eI v0))), (1, .pv (.fn fidf1 firstf1 capsf1))]) _
 refine W.seq<|W.region<|va q q q q q<|on0<|Sq.n<|W.seq<|W.seq<|W.region<|vm q q q q q<|ov (g_lenM (l := v0) (enc := eI) q ul_23 q q q) q<|vm q q q q q<|on0<|Sq.n<|W.block<|W.loop (σ := Nat × Int) (fun s => (Ev [(0, .pv (.sl (List.map eI v0))), (1, .pv (.fn fidf1 firstf1 capsf1)), (7, .pv (.val (.int .i64 (v0.length : Int)))), (8, .pv (.i s.2))])) (fun s => s_167_l1 f1 v0 s.1 s.2 = some r) (fun s => s.1) (n, 0) h (has_mk ⟨q, q, q, q, trivial⟩ trivial trivial q) ?_
 rintro ⟨k1, v103⟩ h
 change s_167_l1 f1 v0 k1 v103 = some r at h
 rcases k1 with _ | k1
 ·rw [s_167_l1] at h
  cases h
 ·rw [s_167_l1] at h
  change W _ _ (Ev [(0, .pv (.sl (List.map eI v0))), (1, .pv (.fn fidf1 firstf1 capsf1)), (7, .pv (.val (.int .i64 (v0.length : Int)))), (8, .pv (.i v103))]) _
  refine W.seq<|W.region<|ov (g_lss q q q q q) q<|on0<|Sq.n<|W.seq<|W.cond (b := (decide (v103 < (v0.length : Int)))) q (fun hc => ?_) (fun hc => ?_)
  ·have h := bif_t h hc
   refine W.skip<|Sq.n<|W.seq<|W.block<|W.seq<|W.region<|vm q q q q q<|va q q q q q<|on0<|Sq.n<|W.seq<|W.region<|vm q q q q q<|vm q q q q q<|vm q q q q q ?_
   obtain ⟨v106, e106, h⟩ := bind_some h
   refine ov (g_idxI (l := v0) (enc := eI) e106 q q q q q el_23 q) q<|ov (g_loadR1 q q q q q ag_3) q ?_
   obtain ⟨v107, e107, h⟩ := bind_some h
   refine ov (g_callv q q q q hcf1 q (hgf1 _ _ e107)) q<|on0<|Sq.n<|W.cond (b := v107) q (fun hc => ?_) (fun hc => ?_)
   ·have h := bif_t h hc
    refine W.seq<|W.region<|vm q q q q q<|va q q q q q<|on0<|Sq.n<|W.ret<|Bl.r<|Sq.r<|Sq.r<|Bl.r<|Sq.r ?_
    obtain rfl := Option.some.inj h
    exact Fin.r q (.cons (.tmp _ _ q) .nil) q
   ·have h := bif_f h hc
    exact W.skip<|Bl.n<|Sq.n<|W.region<|ov (g_add q q q q q) q<|vm q q q q q<|on0<|Sq.n<|⟨(k1, wr (v103 + 1)), h, Nat.lt_succ_self _, has_mk ⟨q, q, q, q, trivial⟩ trivial trivial q⟩
  ·have h := bif_f h hc
   refine W.exit<|Sq.e<|Sq.e<|Bl.e<|Sq.n<|W.seq<|W.region<|va q q q q q<|on0<|Sq.n<|W.ret ?_
   obtain rfl := Option.some.inj h
   exact Fin.r q (.cons (.tmp _ _ q) .nil) q
def s_174_l1 (f1 : (Acid → Option (Bool))) (v0 : (List Acid)) : Nat → Int → Option (Int)
| 0, _ => none
| k1 + 1, v103 => bif (decide (v103 < (v0.length : Int))) then ( (ix v0 v103).bind fun v106 => (f1 v106).bind fun v107 => bif v107 then ( some (v103) ) else ( (s_174_l1 f1 v0 k1) (wr (v103 + 1)) ) ) else ( some ((-1)) )
def s_174 (n : Nat) (v0 : (List Acid)) (f1 : (Acid → Option (Bool))) : Option (Int) := s_174_l1 f1 v0 n 0
theorem c_174 (n : Nat) (v0 : (List Acid)) (f1 : (Acid → Option (Bool))) {fidf1 : Nat} {firstf1 capsf1 : List PV} (hcf1 : Callable Tryz.prog fidf1) (hgf1 : ∀ x0 y, f1 x0 = some y → Fun Tryz.prog fidf1 (firstf1 ++ [.agg (cAcid x0)] ++ capsf1) (.ret (.b y))) {r : (Int)} (h : s_174 n v0 f1 = some r) :
  Fun Tryz.prog 174 [.sl (v0.map cAcid), .fn fidf1 firstf1 capsf1] (.ret (.val (.int .i64 r))) := by
 unfold s_174 at h
 refine enterW 19 Tryz.func174 q q q ?_
 intro w0 F0
 change W _ _ (Ev [(0, .pv (.sl (List.map cAcid v0))), (1, .pv (.fn fidf1 firstf1 capsf1))]) _
 refine W.seq<|W.region<|va q q q q q<|on0<|Sq.n<|W.seq<|W.seq<|W.region<|vm q q q q q<|ov (g_lenM (l := v0) (enc := cAcid) q ul_22 q q q) q<|vm q q q q q<|on0<|Sq.n<|W.block<|W.loop (σ := Nat × Int) (fun s => (Ev [(0, .pv (.sl (List.map cAcid v0))), (1, .pv (.fn fidf1 firstf1 capsf1)), (7, .pv (.val (.int .i64 (v0.length : Int)))), (8, .pv (.i s.2))])) (fun s => s_174_l1 f1 v0 s.1 s.2 = some r) (fun s => s.1) (n, 0) h (has_mk ⟨q, q, q, q, trivial⟩ trivial trivial q) ?_
 rintro ⟨k1, v103⟩ h
 change s_174_l1 f1 v0 k1 v103 = some r at h
 rcases k1 with _ | k1
 ·rw [s_174_l1] at h
  cases h
 ·rw [s_174_l1] at h
  change W _ _ (Ev [(0, .pv (.sl (List.map cAcid v0))), (1, .pv (.fn fidf1 firstf1 capsf1)), (7, .pv (.val (.int .i64 (v0.length : Int)))), (8, .pv (.i v103))]) _
  refine W.seq<|W.region<|ov (g_lss q q q q q) q<|on0<|Sq.n<|W.seq<|W.cond (b := (decide (v103 < (v0.length : Int)))) q (fun hc => ?_) (fun hc => ?_)
  ·have h := bif_t h hc
   refine W.skip<|Sq.n<|W.seq<|W.block<|W.seq<|W.region<|vm q q q q q<|va q q q q q<|on0<|Sq.n<|W.seq<|W.region<|vm q q q q q<|vm q q q q q<|vm q q q q q ?_
   obtain ⟨v106, e106, h⟩ := bind_some h
   refine ov (g_idxI (l := v0) (enc := cAcid) e106 q q q q q el_22 q) q<|ov (g_loadRA q q q q ag_137 sz_137 q q) q ?_
   obtain ⟨v107, e107, h⟩ := bind_some h
   refine ov (g_callv q q q q hcf1 q (hgf1 _ _ e107)) q<|on0<|Sq.n<|W.cond (b := v107) q (fun hc => ?_) (fun hc => ?_)
   ·have h := bif_t h hc
    refine W.seq<|W.region<|vm q q q q q<|va q q q q q<|on0<|Sq.n<|W.ret<|Bl.r<|Sq.r<|Sq.r<|Bl.r<|Sq.r ?_
    obtain rfl := Option.some.inj h
    exact Fin.r q (.cons (.tmp _ _ q) .nil) q
   ·have h := bif_f h hc
    exact W.skip<|Bl.n<|Sq.n<|W.region<|ov (g_add q q q q q) q<|vm q q q q q<|on0<|Sq.n<|⟨(k1, wr (v103 + 1)), h, Nat.lt_succ_self _, has_mk ⟨q, q, q, q, trivial⟩ trivial trivial q⟩
  ·have h := bif_f h hc
   refine W.exit<|Sq.e<|Sq.e<|Bl.e<|Sq.n<|W.seq<|W.region<|va q q q q q<|on0<|Sq.n<|W.ret ?_
   obtain rfl := Option.some.inj h
   exact Fin.r q (.cons (.tmp _ _ q) .nil) q
def s_148 (n : Nat) (v0 : Span) (v1 : Int) : Option (Bool) := bif (decide (0 ≤ v0.low)) then ( bif (decide (v0.low ≤ v0.high)) then ( some ((decide (v0.high ≤ v1))) ) else ( some (false) ) ) else ( some (false) )
theorem c_148 (n : Nat) (v0 : Span) (v1 : Int) {r : (Bool)} (h : s_148 n v0 v1 = some r) :
  Fun Tryz.prog 148 [.agg (cSpan v0), .val (.int .i64 v1)] (.ret (.b r)) := by
 unfold s_148 at h
 refine enterW 21 Tryz.func148 q q q ?_
 intro w0 F0
 change W _ _ (Ev [(0, .pv (.agg (cSpan v0))), (1, .pv (.i v1))]) _
 refine W.seq<|W.region<|ob (g_box q q q q q) q q<|va q q q q q<|on0<|Sq.n<|W.seq<|W.region<|ov (g_fld q q q q fl_57_0) q<|ov (g_load1 q q q q q q ag_3) q<|ov (g_geq q q q q q) q<|vm q q q q q<|Ops.split 8 q (fun hb => ?_) (fun hb => ?_)
 ·have h := bif_t h hb
  refine on q q q<|ov (g_fld q q q q fl_57_0) q<|on q q q<|ov (g_load1 q q q q q q ag_3) q<|on q q q<|ov (g_fld q q q q fl_57_1) q<|on q q q<|ov (g_load1 q q q q q q ag_3) q<|on q q q<|ov (g_leq q q q q q) q<|vt q q q q q q<|vm q q q q q<|Ops.split 15 q (fun hb => ?_) (fun hb => ?_)
  ·have h := bif_t h hb
   refine on q q q<|ov (g_fld q q q q fl_57_1) q<|on q q q<|ov (g_load1 q q q q q q ag_3) q<|on q q q<|vm q q q q q<|on q q q<|ov (g_leq q q q q q) q<|vt q q q q q q<|va q q q q q<|on0<|Sq.n<|W.ret ?_
   obtain rfl := Option.some.inj h
   exact Fin.r q (.cons (.tmp _ _ q) .nil) q
  ·have h := bif_f h hb
   refine o2 q q q q q q<|o2 q q q q q q<|o2 q q q q q q<|o2 q q q q q q<|vf q q q q q q<|va q q q q q<|on0<|Sq.n<|W.ret ?_
   obtain rfl := Option.some.inj h
   exact Fin.r q (.cons (.tmp _ _ q) .nil) q
 ·have h := bif_f h hb
  refine o2 q q q q q q<|o2 q q q q q q<|o2 q q q q q q<|o2 q q q q q q<|o2 q q q q q q<|vf q q q q q q<|vm q q q q q<|o2 q q q q q q<|o2 q q q q q q<|o2 q q q q q q<|o2 q q q q q q<|vf q q q q q q<|va q q q q q<|on0<|Sq.n<|W.ret ?_
  obtain rfl := Option.some.inj h
  exact Fin.r q (.cons (.tmp _ _ q) .nil) q
def s_175_l1 (f1 : (Batch → Option (Bool))) (v0 : (List Batch)) : Nat → Int → Option (Int)
| 0, _ => none
| k1 + 1, v103 => bif (decide (v103 < (v0.length : Int))) then ( (ix v0 v103).bind fun v106 => (f1 v106).bind fun v107 => bif v107 then ( some (v103) ) else ( (s_175_l1 f1 v0 k1) (wr (v103 + 1)) ) ) else ( some ((-1)) )
def s_175 (n : Nat) (v0 : (List Batch)) (f1 : (Batch → Option (Bool))) : Option (Int) := s_175_l1 f1 v0 n 0
theorem c_175 (n : Nat) (v0 : (List Batch)) (f1 : (Batch → Option (Bool))) {fidf1 : Nat} {firstf1 capsf1 : List PV} (hcf1 : Callable Tryz.prog fidf1) (hgf1 : ∀ x0 y, f1 x0 = some y → Fun Tryz.prog fidf1 (firstf1 ++ [.agg (cBatch x0)] ++ capsf1) (.ret (.b y))) {r : (Int)} (h : s_175 n v0 f1 = some r) :
  Fun Tryz.prog 175 [.sl (v0.map cBatch), .fn fidf1 firstf1 capsf1] (.ret (.val (.int .i64 r))) := by
 unfold s_175 at h
 refine enterW 19 Tryz.func175 q q q ?_
 intro w0 F0
 change W _ _ (Ev [(0, .pv (.sl (List.map cBatch v0))), (1, .pv (.fn fidf1 firstf1 capsf1))]) _
 refine W.seq<|W.region<|va q q q q q<|on0<|Sq.n<|W.seq<|W.seq<|W.region<|vm q q q q q<|ov (g_lenM (l := v0) (enc := cBatch) q ul_25 q q q) q<|vm q q q q q<|on0<|Sq.n<|W.block<|W.loop (σ := Nat × Int) (fun s => (Ev [(0, .pv (.sl (List.map cBatch v0))), (1, .pv (.fn fidf1 firstf1 capsf1)), (7, .pv (.val (.int .i64 (v0.length : Int)))), (8, .pv (.i s.2))])) (fun s => s_175_l1 f1 v0 s.1 s.2 = some r) (fun s => s.1) (n, 0) h (has_mk ⟨q, q, q, q, trivial⟩ trivial trivial q) ?_
 rintro ⟨k1, v103⟩ h
 change s_175_l1 f1 v0 k1 v103 = some r at h
 rcases k1 with _ | k1
 ·rw [s_175_l1] at h
  cases h
 ·rw [s_175_l1] at h
  change W _ _ (Ev [(0, .pv (.sl (List.map cBatch v0))), (1, .pv (.fn fidf1 firstf1 capsf1)), (7, .pv (.val (.int .i64 (v0.length : Int)))), (8, .pv (.i v103))]) _
  refine W.seq<|W.region<|ov (g_lss q q q q q) q<|on0<|Sq.n<|W.seq<|W.cond (b := (decide (v103 < (v0.length : Int)))) q (fun hc => ?_) (fun hc => ?_)
  ·have h := bif_t h hc
   refine W.skip<|Sq.n<|W.seq<|W.block<|W.seq<|W.region<|vm q q q q q<|va q q q q q<|on0<|Sq.n<|W.seq<|W.region<|vm q q q q q<|vm q q q q q<|vm q q q q q ?_
   obtain ⟨v106, e106, h⟩ := bind_some h
   refine ov (g_idxI (l := v0) (enc := cBatch) e106 q q q q q el_25 q) q<|ov (g_loadRA q q q q ag_67 sz_67 q q) q ?_
   obtain ⟨v107, e107, h⟩ := bind_some h
   refine ov (g_callv q q q q hcf1 q (hgf1 _ _ e107)) q<|on0<|Sq.n<|W.cond (b := v107) q (fun hc => ?_) (fun hc => ?_)
   ·have h := bif_t h hc
    refine W.seq<|W.region<|vm q q q q q<|va q q q q q<|on0<|Sq.n<|W.ret<|Bl.r<|Sq.r<|Sq.r<|Bl.r<|Sq.r ?_
    obtain rfl := Option.some.inj h
    exact Fin.r q (.cons (.tmp _ _ q) .nil) q
   ·have h := bif_f h hc
    exact W.skip<|Bl.n<|Sq.n<|W.region<|ov (g_add q q q q q) q<|vm q q q q q<|on0<|Sq.n<|⟨(k1, wr (v103 + 1)), h, Nat.lt_succ_self _, has_mk ⟨q, q, q, q, trivial⟩ trivial trivial q⟩
  ·have h := bif_f h hc
   refine W.exit<|Sq.e<|Sq.e<|Bl.e<|Sq.n<|W.seq<|W.region<|va q q q q q<|on0<|Sq.n<|W.ret ?_
   obtain rfl := Option.some.inj h
   exact Fin.r q (.cons (.tmp _ _ q) .nil) q
def s_154 (n : Nat) : Option ((ByteArray × ByteArray × ByteArray × ByteArray)) := some (((ByteArray.mk #[97, 99, 105, 100]), (ByteArray.mk #[97, 100, 100]), (ByteArray.mk #[115, 116, 114, 105, 112]), (ByteArray.mk #[98, 97, 116, 99, 104])))
theorem c_154 (n : Nat)  {r : ((ByteArray × ByteArray × ByteArray × ByteArray))} (h : s_154 n  = some r) :
  Fun Tryz.prog 154 [] (.ret (.agg [.s r.1, .s r.2.1, .s r.2.2.1, .s r.2.2.2])) := by
 unfold s_154 at h
 refine enterW 2 Tryz.func154 q q q ?_
 intro w0 F0
 change W _ _ (Ev []) _
 refine W.seq<|W.region<|ob (g_alloc q q q zr_170) q q<|on0<|Sq.n<|W.seq<|W.region<|ov (g_buildA (cs := [.s (ByteArray.mk #[97, 99, 105, 100]), .s (ByteArray.mk #[97, 100, 100]), .s (ByteArray.mk #[115, 116, 114, 105, 112]), .s (ByteArray.mk #[98, 97, 116, 99, 104])]) q q q zr_170 ar_170 q q) q<|Ops.step q (s_storeB q q q q q q sz_170 q q)<|on0<|Sq.n<|W.ret ?_
 obtain rfl := Option.some.inj h
 exact Fin.r q (.cons (.agg _ _ _ _ ([.s (((ByteArray.mk #[97, 99, 105, 100]), (ByteArray.mk #[97, 100, 100]), (ByteArray.mk #[115, 116, 114, 105, 112]), (ByteArray.mk #[98, 97, 116, 99, 104])).1), .s (((ByteArray.mk #[97, 99, 105, 100]), (ByteArray.mk #[97, 100, 100]), (ByteArray.mk #[115, 116, 114, 105, 112]), (ByteArray.mk #[98, 97, 116, 99, 104])).2.1), .s (((ByteArray.mk #[97, 99, 105, 100]), (ByteArray.mk #[97, 100, 100]), (ByteArray.mk #[115, 116, 114, 105, 112]), (ByteArray.mk #[98, 97, 116, 99, 104])).2.2.1), .s (((ByteArray.mk #[97, 99, 105, 100]), (ByteArray.mk #[97, 100, 100]), (ByteArray.mk #[115, 116, 114, 105, 112]), (ByteArray.mk #[98, 97, 116, 99, 104])).2.2.2)]) q q ag_170 sz_170) .nil) q
def s_155_l1 (n : Nat) (v1 : (List Int)) : Nat → ByteArray → Int → Option (ByteArray)
| 0, _, _ => none
| k1 + 1, v105, v106 => bif (decide (v106 < (v1.length : Int))) then ( (ix v1 v106).bind fun v111 => (s_156 n v111).bind fun v112 => (cat (ByteArray.mk #[32]) v112).bind fun v113 => (cat v105 v113).bind fun v114 => (s_155_l1 n v1 k1) v114 (wr (v106 + 1)) ) else ( some (v105) )
def s_155 (n : Nat) (v0 : ByteArray) (v1 : (List Int)) : Option (ByteArray) := s_155_l1 n v1 n v0 0
theorem c_155 (n : Nat) (v0 : ByteArray) (v1 : (List Int)) {r : (ByteArray)} (h : s_155 n v0 v1 = some r) :
  Fun Tryz.prog 155 [.s v0, .sl (v1.map eI)] (.ret (.s r)) := by
 unfold s_155 at h
 refine enterW 20 Tryz.func155 q q q ?_
 intro w0 F0
 change W _ _ (Ev [(0, .pv (.s v0)), (1, .pv (.sl (List.map eI v1)))]) _
 refine W.seq<|W.region<|va q q q q q<|on0<|Sq.n<|W.seq<|W.seq<|W.region<|vm q q q q q<|ov (g_lenM (l := v1) (enc := eI) q ul_23 q q q) q<|vm q q q q q<|on0<|Sq.n<|W.block<|W.loop (σ := Nat × ByteArray × Int) (fun s => (Ev [(0, .pv (.s s.2.1)), (7, .pv (.sl (List.map eI v1))), (8, .pv (.val (.int .i64 (v1.length : Int)))), (9, .pv (.i s.2.2))])) (fun s => s_155_l1 n v1 s.1 s.2.1 s.2.2 = some r) (fun s => s.1) (n, v0, 0) h (has_mk ⟨q, q, q, q, trivial⟩ trivial trivial q) ?_
 rintro ⟨k1, v105, v106⟩ h
 change s_155_l1 n v1 k1 v105 v106 = some r at h
 rcases k1 with _ | k1
 ·rw [s_155_l1] at h
  cases h
 ·rw [s_155_l1] at h
  change W _ _ (Ev [(0, .pv (.s v105)), (7, .pv (.sl (List.map eI v1))), (8, .pv (.val (.int .i64 (v1.length : Int)))), (9, .pv (.i v106))]) _
  refine W.seq<|W.region<|ov (g_lss q q q q q) q<|on0<|Sq.n<|W.seq<|W.cond (b := (decide (v106 < (v1.length : Int)))) q (fun hc => ?_) (fun hc => ?_)
  ·have h := bif_t h hc
   refine W.skip<|Sq.n<|W.seq<|W.block<|W.seq<|W.region ?_
   obtain ⟨v111, e111, h⟩ := bind_some h
   refine ov (g_idxI (l := v1) (enc := eI) e111 q q q q q el_23 q) q<|ov (g_loadR1 q q q q q ag_3) q<|va q q q q q<|on0<|Sq.n<|W.region<|vm q q q q q<|vm q q q q q ?_
   obtain ⟨v112, e112, h⟩ := bind_some h
   refine ov (g_call q q q ca_156 q (c_156 _ _ e112)) q ?_
   obtain ⟨v113, e113, h⟩ := bind_some h
   refine ov (g_catI e113 q q q q q) q ?_
   obtain ⟨v114, e114, h⟩ := bind_some h
   exact ov (g_catI e114 q q q q q) q<|va q q q q q<|on0<|Bl.n<|Sq.n<|W.region<|ov (g_add q q q q q) q<|vm q q q q q<|on0<|Sq.n<|⟨(k1, v114, wr (v106 + 1)), h, Nat.lt_succ_self _, has_mk ⟨q, q, q, q, trivial⟩ trivial trivial q⟩
  ·have h := bif_f h hc
   refine W.exit<|Sq.e<|Sq.e<|Bl.e<|Sq.n<|W.seq<|W.region<|vm q q q q q<|va q q q q q<|on0<|Sq.n<|W.ret ?_
   obtain rfl := Option.some.inj h
   exact Fin.r q (.cons (.tmp _ _ q) .nil) q
end Go.Proofs.YtohmhlkdgfcaeaaGreatDoor
namespace Go.Proofs.YtohmhlkdgfcaeaaGreatDoor
open Go Go.RowKit
set_option maxRecDepth 4000
attribute [local irreducible] W Ops GS GSG
def s_126_j5 (K1 : Int → (List Int) → Option ((List Int) × Bool)) (v115 : Int) (v123 : Int) (v125 : (List Int)) : Option ((List Int) × Bool) := (ix v125 v123).bind fun v126 => (shl .i64 1 v115).bind fun v127 => (ix v125 v123).bind fun v128 => K1 (wr (v115 + 1)) (sts v125 v123 (bits .or .i64 v126 v127))
def s_126_l1 (v0 : (List Int)) : Nat → Int → (List Int) → Option ((List Int) × Bool)
| 0, _, _ => none
| k1 + 1, v115, v116 => bif (decide (v115 < (v0.length : Int))) then ( (ix v0 v115).bind fun v123 => bif (decide ((v116.length : Int) < v123)) then ( some (([], false)) ) else ( bif (decide (v123 = (v116.length : Int))) then ( (app v116 ([0])).bind fun v124 => s_126_j5 (s_126_l1 v0 k1) v115 v123 v124 ) else ( s_126_j5 (s_126_l1 v0 k1) v115 v123 v116 ) )
 ) else ( some ((v116, true)) )
def s_126 (n : Nat) (v0 : (List Int)) : Option ((List Int) × Bool) := s_126_l1 v0 n 0 []
theorem c_126 (n : Nat) (v0 : (List Int)) {r : ((List Int) × Bool)} (h : s_126 n v0 = some r) :
  Fun Tryz.prog 126 [.sl (v0.map eI)] (.ret (.tup [.sl (r.1.map eI), .b r.2])) := by
 unfold s_126 at h
 refine enterW 35 Tryz.func126 q q q ?_
 intro w0 F0
 change W _ _ (Ev [(0, .pv (.sl (List.map eI v0)))]) _
 refine W.seq<|W.region<|va q q q q q<|va q q q q q<|on0<|Sq.n<|W.seq<|W.region<|va q q q q q<|on0<|Sq.n<|W.seq<|W.seq<|W.region<|vm q q q q q<|ov (g_lenM (l := v0) (enc := eI) q ul_23 q q q) q<|vm q q q q q<|on0<|Sq.n<|W.block<|W.conv (Conv.nilrow 4 24 3 1 q q)<|W.loop (σ := Nat × Int × (List Int)) (fun s => (⟨[(4, .row 24), (7, .pv (.sl (List.map eI v0))), (8, .pv (.val (.int .i64 (v0.length : Int)))), (9, .pv (.i s.2.1))], [], [(24, ⟨3, 1, List.map eI s.2.2⟩)]⟩ : Env)) (fun s => s_126_l1 v0 s.1 s.2.1 s.2.2 = some r) (fun s => s.1) (n, 0, []) h (has_mk ⟨q, q, q, q, trivial⟩ trivial ⟨q, trivial⟩ q) ?_
 rintro ⟨k1, v115, v116⟩ h
 change s_126_l1 v0 k1 v115 v116 = some r at h
 rcases k1 with _ | k1
 ·rw [s_126_l1] at h
  cases h
 ·rw [s_126_l1] at h
  change W _ _ (⟨[(4, .row 24), (7, .pv (.sl (List.map eI v0))), (8, .pv (.val (.int .i64 (v0.length : Int)))), (9, .pv (.i v115))], [], [(24, ⟨3, 1, List.map eI v116⟩)]⟩ : Env) _
  refine W.seq<|W.region<|ov (g_lss q q q q q) q<|on0<|Sq.n<|W.seq<|W.cond (b := (decide (v115 < (v0.length : Int)))) q (fun hc => ?_) (fun hc => ?_)
  ·have h := bif_t h hc
   refine W.skip<|Sq.n<|W.seq<|W.block<|W.seq<|W.region<|vm q q q q q ?_
   obtain ⟨v123, e123, h⟩ := bind_some h
   refine ov (g_idxI (l := v0) (enc := eI) e123 q q q q q el_23 q) q<|ov (g_loadR1 q q q q q ag_3) q<|va q q q q q<|va q q q q q<|on0<|Sq.n<|W.seq<|W.seq<|W.region<|vm q q q q q<|vm q q q q q<|ov (g_lenRM (l := v116) (enc := eI) q ul_23 q q q q) q<|ov (g_gtr q q q q q) q<|on0<|Sq.n<|W.cond (b := (decide ((v116.length : Int) < v123))) q (fun hc => ?_) (fun hc => ?_)
   ·have h := bif_t h hc
    refine W.seq<|W.region<|va q q q q q<|va q q q q q<|on0<|Sq.n<|W.conv (Conv.nilsl 2 q)<|W.ret<|Sq.r<|Bl.r<|Sq.r<|Sq.r<|Bl.r<|Sq.r ?_
    obtain rfl := Option.some.inj h
    exact Fin.r q (.cons (.tmp _ _ q) (.cons (.tmp _ _ q) .nil)) q
   ·have h := bif_f h hc
    refine W.skip<|Sq.n<|W.seqJ (σ := (List Int)) (fun s => (⟨[(4, .row 24), (5, .pv (.i v115)), (6, .pv (.i v123)), (7, .pv (.sl (List.map eI v0))), (8, .pv (.val (.int .i64 (v0.length : Int)))), (9, .pv (.i v115))], [], [(24, ⟨3, 1, List.map eI s⟩)]⟩ : Env)) (fun s => s_126_j5 (s_126_l1 v0 k1) v115 v123 s = some r) ?_ ?_
    ·refine W.seq<|W.region<|vm q q q q q<|vm q q q q q<|ov (g_lenRM (l := v116) (enc := eI) q ul_23 q q q q) q<|ov (g_eql q q q q q) q<|on0<|Sq.n<|W.cond (b := (decide (v123 = (v116.length : Int)))) q (fun hc => ?_) (fun hc => ?_)
     ·have h := bif_t h hc
      refine W.region<|vm q q q q q<|Ops.r (g_buildSlice (cs := [.val (.int .i64 0)]) (es := List.map eI [0]) q q q el_23 ⟨_, zr_3⟩ q q q q q q) q q ?_
      obtain ⟨v124, e124, h⟩ := bind_some h
      refine Ops.step q (s_appendR (enc := eI) e124 q q q q q q q q ex_23 (fun _ => q))<|va q q q q q<|on0<|Sq.n<|⟨v124, h, has_mk ⟨q, q, q, q, q, q, trivial⟩ trivial ⟨q, trivial⟩ q⟩
     ·have h := bif_f h hc
      refine W.skip<|Sq.n<|⟨v116, h, has_mk ⟨q, q, q, q, q, q, trivial⟩ trivial ⟨q, trivial⟩ q⟩
    ·rintro v125 h
     change s_126_j5 (s_126_l1 v0 k1) v115 v123 v125 = some r at h
     unfold s_126_j5 at h
     change W _ _ (⟨[(4, .row 24), (5, .pv (.i v115)), (6, .pv (.i v123)), (7, .pv (.sl (List.map eI v0))), (8, .pv (.val (.int .i64 (v0.length : Int)))), (9, .pv (.i v115))], [], [(24, ⟨3, 1, List.map eI v125⟩)]⟩ : Env) _
     obtain ⟨v126, e126, h⟩ := bind_some h
     obtain ⟨v127, e127, h⟩ := bind_some h
     refine W.draw (m := 6) Checked.mixed (Pre.v (GSG.of q (g_move q q q q)) ((Pre.v (GSG.of q (g_move q q q q)) ((Pre.v (GSG.of q (g_idxPI (l := v125) (enc := eI) e126 q q q q q q el_23)) ((Pre.v (GSG.of q (g_loadP1I (sz := 1) (l := v125) (enc := eI) 0 e126 q q q q q q ag_3)) ((Pre.v (GSG.of q (g_move q q q q)) ((Pre.v (GSG.of q (g_shlI e127 q q q q q)) (Pre.nil _)))))))))))) (by kernel_rfl)<|ov (g_or q q q q q) q ?_
     obtain ⟨v128, e128, h⟩ := bind_some h
     exact ov (g_idxPI (l := v125) (enc := eI) e128 q q q q q q el_23) q<|Ops.step q (s_storePI (sz := 1) (l := v125) (enc := eI) (bits .or .i64 v126 v127) e128 q q q q q q q sz_3 q q)<|on0<|Bl.n<|Sq.n<|W.region<|ov (g_add q q q q q) q<|vm q q q q q<|on0<|Sq.n<|⟨(k1, wr (v115 + 1), sts v125 v123 (bits .or .i64 v126 v127)), h, Nat.lt_succ_self _, has_mk ⟨q, q, q, q, trivial⟩ trivial ⟨q, trivial⟩ q⟩
  ·have h := bif_f h hc
   refine W.exit<|Sq.e<|Sq.e<|Bl.e<|Sq.n<|W.seq<|W.region<|vm q q q q q<|va q q q q q<|va q q q q q<|on0<|Sq.n<|W.share (k := 24) q<|W.ret ?_
   obtain rfl := Option.some.inj h
   exact Fin.r q (.cons (.tmp _ _ q) (.cons (.tmp _ _ q) .nil)) q
end Go.Proofs.YtohmhlkdgfcaeaaGreatDoor
namespace Go.Proofs.YtohmhlkdgfcaeaaGreatDoor
open Go Go.RowKit
set_option maxRecDepth 4000
attribute [local irreducible] W Ops GS GSG
def s_88_j22 (K16 : Int → Option (Bool)) (v152 : Int) (v164 : Bool) : Option (Bool) := bif v164 then ( some (false) ) else ( K16 (wr (v152 + 1)) )
def s_88_l16 (n : Nat) (K1 : Int → Option (Bool)) (v1 : Int) (v2 : Int) (v122 : Int) (v144 : Filled) (v145 : (List Filled)) : Nat → Int → Option (Bool)
| 0, _ => none
| k16 + 1, v152 => bif (decide (v152 < (v145.length : Int))) then ( (ix v145 v152).bind fun v159 => (s_85 n v144 v1).bind fun v160 => (s_86 n v159 v1).bind fun v161 => bif (decide ((wr (v160 - v161)) ≤ (wr (2 * v2)))) then ( (s_85 n v159 v1).bind fun v162 => (s_86 n v144 v1).bind fun v163 =>
 s_88_j22 (s_88_l16 n K1 v1 v2 v122 v144 v145 k16) v152 (decide ((wr (v162 - v163)) ≤ (wr (2 * v2)))) ) else ( s_88_j22 (s_88_l16 n K1 v1 v2 v122 v144 v145 k16) v152 false ) ) else ( K1 (wr (v122 + 1)) )
def s_88_l1 (n : Nat) (v0 : (List Filled)) (v1 : Int) (v2 : Int) : Nat → Int → Option (Bool)
| 0, _ => none
| k1 + 1, v122 => bif (decide (v122 < (v0.length : Int))) then ( (ix v0 v122).bind fun v144 => (subl v0 0 v122).bind fun v145 => s_88_l16 n (s_88_l1 n v0 v1 v2 k1) v1 v2 v122 v144 v145 n 0 ) else ( some (true) )
def s_88 (n : Nat) (v0 : (List Filled)) (v1 : Int) (v2 : Int) : Option (Bool) := s_88_l1 n v0 v1 v2 n 0
theorem c_88 (n : Nat) (v0 : (List Filled)) (v1 : Int) (v2 : Int) {r : (Bool)} (h : s_88 n v0 v1 v2 = some r) :
  Fun Tryz.prog 88 [.sl (v0.map cFilled), .val (.int .i64 v1), .val (.int .i64 v2)] (.ret (.b r)) := by
 unfold s_88 at h
 refine enterW 50 Tryz.func88 q q q ?_
 intro w0 F0
 change W _ _ (Ev [(0, .pv (.sl (List.map cFilled v0))), (1, .pv (.i v1)), (2, .pv (.i v2))]) _
 refine W.seq<|W.region<|va q q q q q<|on0<|Sq.n<|W.seq<|W.seq<|W.region<|vm q q q q q<|ov (g_lenM (l := v0) (enc := cFilled) q ul_111 q q q) q<|vm q q q q q<|on0<|Sq.n<|W.block<|W.loop (σ := Nat × Int) (fun s => (Ev [(0, .pv (.sl (List.map cFilled v0))), (1, .pv (.i v1)), (2, .pv (.i v2)), (11, .pv (.sl (List.map cFilled v0))), (12, .pv (.val (.int .i64 (v0.length : Int)))), (13, .pv (.i s.2))])) (fun s => s_88_l1 n v0 v1 v2 s.1 s.2 = some r) (fun s => s.1) (n, 0) h (has_mk ⟨q, q, q, q, q, q, trivial⟩ trivial trivial q) ?_
 rintro ⟨k1, v122⟩ h
 change s_88_l1 n v0 v1 v2 k1 v122 = some r at h
 rcases k1 with _ | k1
 ·rw [s_88_l1] at h
  cases h
 ·rw [s_88_l1] at h
  change W _ _ (Ev [(0, .pv (.sl (List.map cFilled v0))), (1, .pv (.i v1)), (2, .pv (.i v2)), (11, .pv (.sl (List.map cFilled v0))), (12, .pv (.val (.int .i64 (v0.length : Int)))), (13, .pv (.i v122))]) _
  refine W.seq<|W.region<|ov (g_lss q q q q q) q<|on0<|Sq.n<|W.seq<|W.cond (b := (decide (v122 < (v0.length : Int)))) q (fun hc => ?_) (fun hc => ?_)
  ·have h := bif_t h hc
   refine W.skip<|Sq.n<|W.seq<|W.block<|W.seq<|W.region<|vm q q q q q ?_
   obtain ⟨v144, e144, h⟩ := bind_some h
   refine ov (g_idxI (l := v0) (enc := cFilled) e144 q q q q q el_111 q) q<|ov (g_loadRA q q q q ag_115 sz_115 q q) q<|ob (g_alloc q q q zr_115) q q<|va q q q q q<|Ops.step q (s_storeB q q q q q q sz_115 q q)<|on0<|Sq.n<|W.seq<|W.region<|vm q q q q q<|vm q q q q q ?_
   obtain ⟨v145, e145, h⟩ := bind_some h
   refine ov (g_sliceM (enc := cFilled) e145 q q q q el_111 (fun _ => q) q q) q<|ov (g_lenM (l := v145) (enc := cFilled) q ul_111 q q q) q<|vm q q q q q<|on0<|Sq.n<|W.block<|W.loop (σ := Nat × Int) (fun s => (⟨[(0, .pv (.sl (List.map cFilled v0))), (1, .pv (.i v1)), (2, .pv (.i v2)), (8, .box 8 0), (11, .pv (.sl (List.map cFilled v0))), (12, .pv (.val (.int .i64 (v0.length : Int)))), (13, .pv (.i v122)), (20, .pv (.sl (List.map cFilled v145))), (21, .pv (.val (.int .i64 (v145.length : Int)))), (22, .pv (.i s.2))], [(8, 115, [.pv (.sl (List.map cAcid v144.drum.acids)), .pv (.i v144.drum.known), .pv (.i v144.drum.hours), .pv (.sl (List.map eI v144.drum.adds)), .pv (.sl (List.map cStrip v144.drum.strips)), .pv (.sl (List.map cBatch v144.drum.batches)), .pv (.i v144.acid), .pv (.sl (List.map cSpan v144.strong))])], []⟩ : Env)) (fun s => s_88_l16 n (s_88_l1 n v0 v1 v2 k1) v1 v2 v122 v144 v145 s.1 s.2 = some r) (fun s => s.1) (n, 0) h (has_mk ⟨q, q, q, q, q, q, q, q, q, q, trivial⟩ ⟨q, trivial⟩ trivial q) ?_
   rintro ⟨k16, v152⟩ h
   change s_88_l16 n (s_88_l1 n v0 v1 v2 k1) v1 v2 v122 v144 v145 k16 v152 = some r at h
   rcases k16 with _ | k16
   ·rw [s_88_l16] at h
    cases h
   ·rw [s_88_l16] at h
    change W _ _ (⟨[(0, .pv (.sl (List.map cFilled v0))), (1, .pv (.i v1)), (2, .pv (.i v2)), (8, .box 8 0), (11, .pv (.sl (List.map cFilled v0))), (12, .pv (.val (.int .i64 (v0.length : Int)))), (13, .pv (.i v122)), (20, .pv (.sl (List.map cFilled v145))), (21, .pv (.val (.int .i64 (v145.length : Int)))), (22, .pv (.i v152))], [(8, 115, [.pv (.sl (List.map cAcid v144.drum.acids)), .pv (.i v144.drum.known), .pv (.i v144.drum.hours), .pv (.sl (List.map eI v144.drum.adds)), .pv (.sl (List.map cStrip v144.drum.strips)), .pv (.sl (List.map cBatch v144.drum.batches)), .pv (.i v144.acid), .pv (.sl (List.map cSpan v144.strong))])], []⟩ : Env) _
    refine W.seq<|W.region<|ov (g_lss q q q q q) q<|on0<|Sq.n<|W.seq<|W.cond (b := (decide (v152 < (v145.length : Int)))) q (fun hc => ?_) (fun hc => ?_)
    ·have h := bif_t h hc
     refine W.skip<|Sq.n<|W.seq<|W.block<|W.seq<|W.region ?_
     obtain ⟨v159, e159, h⟩ := bind_some h
     refine ov (g_idxI (l := v145) (enc := cFilled) e159 q q q q q el_111 q) q<|ov (g_loadRA q q q q ag_115 sz_115 q q) q<|ob (g_alloc q q q zr_115) q q<|Ops.step q (s_storeB q q q q q q sz_115 q q)<|on0<|Sq.n<|W.seqJ (σ := Bool) (fun s => (⟨[(0, .pv (.sl (List.map cFilled v0))), (1, .pv (.i v1)), (2, .pv (.i v2)), (8, .box 8 0), (11, .pv (.sl (List.map cFilled v0))), (12, .pv (.val (.int .i64 (v0.length : Int)))), (13, .pv (.i v122)), (20, .pv (.sl (List.map cFilled v145))), (21, .pv (.val (.int .i64 (v145.length : Int)))), (22, .pv (.i v152)), (47, .pv (.b s))], [(8, 115, [.pv (.sl (List.map cAcid v144.drum.acids)), .pv (.i v144.drum.known), .pv (.i v144.drum.hours), .pv (.sl (List.map eI v144.drum.adds)), .pv (.sl (List.map cStrip v144.drum.strips)), .pv (.sl (List.map cBatch v144.drum.batches)), .pv (.i v144.acid), .pv (.sl (List.map cSpan v144.strong))])], []⟩ : Env)) (fun s => s_88_j22 (s_88_l16 n (s_88_l1 n v0 v1 v2 k1) v1 v2 v122 v144 v145 k16) v152 s = some r) ?_ ?_
     ·obtain ⟨v160, e160, h⟩ := bind_some h
      obtain ⟨v161, e161, h⟩ := bind_some h
      rcases Bool.eq_false_or_eq_true ((decide ((wr (v160 - v161)) ≤ (wr (2 * v2))))) with hb21 | hb21
      ·have h := bif_t h hb21
       obtain ⟨v162, e162, h⟩ := bind_some h
       obtain ⟨v163, e163, h⟩ := bind_some h
       refine W.draw (m := 20) Checked.mixed (Pre.v (GSG.of q (g_loadA q q q q q ag_115 sz_115 q q)) ((Pre.v (GSG.of q (g_move q q q q)) ((Pre.v (GSG.of q (g_call q q q ca_85 q (c_85 _ _ _ e160))) ((Pre.v (GSG.of q (g_loadA q q q q q ag_115 sz_115 q q)) ((Pre.v (GSG.of q (g_move q q q q)) ((Pre.v (GSG.of q (g_call q q q ca_86 q (c_86 _ _ _ e161))) ((Pre.v (GSG.of q (g_sub q q q q q)) ((Pre.v (GSG.of q (g_move q q q q)) ((Pre.v (GSG.of q (g_mul q q q q q)) ((Pre.v (GSG.of q (g_leq q q q q q)) ((Pre.v (GSG.as (GSG.of q (g_move q q q q)) (congrArg (fun b => TV.pv (PV.b b)) hb21)) ((Pre.v (GSG.on q q q (g_loadA q q q q q ag_115 sz_115 q q)) ((Pre.v (GSG.on q q q (g_move q q q q)) ((Pre.v (GSG.on q q q (g_call q q q ca_85 q (c_85 _ _ _ e162))) ((Pre.v (GSG.on q q q (g_loadA q q q q q ag_115 sz_115 q q)) ((Pre.v (GSG.on q q q (g_move q q q q)) ((Pre.v (GSG.on q q q (g_call q q q ca_86 q (c_86 _ _ _ e163))) ((Pre.v (GSG.on q q q (g_sub q q q q q)) ((Pre.v (GSG.on q q q (g_move q q q q)) ((Pre.v (GSG.on q q q (g_mul q q q q q)) (Pre.nil _)))))))))))))))))))))))))))))))))))))))) (by kernel_rfl)<|on q q q<|ov (g_leq q q q q q) q<|vt q q q q q q<|on0<|Sq.n<|⟨(decide ((wr (v162 - v163)) ≤ (wr (2 * v2)))), h, has_mk ⟨q, q, q, q, q, q, q, q, q, q, q, trivial⟩ ⟨q, trivial⟩ trivial q⟩
      ·have h := bif_f h hb21
       refine W.draw (m := 20) Checked.mixed (Pre.v (GSG.of q (g_loadA q q q q q ag_115 sz_115 q q)) ((Pre.v (GSG.of q (g_move q q q q)) ((Pre.v (GSG.of q (g_call q q q ca_85 q (c_85 _ _ _ e160))) ((Pre.v (GSG.of q (g_loadA q q q q q ag_115 sz_115 q q)) ((Pre.v (GSG.of q (g_move q q q q)) ((Pre.v (GSG.of q (g_call q q q ca_86 q (c_86 _ _ _ e161))) ((Pre.v (GSG.of q (g_sub q q q q q)) ((Pre.v (GSG.of q (g_move q q q q)) ((Pre.v (GSG.of q (g_mul q q q q q)) ((Pre.v (GSG.of q (g_leq q q q q q)) ((Pre.v (GSG.as (GSG.of q (g_move q q q q)) (congrArg (fun b => TV.pv (PV.b b)) hb21)) ((Pre.v (GSG.off2 q q q q q q) ((Pre.v (GSG.off2 q q q q q q) ((Pre.v (GSG.off2 q q q q q q) ((Pre.v (GSG.off2 q q q q q q) ((Pre.v (GSG.off2 q q q q q q) ((Pre.v (GSG.off2 q q q q q q) ((Pre.v (GSG.off2 q q q q q q) ((Pre.v (GSG.off2 q q q q q q) ((Pre.v (GSG.off2 q q q q q q) (Pre.nil _)))))))))))))))))))))))))))))))))))))))) (by kernel_rfl)<|o2 q q q q q q<|vf q q q q q q<|on0<|Sq.n<|⟨false, h, has_mk ⟨q, q, q, q, q, q, q, q, q, q, q, trivial⟩ ⟨q, trivial⟩ trivial q⟩
     ·rintro v164 h
      change s_88_j22 (s_88_l16 n (s_88_l1 n v0 v1 v2 k1) v1 v2 v122 v144 v145 k16) v152 v164 = some r at h
      unfold s_88_j22 at h
      change W _ _ (⟨[(0, .pv (.sl (List.map cFilled v0))), (1, .pv (.i v1)), (2, .pv (.i v2)), (8, .box 8 0), (11, .pv (.sl (List.map cFilled v0))), (12, .pv (.val (.int .i64 (v0.length : Int)))), (13, .pv (.i v122)), (20, .pv (.sl (List.map cFilled v145))), (21, .pv (.val (.int .i64 (v145.length : Int)))), (22, .pv (.i v152)), (47, .pv (.b v164))], [(8, 115, [.pv (.sl (List.map cAcid v144.drum.acids)), .pv (.i v144.drum.known), .pv (.i v144.drum.hours), .pv (.sl (List.map eI v144.drum.adds)), .pv (.sl (List.map cStrip v144.drum.strips)), .pv (.sl (List.map cBatch v144.drum.batches)), .pv (.i v144.acid), .pv (.sl (List.map cSpan v144.strong))])], []⟩ : Env) _
      refine W.cond (b := v164) q (fun hc => ?_) (fun hc => ?_)
      ·have h := bif_t h hc
       refine W.seq<|W.region<|va q q q q q<|on0<|Sq.n<|W.ret<|Bl.r<|Sq.r<|Sq.r<|Bl.r<|Bl.r<|Sq.r<|Sq.r<|Bl.r<|Sq.r ?_
       obtain rfl := Option.some.inj h
       exact Fin.r q (.cons (.tmp _ _ q) .nil) q
      ·have h := bif_f h hc
       exact W.skip<|Bl.n<|Sq.n<|W.region<|ov (g_add q q q q q) q<|vm q q q q q<|on0<|Sq.n<|⟨(k16, wr (v152 + 1)), h, Nat.lt_succ_self _, has_mk ⟨q, q, q, q, q, q, q, q, q, q, trivial⟩ ⟨q, trivial⟩ trivial q⟩
    ·have h := bif_f h hc
     exact W.exit<|Sq.e<|Sq.e<|Bl.e<|Bl.n<|Sq.n<|W.region<|ov (g_add q q q q q) q<|vm q q q q q<|on0<|Sq.n<|⟨(k1, wr (v122 + 1)), h, Nat.lt_succ_self _, has_mk ⟨q, q, q, q, q, q, trivial⟩ trivial trivial q⟩
  ·have h := bif_f h hc
   refine W.exit<|Sq.e<|Sq.e<|Bl.e<|Sq.n<|W.seq<|W.region<|va q q q q q<|on0<|Sq.n<|W.ret ?_
   obtain rfl := Option.some.inj h
   exact Fin.r q (.cons (.tmp _ _ q) .nil) q
def s_118_l1 (n : Nat) (f2 : (Int → Option (Int))) (v0 : Batch) (v1 : Int) : Nat → Int → (List Int) → (List Int) → Option (State)
| 0, _, _, _ => none
| k1 + 1, v114, v115, v116 => bif (decide (v114 < v1)) then ( (f2 v114).bind fun v122 => (quo .i64 (wr (v122 * v0.polish)) 100).bind fun v123 => (app v115 ([v123])).bind fun v124 => (quo .i64 (wr (v122 * v0.eat)) 100).bind fun v125 => (app v116 ([v125])).bind fun v126 => (s_118_l1 n f2 v0 v1 k1) (wr (v114 + 1)) v124 v126 ) else ( (s_166 n v115).bind fun v128 => (s_166 n v116).bind fun v129 =>
 some ((State.mk (max 0 (wr (v0.rough - v128))) (max 0 (wr (v0.thick - v129))))) )
def s_118 (n : Nat) (v0 : Batch) (v1 : Int) (f2 : (Int → Option (Int))) : Option (State) := s_118_l1 n f2 v0 v1 n 0 [] []
theorem c_118 (n : Nat) (v0 : Batch) (v1 : Int) (f2 : (Int → Option (Int))) {fidf2 : Nat} {firstf2 capsf2 : List PV} (hcf2 : Callable Tryz.prog fidf2) (hgf2 : ∀ x0 y, f2 x0 = some y → Fun Tryz.prog fidf2 (firstf2 ++ [.val (.int .i64 x0)] ++ capsf2) (.ret (.val (.int .i64 y)))) {r : (State)} (h : s_118 n v0 v1 f2 = some r) :
  Fun Tryz.prog 118 [.agg (cBatch v0), .val (.int .i64 v1), .fn fidf2 firstf2 capsf2] (.ret (.agg (cState r))) := by
 unfold s_118 at h
 refine enterW 48 Tryz.func118 q q q ?_
 intro w0 F0
 change W _ _ (Ev [(0, .pv (.agg (cBatch v0))), (1, .pv (.i v1)), (2, .pv (.fn fidf2 firstf2 capsf2))]) _
 refine W.seq<|W.region<|ob (g_box q q q q q) q q<|ob (g_alloc q q q zr_69) q q<|on0<|Sq.n<|W.seq<|W.region<|va q q q q q<|va q q q q q<|on0<|Sq.n<|W.seq<|W.seq<|W.region<|vm q q q q q<|vm q q q q q<|on0<|Sq.n<|W.block<|W.conv (Conv.nilrow 7 25 3 1 q q)<|W.conv (Conv.nilrow 8 33 3 1 q q)<|W.loop (σ := Nat × Int × (List Int) × (List Int)) (fun s => (⟨[(2, .pv (.fn fidf2 firstf2 capsf2)), (3, .box 3 0), (6, .box 6 0), (7, .row 25), (8, .row 33), (11, .pv (.i v1)), (12, .pv (.i s.2.1))], [(3, 67, [.pv (.i v0.rough), .pv (.i v0.goal), .pv (.i v0.thick), .pv (.i v0.least), .pv (.i v0.polish), .pv (.i v0.eat)]), (6, 69, [.pv (.i 0), .pv (.i 0)])], [(25, ⟨3, 1, List.map eI s.2.2.1⟩), (33, ⟨3, 1, List.map eI s.2.2.2⟩)]⟩ : Env)) (fun s => s_118_l1 n f2 v0 v1 s.1 s.2.1 s.2.2.1 s.2.2.2 = some r) (fun s => s.1) (n, 0, [], []) h (has_mk ⟨q, q, q, q, q, q, q, trivial⟩ ⟨q, q, trivial⟩ ⟨q, q, trivial⟩ q) ?_
 rintro ⟨k1, v114, v115, v116⟩ h
 change s_118_l1 n f2 v0 v1 k1 v114 v115 v116 = some r at h
 rcases k1 with _ | k1
 ·rw [s_118_l1] at h
  cases h
 ·rw [s_118_l1] at h
  change W _ _ (⟨[(2, .pv (.fn fidf2 firstf2 capsf2)), (3, .box 3 0), (6, .box 6 0), (7, .row 25), (8, .row 33), (11, .pv (.i v1)), (12, .pv (.i v114))], [(3, 67, [.pv (.i v0.rough), .pv (.i v0.goal), .pv (.i v0.thick), .pv (.i v0.least), .pv (.i v0.polish), .pv (.i v0.eat)]), (6, 69, [.pv (.i 0), .pv (.i 0)])], [(25, ⟨3, 1, List.map eI v115⟩), (33, ⟨3, 1, List.map eI v116⟩)]⟩ : Env) _
  refine W.seq<|W.region<|ov (g_lss q q q q q) q<|on0<|Sq.n<|W.seq<|W.cond (b := (decide (v114 < v1))) q (fun hc => ?_) (fun hc => ?_)
  ·have h := bif_t h hc
   refine W.skip<|Sq.n<|W.seq<|W.block<|W.seq<|W.region<|vm q q q q q<|va q q q q q<|on0<|Sq.n<|W.seq<|W.region<|vm q q q q q<|vm q q q q q ?_
   obtain ⟨v122, e122, h⟩ := bind_some h
   refine ov (g_callv q q q q hcf2 q (hgf2 _ _ e122)) q<|va q q q q q<|on0<|Sq.n ?_
   obtain ⟨v123, e123, h⟩ := bind_some h
   obtain ⟨v124, e124, h⟩ := bind_some h
   obtain ⟨v125, e125, h⟩ := bind_some h
   refine W.drawR (m := 15) Checked.mixed (PreR.v (GSQ.of (GSG.of q (g_move q q q q))) ((PreR.v (GSQ.of (GSG.of q (g_move q q q q))) ((PreR.v (GSQ.of (GSG.of q (g_fld q q q q fl_67_4))) ((PreR.v (GSQ.of (GSG.of q (g_load1 q q q q q q ag_3))) ((PreR.v (GSQ.of (GSG.of q (g_mul q q q q q))) ((PreR.v (GSQ.of (GSG.of q (g_quoI e123 q q q q q))) ((PreR.r (GSQ.of (GSG.of q (g_buildSlice (cs := [.val (.int .i64 v123)]) (es := List.map eI [v123]) q q q el_23 ⟨_, zr_3⟩ q q q q q q))) q ((PreR.aR (enc := eI) [7, 18] e124 q q q q q q q q q ex_23 (fun _ => q) q q ((PreR.v (GSQ.of (GSG.of q (g_move q q q q))) ((PreR.v (GSQ.of (GSG.of q (g_move q q q q))) ((PreR.v (GSQ.of (GSG.of q (g_fld q q q q fl_67_5))) ((PreR.v (GSQ.of (GSG.of q (g_load1 q q q q q q ag_3))) ((PreR.v (GSQ.of (GSG.of q (g_mul q q q q q))) ((PreR.v (GSQ.of (GSG.of q (g_quoI e125 q q q q q))) ((PreR.r (GSQ.of (GSG.of q (g_buildSlice (cs := [.val (.int .i64 v125)]) (es := List.map eI [v125]) q q q el_23 ⟨_, zr_3⟩ q q q q q q))) q (PreR.nil _)))))))))))))))))))))))))))))) (by kernel_rfl) ?_
   obtain ⟨v126, e126, h⟩ := bind_some h
   exact Ops.step q (s_appendR (enc := eI) e126 q q q q q q q q ex_23 (fun _ => q))<|va q q q q q<|va q q q q q<|on0<|Bl.n<|Sq.n<|W.region<|ov (g_add q q q q q) q<|vm q q q q q<|on0<|Sq.n<|⟨(k1, wr (v114 + 1), v124, v126), h, Nat.lt_succ_self _, has_mk ⟨q, q, q, q, q, q, q, trivial⟩ ⟨q, q, trivial⟩ ⟨q, q, trivial⟩ q⟩
  ·have h := bif_f h hc
   refine W.exit<|Sq.e<|Sq.e<|Bl.e<|Sq.n<|W.seq<|W.share (k := 25) q<|W.share (k := 33) q ?_
   obtain ⟨v128, e128, h⟩ := bind_some h
   obtain ⟨v129, e129, h⟩ := bind_some h
   refine W.draw (m := 12) Checked.mixed (Pre.v (GSG.of q (g_fld q q q q fl_67_0)) ((Pre.v (GSG.of q (g_load1 q q q q q q ag_3)) ((Pre.v (GSG.of q (g_move q q q q)) ((Pre.v (GSG.of q (g_call q q q ca_166 q (c_166 _ _ e128))) ((Pre.v (GSG.of q (g_sub q q q q q)) ((Pre.v (GSG.of q (g_max q q q q q)) ((Pre.v (GSG.of q (g_fld q q q q fl_67_2)) ((Pre.v (GSG.of q (g_load1 q q q q q q ag_3)) ((Pre.v (GSG.of q (g_move q q q q)) ((Pre.v (GSG.of q (g_call q q q ca_166 q (c_166 _ _ e129))) ((Pre.v (GSG.of q (g_sub q q q q q)) ((Pre.v (GSG.of q (g_max q q q q q)) (Pre.nil _)))))))))))))))))))))))) (by kernel_rfl)<|ov (g_build (cs := (cState (State.mk (max 0 (wr (v0.rough - v128))) (max 0 (wr (v0.thick - v129)))))) q q q zr_69 st_69 q q) q<|Ops.step q (s_storeB q q q q q q sz_69 q q)<|on0<|Sq.n<|W.ret ?_
   obtain rfl := Option.some.inj h
   exact Fin.r q (.cons (.agg _ _ _ _ (cState (State.mk (max 0 (wr (v0.rough - v128))) (max 0 (wr (v0.thick - v129))))) q q ag_69 sz_69) .nil) q
def s_95 (n : Nat) (v0 : (List Strip)) (f1 : (Strip → Option (Bool))) : Option (Bool) := (s_143 n v0 f1).bind fun v101 => some ((decide (0 ≤ v101)))
theorem c_95 (n : Nat) (v0 : (List Strip)) (f1 : (Strip → Option (Bool))) {fidf1 : Nat} {firstf1 capsf1 : List PV} (hcf1 : Callable Tryz.prog fidf1) (hgf1 : ∀ x0 y, f1 x0 = some y → Fun Tryz.prog fidf1 (firstf1 ++ [.agg (cStrip x0)] ++ capsf1) (.ret (.b y))) {r : (Bool)} (h : s_95 n v0 f1 = some r) :
  Fun Tryz.prog 95 [.sl (v0.map cStrip), .fn fidf1 firstf1 capsf1] (.ret (.b r)) := by
 unfold s_95 at h
 refine enterW 9 Tryz.func95 q q q ?_
 intro w0 F0
 change W _ _ (Ev [(0, .pv (.sl (List.map cStrip v0))), (1, .pv (.fn fidf1 firstf1 capsf1))]) _
 refine W.seq<|W.region<|va q q q q q<|on0<|Sq.n<|W.seq<|W.region<|vm q q q q q<|vm q q q q q ?_
 obtain ⟨v101, e101, h⟩ := bind_some h
 refine ov (g_call q q q ca_143 q (c_143 _ _ _ hcf1 hgf1 e101)) q<|ov (g_geq q q q q q) q<|va q q q q q<|on0<|Sq.n<|W.ret ?_
 obtain rfl := Option.some.inj h
 exact Fin.r q (.cons (.tmp _ _ q) .nil) q
def s_101 (n : Nat) (v0 : Int) (v1 : Span) : Option (Bool) := (s_87 n v0 v1.low v1.high).bind fun v101 => some (v101)
theorem c_101 (n : Nat) (v0 : Int) (v1 : Span) {r : (Bool)} (h : s_101 n v0 v1 = some r) :
  Fun Tryz.prog 101 [.val (.int .i64 v0), .agg (cSpan v1)] (.ret (.b r)) := by
 unfold s_101 at h
 refine enterW 11 Tryz.func101 q q q ?_
 intro w0 F0
 change W _ _ (Ev [(0, .pv (.i v0)), (1, .pv (.agg (cSpan v1)))]) _
 refine W.seq<|W.region<|ob (g_box q q q q q) q q<|va q q q q q<|on0<|Sq.n<|W.seq<|W.region<|vm q q q q q<|ov (g_fld q q q q fl_57_0) q<|ov (g_load1 q q q q q q ag_3) q<|ov (g_fld q q q q fl_57_1) q<|ov (g_load1 q q q q q q ag_3) q ?_
 obtain ⟨v101, e101, h⟩ := bind_some h
 refine ov (g_call q q q ca_87 q (c_87 _ _ _ _ e101)) q<|va q q q q q<|on0<|Sq.n<|W.ret ?_
 obtain rfl := Option.some.inj h
 exact Fin.r q (.cons (.tmp _ _ q) .nil) q
def s_111_l1 (n : Nat) (v0 : (List Int)) : Nat → ByteArray → Int → Option (ByteArray)
| 0, _, _ => none
| k1 + 1, v105, v106 => bif (decide (v106 < (v0.length : Int))) then ( (cat v105 (ByteArray.mk #[32])).bind fun v111 => (ix v0 v106).bind fun v112 => (s_112 n v112).bind fun v113 => (cat v111 v113).bind fun v114 => (s_111_l1 n v0 k1) v114 (wr (v106 + 1)) ) else ( some (v105) )
def s_111 (n : Nat) (v0 : (List Int)) : Option (ByteArray) := s_111_l1 n v0 n (ByteArray.mk #[]) 0
theorem c_111 (n : Nat) (v0 : (List Int)) {r : (ByteArray)} (h : s_111 n v0 = some r) :
  Fun Tryz.prog 111 [.sl (v0.map eI)] (.ret (.s r)) := by
 unfold s_111 at h
 refine enterW 20 Tryz.func111 q q q ?_
 intro w0 F0
 change W _ _ (Ev [(0, .pv (.sl (List.map eI v0)))]) _
 refine W.seq<|W.region<|va q q q q q<|on0<|Sq.n<|W.seq<|W.region<|va q q q q q<|on0<|Sq.n<|W.seq<|W.seq<|W.region<|va q q q q q<|on0<|Sq.n<|W.block<|W.loop (σ := Nat × ByteArray × Int) (fun s => (Ev [(0, .pv (.sl (List.map eI v0))), (3, .pv (.s s.2.1)), (4, .pv (.i s.2.2))])) (fun s => s_111_l1 n v0 s.1 s.2.1 s.2.2 = some r) (fun s => s.1) (n, (ByteArray.mk #[]), 0) h (has_mk ⟨q, q, q, trivial⟩ trivial trivial q) ?_
 rintro ⟨k1, v105, v106⟩ h
 change s_111_l1 n v0 k1 v105 v106 = some r at h
 rcases k1 with _ | k1
 ·rw [s_111_l1] at h
  cases h
 ·rw [s_111_l1] at h
  change W _ _ (Ev [(0, .pv (.sl (List.map eI v0))), (3, .pv (.s v105)), (4, .pv (.i v106))]) _
  refine W.seq<|W.seq<|W.region<|vm q q q q q<|vm q q q q q<|ov (g_lenM (l := v0) (enc := eI) q ul_23 q q q) q<|ov (g_lss q q q q q) q<|on0<|Sq.n<|W.cond (b := (decide (v106 < (v0.length : Int)))) q (fun hc => ?_) (fun hc => ?_)
  ·have h := bif_t h hc
   refine W.skip<|Sq.n<|W.seq<|W.block<|W.region<|vm q q q q q ?_
   obtain ⟨v111, e111, h⟩ := bind_some h
   refine ov (g_catI e111 q q q q q) q<|vm q q q q q<|vm q q q q q ?_
   obtain ⟨v112, e112, h⟩ := bind_some h
   refine ov (g_idxI (l := v0) (enc := eI) e112 q q q q q el_23 q) q<|ov (g_loadR1 q q q q q ag_3) q ?_
   obtain ⟨v113, e113, h⟩ := bind_some h
   refine ov (g_call q q q ca_112 q (c_112 _ _ e113)) q ?_
   obtain ⟨v114, e114, h⟩ := bind_some h
   exact ov (g_catI e114 q q q q q) q<|va q q q q q<|on0<|Bl.n<|Sq.n<|W.region<|vm q q q q q<|ov (g_add q q q q q) q<|va q q q q q<|on0<|Sq.n<|⟨(k1, v114, wr (v106 + 1)), h, Nat.lt_succ_self _, has_mk ⟨q, q, q, trivial⟩ trivial trivial q⟩
  ·have h := bif_f h hc
   refine W.exit<|Sq.e<|Sq.e<|Bl.e<|Sq.n<|W.seq<|W.region<|vm q q q q q<|va q q q q q<|on0<|Sq.n<|W.ret ?_
   obtain rfl := Option.some.inj h
   exact Fin.r q (.cons (.tmp _ _ q) .nil) q
def s_131_l1 (n : Nat) (v0 : Int) : Nat → Int → (List Int) → Option ((List Int))
| 0, _, _ => none
| k1 + 1, v107, v108 => bif (decide (v107 < 5)) then ( (s_145 n v0 v107).bind fun v111 => bif v111 then ( (app v108 ([v107])).bind fun v112 => (s_131_l1 n v0 k1) (wr (v107 + 1)) v112 ) else ( (s_131_l1 n v0 k1) (wr (v107 + 1)) v108 ) ) else ( some (v108) )
def s_131 (n : Nat) (v0 : Int) : Option ((List Int)) := s_131_l1 n v0 n 0 []
theorem c_131 (n : Nat) (v0 : Int) {r : ((List Int))} (h : s_131 n v0 = some r) :
  Fun Tryz.prog 131 [.val (.int .i64 v0)] (.ret (.sl (r.map eI))) := by
 unfold s_131 at h
 refine enterW 17 Tryz.func131 q q q ?_
 intro w0 F0
 change W _ _ (Ev [(0, .pv (.i v0))]) _
 refine W.seq<|W.region<|va q q q q q<|on0<|Sq.n<|W.seq<|W.region<|va q q q q q<|on0<|Sq.n<|W.seq<|W.seq<|W.region<|vm q q q q q<|on0<|Sq.n<|W.block<|W.conv (Conv.nilrow 3 14 3 1 q q)<|W.loop (σ := Nat × Int × (List Int)) (fun s => (⟨[(0, .pv (.i v0)), (3, .row 14), (5, .pv (.i s.2.1))], [], [(14, ⟨3, 1, List.map eI s.2.2⟩)]⟩ : Env)) (fun s => s_131_l1 n v0 s.1 s.2.1 s.2.2 = some r) (fun s => s.1) (n, 0, []) h (has_mk ⟨q, q, q, trivial⟩ trivial ⟨q, trivial⟩ q) ?_
 rintro ⟨k1, v107, v108⟩ h
 change s_131_l1 n v0 k1 v107 v108 = some r at h
 rcases k1 with _ | k1
 ·rw [s_131_l1] at h
  cases h
 ·rw [s_131_l1] at h
  change W _ _ (⟨[(0, .pv (.i v0)), (3, .row 14), (5, .pv (.i v107))], [], [(14, ⟨3, 1, List.map eI v108⟩)]⟩ : Env) _
  refine W.seq<|W.region<|ov (g_lss q q q q q) q<|on0<|Sq.n<|W.seq<|W.cond (b := (decide (v107 < 5))) q (fun hc => ?_) (fun hc => ?_)
  ·have h := bif_t h hc
   refine W.skip<|Sq.n<|W.seq<|W.block<|W.seq<|W.region<|vm q q q q q<|va q q q q q<|on0<|Sq.n<|W.seq<|W.region<|vm q q q q q<|vm q q q q q ?_
   obtain ⟨v111, e111, h⟩ := bind_some h
   refine ov (g_call q q q ca_145 q (c_145 _ _ _ e111)) q<|on0<|Sq.n<|W.cond (b := v111) q (fun hc => ?_) (fun hc => ?_)
   ·have h := bif_t h hc
    refine W.region<|vm q q q q q<|vm q q q q q<|Ops.r (g_buildSlice (cs := [.val (.int .i64 v107)]) (es := List.map eI [v107]) q q q el_23 ⟨_, zr_3⟩ q q q q q q) q q ?_
    obtain ⟨v112, e112, h⟩ := bind_some h
    exact Ops.step q (s_appendR (enc := eI) e112 q q q q q q q q ex_23 (fun _ => q))<|va q q q q q<|on0<|Bl.n<|Sq.n<|W.region<|ov (g_add q q q q q) q<|vm q q q q q<|on0<|Sq.n<|⟨(k1, wr (v107 + 1), v112), h, Nat.lt_succ_self _, has_mk ⟨q, q, q, trivial⟩ trivial ⟨q, trivial⟩ q⟩
   ·have h := bif_f h hc
    exact W.skip<|Bl.n<|Sq.n<|W.region<|ov (g_add q q q q q) q<|vm q q q q q<|on0<|Sq.n<|⟨(k1, wr (v107 + 1), v108), h, Nat.lt_succ_self _, has_mk ⟨q, q, q, trivial⟩ trivial ⟨q, trivial⟩ q⟩
  ·have h := bif_f h hc
   refine W.exit<|Sq.e<|Sq.e<|Bl.e<|Sq.n<|W.seq<|W.region<|vm q q q q q<|va q q q q q<|on0<|Sq.n<|W.share (k := 14) q<|W.ret ?_
   obtain rfl := Option.some.inj h
   exact Fin.r q (.cons (.tmp _ _ q) .nil) q
def s_169 (n : Nat) (v0 : Int) (v1 : Int) : Option (Int) := (s_186 n v0).bind fun v101 => (s_186 n v1).bind fun v102 => bif v101 then ( bif v102 then ( some (0) ) else ( some ((-1)) ) ) else ( bif v102 then ( some (1) ) else ( bif (decide (v0 < v1)) then ( some ((-1)) ) else ( bif (decide (v1 < v0)) then ( some (1) ) else ( some (0) ) ) ) )
theorem c_169 (n : Nat) (v0 : Int) (v1 : Int) {r : (Int)} (h : s_169 n v0 v1 = some r) :
  Fun Tryz.prog 169 [.val (.int .i64 v0), .val (.int .i64 v1)] (.ret (.val (.int .i64 r))) := by
 unfold s_169 at h
 refine enterW 20 Tryz.func169 q q q ?_
 intro w0 F0
 change W _ _ (Ev [(0, .pv (.i v0)), (1, .pv (.i v1))]) _
 refine W.seq<|W.region<|va q q q q q<|on0<|Sq.n<|W.seq<|W.region<|vm q q q q q ?_
 obtain ⟨v101, e101, h⟩ := bind_some h
 refine ov (g_call q q q ca_186 q (c_186 _ _ e101)) q<|va q q q q q<|on0<|Sq.n<|W.seq<|W.region<|vm q q q q q ?_
 obtain ⟨v102, e102, h⟩ := bind_some h
 refine ov (g_call q q q ca_186 q (c_186 _ _ e102)) q<|va q q q q q<|on0<|Sq.n<|W.seq<|W.seq<|W.region<|vm q q q q q<|on0<|Sq.n<|W.cond (b := v101) q (fun hc => ?_) (fun hc => ?_)
 ·have h := bif_t h hc
  refine W.seq<|W.seq<|W.region<|vm q q q q q<|on0<|Sq.n<|W.cond (b := v102) q (fun hc => ?_) (fun hc => ?_)
  ·have h := bif_t h hc
   refine W.seq<|W.region<|va q q q q q<|on0<|Sq.n<|W.ret<|Sq.r<|Sq.r ?_
   obtain rfl := Option.some.inj h
   exact Fin.r q (.cons (.tmp _ _ q) .nil) q
  ·have h := bif_f h hc
   refine W.skip<|Sq.n<|W.seq<|W.region<|va q q q q q<|on0<|Sq.n<|W.ret<|Sq.r ?_
   obtain rfl := Option.some.inj h
   exact Fin.r q (.cons (.tmp _ _ q) .nil) q
 ·have h := bif_f h hc
  refine W.skip<|Sq.n<|W.seq<|W.seq<|W.region<|vm q q q q q<|on0<|Sq.n<|W.cond (b := v102) q (fun hc => ?_) (fun hc => ?_)
  ·have h := bif_t h hc
   refine W.seq<|W.region<|va q q q q q<|on0<|Sq.n<|W.ret<|Sq.r ?_
   obtain rfl := Option.some.inj h
   exact Fin.r q (.cons (.tmp _ _ q) .nil) q
  ·have h := bif_f h hc
   refine W.skip<|Sq.n<|W.seq<|W.seq<|W.region<|vm q q q q q<|vm q q q q q<|ov (g_lss q q q q q) q<|on0<|Sq.n<|W.cond (b := (decide (v0 < v1))) q (fun hc => ?_) (fun hc => ?_)
   ·have h := bif_t h hc
    refine W.seq<|W.region<|va q q q q q<|on0<|Sq.n<|W.ret<|Sq.r ?_
    obtain rfl := Option.some.inj h
    exact Fin.r q (.cons (.tmp _ _ q) .nil) q
   ·have h := bif_f h hc
    refine W.skip<|Sq.n<|W.seq<|W.seq<|W.region<|vm q q q q q<|vm q q q q q<|ov (g_gtr q q q q q) q<|on0<|Sq.n<|W.cond (b := (decide (v1 < v0))) q (fun hc => ?_) (fun hc => ?_)
    ·have h := bif_t h hc
     refine W.seq<|W.region<|va q q q q q<|on0<|Sq.n<|W.ret<|Sq.r ?_
     obtain rfl := Option.some.inj h
     exact Fin.r q (.cons (.tmp _ _ q) .nil) q
    ·have h := bif_f h hc
     refine W.skip<|Sq.n<|W.seq<|W.region<|va q q q q q<|on0<|Sq.n<|W.ret ?_
     obtain rfl := Option.some.inj h
     exact Fin.r q (.cons (.tmp _ _ q) .nil) q
def s_81 (n : Nat) : Option (Drum) := (s_83 n 40 50).bind fun v101 => (s_83 n 5 5).bind fun v102 => (s_83 n 60 80).bind fun v103 => (s_83 n 10 20).bind fun v104 => some ((Drum.mk ([(Acid.mk v101 v102), (Acid.mk v103 v104)]) 3 4 ([0, 0, 0, 0]) ([(Strip.mk 1 40 5)]) ([(Batch.mk 100 30 200 150 100 40), (Batch.mk 60 30 100 70 50 20), (Batch.mk 20 20 50 30 10 40)])))
theorem c_81 (n : Nat)  {r : (Drum)} (h : s_81 n  = some r) :
  Fun Tryz.prog 81 [] (.ret (.agg (cDrum r))) := by
 unfold s_81 at h
 refine enterW 16 Tryz.func81 q q q ?_
 intro w0 F0
 change W _ _ (Ev []) _
 refine W.seq<|W.region<|ob (g_alloc q q q zr_27) q q<|on0<|Sq.n<|W.seq<|W.region ?_
 obtain ⟨v101, e101, h⟩ := bind_some h
 refine ov (g_call q q q ca_83 q (c_83 _ _ _ e101)) q ?_
 obtain ⟨v102, e102, h⟩ := bind_some h
 refine ov (g_call q q q ca_83 q (c_83 _ _ _ e102)) q<|ov (g_build (cs := (cAcid (Acid.mk v101 v102))) q q q zr_137 st_137 q q) q ?_
 obtain ⟨v103, e103, h⟩ := bind_some h
 refine ov (g_call q q q ca_83 q (c_83 _ _ _ e103)) q ?_
 obtain ⟨v104, e104, h⟩ := bind_some h
 refine ov (g_call q q q ca_83 q (c_83 _ _ _ e104)) q<|ov (g_build (cs := (cAcid (Acid.mk v103 v104))) q q q zr_137 st_137 q q) q<|Ops.r (g_buildSlice (cs := [.val (.int .i64 v101.low), .val (.int .i64 v101.high), .val (.int .i64 v102.low), .val (.int .i64 v102.high), .val (.int .i64 v103.low), .val (.int .i64 v103.high), .val (.int .i64 v104.low), .val (.int .i64 v104.high)]) (es := List.map cAcid [(Acid.mk v101 v102), (Acid.mk v103 v104)]) q q q el_22 ⟨_, zr_137⟩ q q q q q q) q q<|Ops.r (g_buildSlice (cs := [.val (.int .i64 0), .val (.int .i64 0), .val (.int .i64 0), .val (.int .i64 0)]) (es := List.map eI [0, 0, 0, 0]) q q q el_23 ⟨_, zr_3⟩ q q q q q q) q q<|ov (g_build (cs := (cStrip (Strip.mk 1 40 5))) q q q zr_92 st_92 q q) q<|Ops.r (g_buildSlice (cs := [.val (.int .i64 1), .val (.int .i64 40), .val (.int .i64 5)]) (es := List.map cStrip [(Strip.mk 1 40 5)]) q q q el_24 ⟨_, zr_92⟩ q q q q q q) q q<|ov (g_build (cs := (cBatch (Batch.mk 100 30 200 150 100 40))) q q q zr_67 st_67 q q) q<|ov (g_build (cs := (cBatch (Batch.mk 60 30 100 70 50 20))) q q q zr_67 st_67 q q) q<|ov (g_build (cs := (cBatch (Batch.mk 20 20 50 30 10 40))) q q q zr_67 st_67 q q) q<|Ops.r (g_buildSlice (cs := [.val (.int .i64 100), .val (.int .i64 30), .val (.int .i64 200), .val (.int .i64 150), .val (.int .i64 100), .val (.int .i64 40), .val (.int .i64 60), .val (.int .i64 30), .val (.int .i64 100), .val (.int .i64 70), .val (.int .i64 50), .val (.int .i64 20), .val (.int .i64 20), .val (.int .i64 20), .val (.int .i64 50), .val (.int .i64 30), .val (.int .i64 10), .val (.int .i64 40)]) (es := List.map cBatch [(Batch.mk 100 30 200 150 100 40), (Batch.mk 60 30 100 70 50 20), (Batch.mk 20 20 50 30 10 40)]) q q q el_25 ⟨_, zr_67⟩ q q q q q q) q q<|Ops.share (k := 7) q<|Ops.share (k := 8) q<|Ops.share (k := 10) q<|Ops.share (k := 14) q<|ov (g_build (cs := (cDrum (Drum.mk ([(Acid.mk v101 v102), (Acid.mk v103 v104)]) 3 4 ([0, 0, 0, 0]) ([(Strip.mk 1 40 5)]) ([(Batch.mk 100 30 200 150 100 40), (Batch.mk 60 30 100 70 50 20), (Batch.mk 20 20 50 30 10 40)])))) q q q zr_27 st_27 q q) q<|Ops.step q (s_storeB q q q q q q sz_27 q q)<|on0<|Sq.n<|W.ret ?_
 obtain rfl := Option.some.inj h
 exact Fin.r q (.cons (.agg _ _ _ _ (cDrum (Drum.mk ([(Acid.mk v101 v102), (Acid.mk v103 v104)]) 3 4 ([0, 0, 0, 0]) ([(Strip.mk 1 40 5)]) ([(Batch.mk 100 30 200 150 100 40), (Batch.mk 60 30 100 70 50 20), (Batch.mk 20 20 50 30 10 40)]))) q q ag_27 sz_27) .nil) q
end Go.Proofs.YtohmhlkdgfcaeaaGreatDoor
namespace Go.Proofs.YtohmhlkdgfcaeaaGreatDoor
open Go Go.RowKit
set_option maxRecDepth 4000
attribute [local irreducible] W Ops GS GSG
def s_39_j8 (K5 : Int → Option (Bool)) (v112 : Int) (v122 : Bool) : Option (Bool) := bif v122 then ( some (false) ) else ( K5 (wr (v112 + 1)) )
def s_39_j13 (K10 : Int → Option (Bool)) (v135 : Int) (v145 : Bool) : Option (Bool) := bif v145 then ( some (false) ) else ( K10 (wr (v135 + 1)) )
def s_39_j17 (K14 : Int → Option (Bool)) (v154 : Int) (v170 : Bool) : Option (Bool) := bif v170 then ( some (false) ) else ( K14 (wr (v154 + 1)) )
def s_39_l14 (n : Nat) (v0 : Drum) : Nat → Int → Option (Bool)
| 0, _ => none
| k14 + 1, v154 => bif (decide (v154 < (v0.batches.length : Int))) then ( (ix v0.batches v154).bind fun v163 => (s_103 n v163.rough 0 1000).bind fun v164 => bif (!v164) then ( s_39_j17 (s_39_l14 n v0 k14) v154 true ) else ( (s_103 n v163.goal 0 1000).bind fun v165 => bif (!v165) then ( s_39_j17 (s_39_l14 n v0 k14) v154 true ) else ( (s_103 n v163.thick 0 1000).bind fun v166 =>
 bif (!v166) then ( s_39_j17 (s_39_l14 n v0 k14) v154 true ) else ( (s_103 n v163.least 0 1000).bind fun v167 => bif (!v167) then ( s_39_j17 (s_39_l14 n v0 k14) v154 true ) else ( (s_103 n v163.polish 0 100).bind fun v168 => bif (!v168) then ( s_39_j17 (s_39_l14 n v0 k14) v154 true ) else ( (s_103 n v163.eat 0 100).bind fun v169 => s_39_j17 (s_39_l14 n v0 k14) v154 (!v169) ) ) ) ) ) ) else (
 some (true) )
def s_39_l10 (n : Nat) (v0 : Drum) : Nat → Int → Option (Bool)
| 0, _ => none
| k10 + 1, v135 => bif (decide (v135 < (v0.strips.length : Int))) then ( (ix v0.strips v135).bind fun v141 => (s_103 n v141.hour 0 (wr (v0.hours - 1))).bind fun v142 => bif (!v142) then ( s_39_j13 (s_39_l10 n v0 k10) v135 true ) else ( (s_103 n v141.seen 0 2000).bind fun v143 => bif (!v143) then ( s_39_j13 (s_39_l10 n v0 k10) v135 true ) else ( (s_103 n v141.off 0 50).bind fun v144 =>
 s_39_j13 (s_39_l10 n v0 k10) v135 (!v144) ) ) ) else ( s_39_l14 n v0 n 0 )
def s_39_l9 (n : Nat) (v0 : Drum) : Nat → Int → Option (Bool)
| 0, _ => none
| k9 + 1, v125 => bif (decide (v125 < (v0.adds.length : Int))) then ( (ix v0.adds v125).bind fun v128 => (s_103 n v128 0 100).bind fun v129 => bif (!v129) then ( some (false) ) else ( (s_39_l9 n v0 k9) (wr (v125 + 1)) ) ) else ( s_39_l10 n v0 n 0 )
def s_39_l5 (n : Nat) (v0 : Drum) : Nat → Int → Option (Bool)
| 0, _ => none
| k5 + 1, v112 => bif (decide (v112 < (v0.acids.length : Int))) then ( (ix v0.acids v112).bind fun v118 => (s_107 n v118.strength 100).bind fun v119 => bif (!v119) then ( s_39_j8 (s_39_l5 n v0 k5) v112 true ) else ( (ix v0.acids v112).bind fun v120 => (s_107 n v120.fall 20).bind fun v121 => s_39_j8 (s_39_l5 n v0 k5) v112 (!v121) ) ) else ( s_39_l9 n v0 n 0 )
def s_39_j4 (n : Nat) (v0 : Drum) (v106 : Bool) : Option (Bool) := bif v106 then ( some (false) ) else ( s_39_l5 n v0 n 0 )
def s_39 (n : Nat) (v0 : Drum) : Option (Bool) := (s_103 n (v0.acids.length : Int) 1 4).bind fun v101 => bif (!v101) then ( s_39_j4 n v0 true ) else ( (s_106 n (v0.acids.length : Int)).bind fun v102 => (s_103 n v0.known 1 (wr (v102 - 1))).bind fun v103 => bif (!v103) then ( s_39_j4 n v0 true ) else ( (s_103 n v0.hours 1 12).bind fun v104 => bif (!v104) then (
 s_39_j4 n v0 true ) else ( bif (!decide ((v0.adds.length : Int) = v0.hours)) then ( s_39_j4 n v0 true ) else ( bif (decide (6 < (v0.strips.length : Int))) then ( s_39_j4 n v0 true ) else ( (s_103 n (v0.batches.length : Int) 1 5).bind fun v105 => s_39_j4 n v0 (!v105) ) ) ) ) )
theorem c_39 (n : Nat) (v0 : Drum) {r : (Bool)} (h : s_39 n v0 = some r) :
  Fun Tryz.prog 39 [.agg (cDrum v0)] (.ret (.b r)) := by
 unfold s_39 at h
 refine enterW 168 Tryz.func39 q q q ?_
 intro w0 F0
 change W _ _ (Ev [(0, .pv (.agg (cDrum v0)))]) _
 refine W.seq<|W.region<|ob (g_box q q q q q) q q<|va q q q q q<|on0<|Sq.n<|W.seq<|W.seqJ (σ := Bool) (fun s => (⟨[(1, .box 1 0), (51, .pv (.b s))], [(1, 27, [.pv (.sl (List.map cAcid v0.acids)), .pv (.i v0.known), .pv (.i v0.hours), .pv (.sl (List.map eI v0.adds)), .pv (.sl (List.map cStrip v0.strips)), .pv (.sl (List.map cBatch v0.batches))])], []⟩ : Env)) (fun s => s_39_j4 n v0 s = some r) ?_ ?_
 ·obtain ⟨v101, e101, h⟩ := bind_some h
  rcases Bool.eq_false_or_eq_true ((!v101)) with hb1 | hb1
  ·have h := bif_t h hb1
   refine W.draw (m := 28) Checked.mixed (Pre.v (GSG.of q (g_fld q q q q fl_27_0)) ((Pre.v (GSG.of q (g_load1 q q q q q q ag_22)) ((Pre.v (GSG.of q (g_lenM (l := v0.acids) (enc := cAcid) q ul_22 q q q)) ((Pre.v (GSG.of q (g_call q q q ca_103 q (c_103 _ _ _ _ e101))) ((Pre.v (GSG.of q (g_not q q q q)) ((Pre.v (GSG.as (GSG.of q (g_move q q q q)) (congrArg (fun b => TV.pv (PV.b b)) hb1)) ((Pre.v (GSG.off2 q q q q q q) ((Pre.v (GSG.off2 q q q q q q) ((Pre.v (GSG.off2 q q q q q q) ((Pre.v (GSG.off2 q q q q q q) ((Pre.v (GSG.off2 q q q q q q) ((Pre.v (GSG.off2 q q q q q q) ((Pre.v (GSG.off2 q q q q q q) ((Pre.v (GSG.off2 q q q q q q) ((Pre.v (GSG.off2 q q q q q q) ((Pre.v (GSG.of q (g_pickT q q q q q)) ((Pre.v (GSG.of q (g_move q q q q)) ((Pre.v (GSG.off2 q q q q q q) ((Pre.v (GSG.off2 q q q q q q) ((Pre.v (GSG.off2 q q q q q q) ((Pre.v (GSG.off2 q q q q q q) ((Pre.v (GSG.of q (g_pickT q q q q q)) ((Pre.v (GSG.of q (g_move q q q q)) ((Pre.v (GSG.off2 q q q q q q) ((Pre.v (GSG.off2 q q q q q q) ((Pre.v (GSG.off2 q q q q q q) ((Pre.v (GSG.off2 q q q q q q) ((Pre.v (GSG.off2 q q q q q q) (Pre.nil _)))))))))))))))))))))))))))))))))))))))))))))))))))))))) (by kernel_rfl)<|o2 q q q q q q<|vt q q q q q q<|vm q q q q q<|o2 q q q q q q<|o2 q q q q q q<|o2 q q q q q q<|o2 q q q q q q<|vt q q q q q q<|vm q q q q q<|o2 q q q q q q<|o2 q q q q q q<|o2 q q q q q q<|o2 q q q q q q<|o2 q q q q q q<|vt q q q q q q<|on0<|Sq.n<|⟨true, h, has_mk ⟨q, q, trivial⟩ ⟨q, trivial⟩ trivial q⟩
  ·have h := bif_f h hb1
   obtain ⟨v102, e102, h⟩ := bind_some h
   obtain ⟨v103, e103, h⟩ := bind_some h
   rcases Bool.eq_false_or_eq_true ((!v103)) with hb2 | hb2
   ·have h := bif_t h hb2
    refine W.draw (m := 28) Checked.mixed (Pre.v (GSG.of q (g_fld q q q q fl_27_0)) ((Pre.v (GSG.of q (g_load1 q q q q q q ag_22)) ((Pre.v (GSG.of q (g_lenM (l := v0.acids) (enc := cAcid) q ul_22 q q q)) ((Pre.v (GSG.of q (g_call q q q ca_103 q (c_103 _ _ _ _ e101))) ((Pre.v (GSG.of q (g_not q q q q)) ((Pre.v (GSG.as (GSG.of q (g_move q q q q)) (congrArg (fun b => TV.pv (PV.b b)) hb1)) ((Pre.v (GSG.on q q q (g_fld q q q q fl_27_1)) ((Pre.v (GSG.on q q q (g_load1 q q q q q q ag_3)) ((Pre.v (GSG.on q q q (g_fld q q q q fl_27_0)) ((Pre.v (GSG.on q q q (g_load1 q q q q q q ag_22)) ((Pre.v (GSG.on q q q (g_lenM (l := v0.acids) (enc := cAcid) q ul_22 q q q)) ((Pre.v (GSG.on q q q (g_call q q q ca_106 q (c_106 _ _ e102))) ((Pre.v (GSG.on q q q (g_sub q q q q q)) ((Pre.v (GSG.on q q q (g_call q q q ca_103 q (c_103 _ _ _ _ e103))) ((Pre.v (GSG.on q q q (g_not q q q q)) ((Pre.v (GSG.of q (g_pickF q q q q q)) ((Pre.v (GSG.as (GSG.of q (g_move q q q q)) (congrArg (fun b => TV.pv (PV.b b)) hb2)) ((Pre.v (GSG.off2 q q q q q q) ((Pre.v (GSG.off2 q q q q q q) ((Pre.v (GSG.off2 q q q q q q) ((Pre.v (GSG.off2 q q q q q q) ((Pre.v (GSG.of q (g_pickT q q q q q)) ((Pre.v (GSG.of q (g_move q q q q)) ((Pre.v (GSG.off2 q q q q q q) ((Pre.v (GSG.off2 q q q q q q) ((Pre.v (GSG.off2 q q q q q q) ((Pre.v (GSG.off2 q q q q q q) ((Pre.v (GSG.off2 q q q q q q) (Pre.nil _)))))))))))))))))))))))))))))))))))))))))))))))))))))))) (by kernel_rfl)<|o2 q q q q q q<|vt q q q q q q<|vm q q q q q<|o2 q q q q q q<|o2 q q q q q q<|o2 q q q q q q<|o2 q q q q q q<|vt q q q q q q<|vm q q q q q<|o2 q q q q q q<|o2 q q q q q q<|o2 q q q q q q<|o2 q q q q q q<|o2 q q q q q q<|vt q q q q q q<|on0<|Sq.n<|⟨true, h, has_mk ⟨q, q, trivial⟩ ⟨q, trivial⟩ trivial q⟩
   ·have h := bif_f h hb2
    obtain ⟨v104, e104, h⟩ := bind_some h
    rcases Bool.eq_false_or_eq_true ((!v104)) with hb3 | hb3
    ·have h := bif_t h hb3
     refine W.draw (m := 28) Checked.mixed (Pre.v (GSG.of q (g_fld q q q q fl_27_0)) ((Pre.v (GSG.of q (g_load1 q q q q q q ag_22)) ((Pre.v (GSG.of q (g_lenM (l := v0.acids) (enc := cAcid) q ul_22 q q q)) ((Pre.v (GSG.of q (g_call q q q ca_103 q (c_103 _ _ _ _ e101))) ((Pre.v (GSG.of q (g_not q q q q)) ((Pre.v (GSG.as (GSG.of q (g_move q q q q)) (congrArg (fun b => TV.pv (PV.b b)) hb1)) ((Pre.v (GSG.on q q q (g_fld q q q q fl_27_1)) ((Pre.v (GSG.on q q q (g_load1 q q q q q q ag_3)) ((Pre.v (GSG.on q q q (g_fld q q q q fl_27_0)) ((Pre.v (GSG.on q q q (g_load1 q q q q q q ag_22)) ((Pre.v (GSG.on q q q (g_lenM (l := v0.acids) (enc := cAcid) q ul_22 q q q)) ((Pre.v (GSG.on q q q (g_call q q q ca_106 q (c_106 _ _ e102))) ((Pre.v (GSG.on q q q (g_sub q q q q q)) ((Pre.v (GSG.on q q q (g_call q q q ca_103 q (c_103 _ _ _ _ e103))) ((Pre.v (GSG.on q q q (g_not q q q q)) ((Pre.v (GSG.of q (g_pickF q q q q q)) ((Pre.v (GSG.as (GSG.of q (g_move q q q q)) (congrArg (fun b => TV.pv (PV.b b)) hb2)) ((Pre.v (GSG.on q q q (g_fld q q q q fl_27_2)) ((Pre.v (GSG.on q q q (g_load1 q q q q q q ag_3)) ((Pre.v (GSG.on q q q (g_call q q q ca_103 q (c_103 _ _ _ _ e104))) ((Pre.v (GSG.on q q q (g_not q q q q)) ((Pre.v (GSG.of q (g_pickF q q q q q)) ((Pre.v (GSG.as (GSG.of q (g_move q q q q)) (congrArg (fun b => TV.pv (PV.b b)) hb3)) ((Pre.v (GSG.off2 q q q q q q) ((Pre.v (GSG.off2 q q q q q q) ((Pre.v (GSG.off2 q q q q q q) ((Pre.v (GSG.off2 q q q q q q) ((Pre.v (GSG.off2 q q q q q q) (Pre.nil _)))))))))))))))))))))))))))))))))))))))))))))))))))))))) (by kernel_rfl)<|o2 q q q q q q<|vt q q q q q q<|vm q q q q q<|o2 q q q q q q<|o2 q q q q q q<|o2 q q q q q q<|o2 q q q q q q<|vt q q q q q q<|vm q q q q q<|o2 q q q q q q<|o2 q q q q q q<|o2 q q q q q q<|o2 q q q q q q<|o2 q q q q q q<|vt q q q q q q<|on0<|Sq.n<|⟨true, h, has_mk ⟨q, q, trivial⟩ ⟨q, trivial⟩ trivial q⟩
    ·have h := bif_f h hb3
     refine W.draw (m := 28) Checked.mixed (Pre.v (GSG.of q (g_fld q q q q fl_27_0)) ((Pre.v (GSG.of q (g_load1 q q q q q q ag_22)) ((Pre.v (GSG.of q (g_lenM (l := v0.acids) (enc := cAcid) q ul_22 q q q)) ((Pre.v (GSG.of q (g_call q q q ca_103 q (c_103 _ _ _ _ e101))) ((Pre.v (GSG.of q (g_not q q q q)) ((Pre.v (GSG.as (GSG.of q (g_move q q q q)) (congrArg (fun b => TV.pv (PV.b b)) hb1)) ((Pre.v (GSG.on q q q (g_fld q q q q fl_27_1)) ((Pre.v (GSG.on q q q (g_load1 q q q q q q ag_3)) ((Pre.v (GSG.on q q q (g_fld q q q q fl_27_0)) ((Pre.v (GSG.on q q q (g_load1 q q q q q q ag_22)) ((Pre.v (GSG.on q q q (g_lenM (l := v0.acids) (enc := cAcid) q ul_22 q q q)) ((Pre.v (GSG.on q q q (g_call q q q ca_106 q (c_106 _ _ e102))) ((Pre.v (GSG.on q q q (g_sub q q q q q)) ((Pre.v (GSG.on q q q (g_call q q q ca_103 q (c_103 _ _ _ _ e103))) ((Pre.v (GSG.on q q q (g_not q q q q)) ((Pre.v (GSG.of q (g_pickF q q q q q)) ((Pre.v (GSG.as (GSG.of q (g_move q q q q)) (congrArg (fun b => TV.pv (PV.b b)) hb2)) ((Pre.v (GSG.on q q q (g_fld q q q q fl_27_2)) ((Pre.v (GSG.on q q q (g_load1 q q q q q q ag_3)) ((Pre.v (GSG.on q q q (g_call q q q ca_103 q (c_103 _ _ _ _ e104))) ((Pre.v (GSG.on q q q (g_not q q q q)) ((Pre.v (GSG.of q (g_pickF q q q q q)) ((Pre.v (GSG.as (GSG.of q (g_move q q q q)) (congrArg (fun b => TV.pv (PV.b b)) hb3)) ((Pre.v (GSG.on q q q (g_fld q q q q fl_27_3)) ((Pre.v (GSG.on q q q (g_load1 q q q q q q ag_23)) ((Pre.v (GSG.on q q q (g_lenM (l := v0.adds) (enc := eI) q ul_23 q q q)) ((Pre.v (GSG.on q q q (g_fld q q q q fl_27_2)) ((Pre.v (GSG.on q q q (g_load1 q q q q q q ag_3)) (Pre.nil _)))))))))))))))))))))))))))))))))))))))))))))))))))))))) (by kernel_rfl)<|on q q q<|ov (g_neq q q q q q) q<|vf q q q q q q<|vm q q q q q<|Ops.split 39 q (fun hb => ?_) (fun hb => ?_)
     ·have h := bif_t h hb
      refine o2 q q q q q q<|o2 q q q q q q<|o2 q q q q q q<|o2 q q q q q q<|vt q q q q q q<|vm q q q q q<|o2 q q q q q q<|o2 q q q q q q<|o2 q q q q q q<|o2 q q q q q q<|o2 q q q q q q<|vt q q q q q q<|on0<|Sq.n<|⟨true, h, has_mk ⟨q, q, trivial⟩ ⟨q, trivial⟩ trivial q⟩
     ·have h := bif_f h hb
      refine on q q q<|ov (g_fld q q q q fl_27_4) q<|on q q q<|ov (g_load1 q q q q q q ag_24) q<|on q q q<|ov (g_lenM (l := v0.strips) (enc := cStrip) q ul_24 q q q) q<|on q q q<|ov (g_gtr q q q q q) q<|vf q q q q q q<|vm q q q q q<|Ops.split 45 q (fun hb => ?_) (fun hb => ?_)
      ·have h := bif_t h hb
       refine o2 q q q q q q<|o2 q q q q q q<|o2 q q q q q q<|o2 q q q q q q<|o2 q q q q q q<|vt q q q q q q<|on0<|Sq.n<|⟨true, h, has_mk ⟨q, q, trivial⟩ ⟨q, trivial⟩ trivial q⟩
      ·have h := bif_f h hb
       refine on q q q<|ov (g_fld q q q q fl_27_5) q<|on q q q<|ov (g_load1 q q q q q q ag_25) q<|on q q q<|ov (g_lenM (l := v0.batches) (enc := cBatch) q ul_25 q q q) q<|on q q q ?_
       obtain ⟨v105, e105, h⟩ := bind_some h
       refine ov (g_call q q q ca_103 q (c_103 _ _ _ _ e105)) q<|on q q q<|ov (g_not q q q q) q<|vf q q q q q q<|on0<|Sq.n<|⟨(!v105), h, has_mk ⟨q, q, trivial⟩ ⟨q, trivial⟩ trivial q⟩
 ·rintro v106 h
  change s_39_j4 n v0 v106 = some r at h
  unfold s_39_j4 at h
  change W _ _ (⟨[(1, .box 1 0), (51, .pv (.b v106))], [(1, 27, [.pv (.sl (List.map cAcid v0.acids)), .pv (.i v0.known), .pv (.i v0.hours), .pv (.sl (List.map eI v0.adds)), .pv (.sl (List.map cStrip v0.strips)), .pv (.sl (List.map cBatch v0.batches))])], []⟩ : Env) _
  refine W.cond (b := v106) q (fun hc => ?_) (fun hc => ?_)
  ·have h := bif_t h hc
   refine W.seq<|W.region<|va q q q q q<|on0<|Sq.n<|W.ret<|Sq.r ?_
   obtain rfl := Option.some.inj h
   exact Fin.r q (.cons (.tmp _ _ q) .nil) q
  ·have h := bif_f h hc
   refine W.skip<|Sq.n<|W.seq<|W.seq<|W.region<|va q q q q q<|on0<|Sq.n<|W.block<|W.loop (σ := Nat × Int) (fun s => (⟨[(1, .box 1 0), (3, .pv (.i s.2))], [(1, 27, [.pv (.sl (List.map cAcid v0.acids)), .pv (.i v0.known), .pv (.i v0.hours), .pv (.sl (List.map eI v0.adds)), .pv (.sl (List.map cStrip v0.strips)), .pv (.sl (List.map cBatch v0.batches))])], []⟩ : Env)) (fun s => s_39_l5 n v0 s.1 s.2 = some r) (fun s => s.1) (n, 0) h (has_mk ⟨q, q, trivial⟩ ⟨q, trivial⟩ trivial q) ?_
   rintro ⟨k5, v112⟩ h
   change s_39_l5 n v0 k5 v112 = some r at h
   rcases k5 with _ | k5
   ·rw [s_39_l5] at h
    cases h
   ·rw [s_39_l5] at h
    change W _ _ (⟨[(1, .box 1 0), (3, .pv (.i v112))], [(1, 27, [.pv (.sl (List.map cAcid v0.acids)), .pv (.i v0.known), .pv (.i v0.hours), .pv (.sl (List.map eI v0.adds)), .pv (.sl (List.map cStrip v0.strips)), .pv (.sl (List.map cBatch v0.batches))])], []⟩ : Env) _
    refine W.seq<|W.seq<|W.region<|vm q q q q q<|ov (g_fld q q q q fl_27_0) q<|ov (g_load1 q q q q q q ag_22) q<|ov (g_lenM (l := v0.acids) (enc := cAcid) q ul_22 q q q) q<|ov (g_lss q q q q q) q<|on0<|Sq.n<|W.cond (b := (decide (v112 < (v0.acids.length : Int)))) q (fun hc => ?_) (fun hc => ?_)
    ·have h := bif_t h hc
     refine W.skip<|Sq.n<|W.seq<|W.block<|W.seqJ (σ := Bool) (fun s => (⟨[(1, .box 1 0), (3, .pv (.i v112)), (76, .pv (.b s))], [(1, 27, [.pv (.sl (List.map cAcid v0.acids)), .pv (.i v0.known), .pv (.i v0.hours), .pv (.sl (List.map eI v0.adds)), .pv (.sl (List.map cStrip v0.strips)), .pv (.sl (List.map cBatch v0.batches))])], []⟩ : Env)) (fun s => s_39_j8 (s_39_l5 n v0 k5) v112 s = some r) ?_ ?_
     ·refine W.region<|ov (g_fld q q q q fl_27_0) q<|ov (g_load1 q q q q q q ag_22) q<|vm q q q q q ?_
      obtain ⟨v118, e118, h⟩ := bind_some h
      refine ov (g_idxI (l := v0.acids) (enc := cAcid) e118 q q q q q el_22 q) q<|ov (g_fldR q q q q fl_137_0 q) q<|ov (g_loadRA q q q q ag_57 sz_57 q q) q ?_
      obtain ⟨v119, e119, h⟩ := bind_some h
      refine ov (g_call q q q ca_107 q (c_107 _ _ _ e119)) q<|ov (g_not q q q q) q<|vm q q q q q<|Ops.split 67 q (fun hb => ?_) (fun hb => ?_)
      ·have h := bif_t h hb
       refine o2 q q q q q q<|o2 q q q q q q<|o2 q q q q q q<|o2 q q q q q q<|o2 q q q q q q<|o2 q q q q q q<|o2 q q q q q q<|o2 q q q q q q<|vt q q q q q q<|on0<|Sq.n<|⟨true, h, has_mk ⟨q, q, q, trivial⟩ ⟨q, trivial⟩ trivial q⟩
      ·have h := bif_f h hb
       refine on q q q<|ov (g_fld q q q q fl_27_0) q<|on q q q<|ov (g_load1 q q q q q q ag_22) q<|on q q q<|vm q q q q q<|on q q q ?_
       obtain ⟨v120, e120, h⟩ := bind_some h
       refine ov (g_idxI (l := v0.acids) (enc := cAcid) e120 q q q q q el_22 q) q<|on q q q<|ov (g_fldR q q q q fl_137_1 q) q<|on q q q<|ov (g_loadRA q q q q ag_57 sz_57 q q) q<|on q q q ?_
       obtain ⟨v121, e121, h⟩ := bind_some h
       refine ov (g_call q q q ca_107 q (c_107 _ _ _ e121)) q<|on q q q<|ov (g_not q q q q) q<|vf q q q q q q<|on0<|Sq.n<|⟨(!v121), h, has_mk ⟨q, q, q, trivial⟩ ⟨q, trivial⟩ trivial q⟩
     ·rintro v122 h
      change s_39_j8 (s_39_l5 n v0 k5) v112 v122 = some r at h
      unfold s_39_j8 at h
      change W _ _ (⟨[(1, .box 1 0), (3, .pv (.i v112)), (76, .pv (.b v122))], [(1, 27, [.pv (.sl (List.map cAcid v0.acids)), .pv (.i v0.known), .pv (.i v0.hours), .pv (.sl (List.map eI v0.adds)), .pv (.sl (List.map cStrip v0.strips)), .pv (.sl (List.map cBatch v0.batches))])], []⟩ : Env) _
      refine W.cond (b := v122) q (fun hc => ?_) (fun hc => ?_)
      ·have h := bif_t h hc
       refine W.seq<|W.region<|va q q q q q<|on0<|Sq.n<|W.ret<|Bl.r<|Sq.r<|Sq.r<|Bl.r<|Sq.r ?_
       obtain rfl := Option.some.inj h
       exact Fin.r q (.cons (.tmp _ _ q) .nil) q
      ·have h := bif_f h hc
       exact W.skip<|Bl.n<|Sq.n<|W.region<|vm q q q q q<|ov (g_add q q q q q) q<|va q q q q q<|on0<|Sq.n<|⟨(k5, wr (v112 + 1)), h, Nat.lt_succ_self _, has_mk ⟨q, q, trivial⟩ ⟨q, trivial⟩ trivial q⟩
    ·have h := bif_f h hc
     refine W.exit<|Sq.e<|Sq.e<|Bl.e<|Sq.n<|W.seq<|W.seq<|W.region<|va q q q q q<|on0<|Sq.n<|W.block<|W.loop (σ := Nat × Int) (fun s => (⟨[(1, .box 1 0), (4, .pv (.i s.2))], [(1, 27, [.pv (.sl (List.map cAcid v0.acids)), .pv (.i v0.known), .pv (.i v0.hours), .pv (.sl (List.map eI v0.adds)), .pv (.sl (List.map cStrip v0.strips)), .pv (.sl (List.map cBatch v0.batches))])], []⟩ : Env)) (fun s => s_39_l9 n v0 s.1 s.2 = some r) (fun s => s.1) (n, 0) h (has_mk ⟨q, q, trivial⟩ ⟨q, trivial⟩ trivial q) ?_
     rintro ⟨k9, v125⟩ h
     change s_39_l9 n v0 k9 v125 = some r at h
     rcases k9 with _ | k9
     ·rw [s_39_l9] at h
      cases h
     ·rw [s_39_l9] at h
      change W _ _ (⟨[(1, .box 1 0), (4, .pv (.i v125))], [(1, 27, [.pv (.sl (List.map cAcid v0.acids)), .pv (.i v0.known), .pv (.i v0.hours), .pv (.sl (List.map eI v0.adds)), .pv (.sl (List.map cStrip v0.strips)), .pv (.sl (List.map cBatch v0.batches))])], []⟩ : Env) _
      refine W.seq<|W.seq<|W.region<|vm q q q q q<|ov (g_fld q q q q fl_27_3) q<|ov (g_load1 q q q q q q ag_23) q<|ov (g_lenM (l := v0.adds) (enc := eI) q ul_23 q q q) q<|ov (g_lss q q q q q) q<|on0<|Sq.n<|W.cond (b := (decide (v125 < (v0.adds.length : Int)))) q (fun hc => ?_) (fun hc => ?_)
      ·have h := bif_t h hc
       refine W.skip<|Sq.n<|W.seq<|W.block<|W.seq<|W.region<|ov (g_fld q q q q fl_27_3) q<|ov (g_load1 q q q q q q ag_23) q<|vm q q q q q ?_
       obtain ⟨v128, e128, h⟩ := bind_some h
       refine ov (g_idxI (l := v0.adds) (enc := eI) e128 q q q q q el_23 q) q<|ov (g_loadR1 q q q q q ag_3) q ?_
       obtain ⟨v129, e129, h⟩ := bind_some h
       refine ov (g_call q q q ca_103 q (c_103 _ _ _ _ e129)) q<|ov (g_not q q q q) q<|on0<|Sq.n<|W.cond (b := (!v129)) q (fun hc => ?_) (fun hc => ?_)
       ·have h := bif_t h hc
        refine W.seq<|W.region<|va q q q q q<|on0<|Sq.n<|W.ret<|Bl.r<|Sq.r<|Sq.r<|Bl.r<|Sq.r ?_
        obtain rfl := Option.some.inj h
        exact Fin.r q (.cons (.tmp _ _ q) .nil) q
       ·have h := bif_f h hc
        exact W.skip<|Bl.n<|Sq.n<|W.region<|vm q q q q q<|ov (g_add q q q q q) q<|va q q q q q<|on0<|Sq.n<|⟨(k9, wr (v125 + 1)), h, Nat.lt_succ_self _, has_mk ⟨q, q, trivial⟩ ⟨q, trivial⟩ trivial q⟩
      ·have h := bif_f h hc
       refine W.exit<|Sq.e<|Sq.e<|Bl.e<|Sq.n<|W.seq<|W.seq<|W.region<|va q q q q q<|on0<|Sq.n<|W.block<|W.loop (σ := Nat × Int) (fun s => (⟨[(1, .box 1 0), (5, .pv (.i s.2))], [(1, 27, [.pv (.sl (List.map cAcid v0.acids)), .pv (.i v0.known), .pv (.i v0.hours), .pv (.sl (List.map eI v0.adds)), .pv (.sl (List.map cStrip v0.strips)), .pv (.sl (List.map cBatch v0.batches))])], []⟩ : Env)) (fun s => s_39_l10 n v0 s.1 s.2 = some r) (fun s => s.1) (n, 0) h (has_mk ⟨q, q, trivial⟩ ⟨q, trivial⟩ trivial q) ?_
       rintro ⟨k10, v135⟩ h
       change s_39_l10 n v0 k10 v135 = some r at h
       rcases k10 with _ | k10
       ·rw [s_39_l10] at h
        cases h
       ·rw [s_39_l10] at h
        change W _ _ (⟨[(1, .box 1 0), (5, .pv (.i v135))], [(1, 27, [.pv (.sl (List.map cAcid v0.acids)), .pv (.i v0.known), .pv (.i v0.hours), .pv (.sl (List.map eI v0.adds)), .pv (.sl (List.map cStrip v0.strips)), .pv (.sl (List.map cBatch v0.batches))])], []⟩ : Env) _
        refine W.seq<|W.seq<|W.region<|vm q q q q q<|ov (g_fld q q q q fl_27_4) q<|ov (g_load1 q q q q q q ag_24) q<|ov (g_lenM (l := v0.strips) (enc := cStrip) q ul_24 q q q) q<|ov (g_lss q q q q q) q<|on0<|Sq.n<|W.cond (b := (decide (v135 < (v0.strips.length : Int)))) q (fun hc => ?_) (fun hc => ?_)
        ·have h := bif_t h hc
         refine W.skip<|Sq.n<|W.seq<|W.block<|W.seq<|W.region<|ov (g_fld q q q q fl_27_4) q<|ov (g_load1 q q q q q q ag_24) q<|vm q q q q q ?_
         obtain ⟨v141, e141, h⟩ := bind_some h
         refine ov (g_idxI (l := v0.strips) (enc := cStrip) e141 q q q q q el_24 q) q<|ov (g_loadRA q q q q ag_92 sz_92 q q) q<|ob (g_alloc q q q zr_92) q q<|Ops.step q (s_storeB q q q q q q sz_92 q q)<|on0<|Sq.n<|W.seqJ (σ := Bool) (fun s => (⟨[(1, .box 1 0), (5, .pv (.i v135)), (121, .pv (.b s))], [(1, 27, [.pv (.sl (List.map cAcid v0.acids)), .pv (.i v0.known), .pv (.i v0.hours), .pv (.sl (List.map eI v0.adds)), .pv (.sl (List.map cStrip v0.strips)), .pv (.sl (List.map cBatch v0.batches))])], []⟩ : Env)) (fun s => s_39_j13 (s_39_l10 n v0 k10) v135 s = some r) ?_ ?_
         ·refine W.region<|ov (g_fld q q q q fl_92_0) q<|ov (g_load1 q q q q q q ag_3) q<|ov (g_fld q q q q fl_27_2) q<|ov (g_load1 q q q q q q ag_3) q<|ov (g_sub q q q q q) q ?_
          obtain ⟨v142, e142, h⟩ := bind_some h
          refine ov (g_call q q q ca_103 q (c_103 _ _ _ _ e142)) q<|ov (g_not q q q q) q<|vm q q q q q<|Ops.split 110 q (fun hb => ?_) (fun hb => ?_)
          ·have h := bif_t h hb
           refine o2 q q q q q q<|o2 q q q q q q<|o2 q q q q q q<|o2 q q q q q q<|vt q q q q q q<|vm q q q q q<|o2 q q q q q q<|o2 q q q q q q<|o2 q q q q q q<|o2 q q q q q q<|vt q q q q q q<|on0<|Sq.n<|⟨true, h, has_mk ⟨q, q, q, trivial⟩ ⟨q, trivial⟩ trivial q⟩
          ·have h := bif_f h hb
           refine on q q q<|ov (g_fld q q q q fl_92_1) q<|on q q q<|ov (g_load1 q q q q q q ag_3) q<|on q q q ?_
           obtain ⟨v143, e143, h⟩ := bind_some h
           refine ov (g_call q q q ca_103 q (c_103 _ _ _ _ e143)) q<|on q q q<|ov (g_not q q q q) q<|vf q q q q q q<|vm q q q q q<|Ops.split 116 q (fun hb => ?_) (fun hb => ?_)
           ·have h := bif_t h hb
            refine o2 q q q q q q<|o2 q q q q q q<|o2 q q q q q q<|o2 q q q q q q<|vt q q q q q q<|on0<|Sq.n<|⟨true, h, has_mk ⟨q, q, q, trivial⟩ ⟨q, trivial⟩ trivial q⟩
           ·have h := bif_f h hb
            refine on q q q<|ov (g_fld q q q q fl_92_2) q<|on q q q<|ov (g_load1 q q q q q q ag_3) q<|on q q q ?_
            obtain ⟨v144, e144, h⟩ := bind_some h
            refine ov (g_call q q q ca_103 q (c_103 _ _ _ _ e144)) q<|on q q q<|ov (g_not q q q q) q<|vf q q q q q q<|on0<|Sq.n<|⟨(!v144), h, has_mk ⟨q, q, q, trivial⟩ ⟨q, trivial⟩ trivial q⟩
         ·rintro v145 h
          change s_39_j13 (s_39_l10 n v0 k10) v135 v145 = some r at h
          unfold s_39_j13 at h
          change W _ _ (⟨[(1, .box 1 0), (5, .pv (.i v135)), (121, .pv (.b v145))], [(1, 27, [.pv (.sl (List.map cAcid v0.acids)), .pv (.i v0.known), .pv (.i v0.hours), .pv (.sl (List.map eI v0.adds)), .pv (.sl (List.map cStrip v0.strips)), .pv (.sl (List.map cBatch v0.batches))])], []⟩ : Env) _
          refine W.cond (b := v145) q (fun hc => ?_) (fun hc => ?_)
          ·have h := bif_t h hc
           refine W.seq<|W.region<|va q q q q q<|on0<|Sq.n<|W.ret<|Bl.r<|Sq.r<|Sq.r<|Bl.r<|Sq.r ?_
           obtain rfl := Option.some.inj h
           exact Fin.r q (.cons (.tmp _ _ q) .nil) q
          ·have h := bif_f h hc
           exact W.skip<|Bl.n<|Sq.n<|W.region<|vm q q q q q<|ov (g_add q q q q q) q<|va q q q q q<|on0<|Sq.n<|⟨(k10, wr (v135 + 1)), h, Nat.lt_succ_self _, has_mk ⟨q, q, trivial⟩ ⟨q, trivial⟩ trivial q⟩
        ·have h := bif_f h hc
         refine W.exit<|Sq.e<|Sq.e<|Bl.e<|Sq.n<|W.seq<|W.seq<|W.region<|va q q q q q<|on0<|Sq.n<|W.block<|W.loop (σ := Nat × Int) (fun s => (⟨[(1, .box 1 0), (7, .pv (.i s.2))], [(1, 27, [.pv (.sl (List.map cAcid v0.acids)), .pv (.i v0.known), .pv (.i v0.hours), .pv (.sl (List.map eI v0.adds)), .pv (.sl (List.map cStrip v0.strips)), .pv (.sl (List.map cBatch v0.batches))])], []⟩ : Env)) (fun s => s_39_l14 n v0 s.1 s.2 = some r) (fun s => s.1) (n, 0) h (has_mk ⟨q, q, trivial⟩ ⟨q, trivial⟩ trivial q) ?_
         rintro ⟨k14, v154⟩ h
         change s_39_l14 n v0 k14 v154 = some r at h
         rcases k14 with _ | k14
         ·rw [s_39_l14] at h
          cases h
         ·rw [s_39_l14] at h
          change W _ _ (⟨[(1, .box 1 0), (7, .pv (.i v154))], [(1, 27, [.pv (.sl (List.map cAcid v0.acids)), .pv (.i v0.known), .pv (.i v0.hours), .pv (.sl (List.map eI v0.adds)), .pv (.sl (List.map cStrip v0.strips)), .pv (.sl (List.map cBatch v0.batches))])], []⟩ : Env) _
          refine W.seq<|W.seq<|W.region<|vm q q q q q<|ov (g_fld q q q q fl_27_5) q<|ov (g_load1 q q q q q q ag_25) q<|ov (g_lenM (l := v0.batches) (enc := cBatch) q ul_25 q q q) q<|ov (g_lss q q q q q) q<|on0<|Sq.n<|W.cond (b := (decide (v154 < (v0.batches.length : Int)))) q (fun hc => ?_) (fun hc => ?_)
          ·have h := bif_t h hc
           refine W.skip<|Sq.n<|W.seq<|W.block<|W.seq<|W.region<|ov (g_fld q q q q fl_27_5) q<|ov (g_load1 q q q q q q ag_25) q<|vm q q q q q ?_
           obtain ⟨v163, e163, h⟩ := bind_some h
           refine ov (g_idxI (l := v0.batches) (enc := cBatch) e163 q q q q q el_25 q) q<|ov (g_loadRA q q q q ag_67 sz_67 q q) q<|ob (g_alloc q q q zr_67) q q<|Ops.step q (s_storeB q q q q q q sz_67 q q)<|on0<|Sq.n<|W.seqJ (σ := Bool) (fun s => (⟨[(1, .box 1 0), (7, .pv (.i v154)), (167, .pv (.b s))], [(1, 27, [.pv (.sl (List.map cAcid v0.acids)), .pv (.i v0.known), .pv (.i v0.hours), .pv (.sl (List.map eI v0.adds)), .pv (.sl (List.map cStrip v0.strips)), .pv (.sl (List.map cBatch v0.batches))])], []⟩ : Env)) (fun s => s_39_j17 (s_39_l14 n v0 k14) v154 s = some r) ?_ ?_
           ·refine W.region<|ov (g_fld q q q q fl_67_0) q<|ov (g_load1 q q q q q q ag_3) q ?_
            obtain ⟨v164, e164, h⟩ := bind_some h
            refine ov (g_call q q q ca_103 q (c_103 _ _ _ _ e164)) q<|ov (g_not q q q q) q<|vm q q q q q<|Ops.split 138 q (fun hb => ?_) (fun hb => ?_)
            ·have h := bif_t h hb
             refine o2 q q q q q q<|o2 q q q q q q<|o2 q q q q q q<|o2 q q q q q q<|vt q q q q q q<|vm q q q q q<|o2 q q q q q q<|o2 q q q q q q<|o2 q q q q q q<|o2 q q q q q q<|vt q q q q q q<|vm q q q q q<|o2 q q q q q q<|o2 q q q q q q<|o2 q q q q q q<|o2 q q q q q q<|vt q q q q q q<|vm q q q q q<|o2 q q q q q q<|o2 q q q q q q<|o2 q q q q q q<|o2 q q q q q q<|vt q q q q q q<|vm q q q q q<|o2 q q q q q q<|o2 q q q q q q<|o2 q q q q q q<|o2 q q q q q q<|vt q q q q q q<|on0<|Sq.n<|⟨true, h, has_mk ⟨q, q, q, trivial⟩ ⟨q, trivial⟩ trivial q⟩
            ·have h := bif_f h hb
             refine on q q q<|ov (g_fld q q q q fl_67_1) q<|on q q q<|ov (g_load1 q q q q q q ag_3) q<|on q q q ?_
             obtain ⟨v165, e165, h⟩ := bind_some h
             refine ov (g_call q q q ca_103 q (c_103 _ _ _ _ e165)) q<|on q q q<|ov (g_not q q q q) q<|vf q q q q q q<|vm q q q q q<|Ops.split 144 q (fun hb => ?_) (fun hb => ?_)
             ·have h := bif_t h hb
              refine o2 q q q q q q<|o2 q q q q q q<|o2 q q q q q q<|o2 q q q q q q<|vt q q q q q q<|vm q q q q q<|o2 q q q q q q<|o2 q q q q q q<|o2 q q q q q q<|o2 q q q q q q<|vt q q q q q q<|vm q q q q q<|o2 q q q q q q<|o2 q q q q q q<|o2 q q q q q q<|o2 q q q q q q<|vt q q q q q q<|vm q q q q q<|o2 q q q q q q<|o2 q q q q q q<|o2 q q q q q q<|o2 q q q q q q<|vt q q q q q q<|on0<|Sq.n<|⟨true, h, has_mk ⟨q, q, q, trivial⟩ ⟨q, trivial⟩ trivial q⟩
             ·have h := bif_f h hb
              refine on q q q<|ov (g_fld q q q q fl_67_2) q<|on q q q<|ov (g_load1 q q q q q q ag_3) q<|on q q q ?_
              obtain ⟨v166, e166, h⟩ := bind_some h
              refine ov (g_call q q q ca_103 q (c_103 _ _ _ _ e166)) q<|on q q q<|ov (g_not q q q q) q<|vf q q q q q q<|vm q q q q q<|Ops.split 150 q (fun hb => ?_) (fun hb => ?_)
              ·have h := bif_t h hb
               refine o2 q q q q q q<|o2 q q q q q q<|o2 q q q q q q<|o2 q q q q q q<|vt q q q q q q<|vm q q q q q<|o2 q q q q q q<|o2 q q q q q q<|o2 q q q q q q<|o2 q q q q q q<|vt q q q q q q<|vm q q q q q<|o2 q q q q q q<|o2 q q q q q q<|o2 q q q q q q<|o2 q q q q q q<|vt q q q q q q<|on0<|Sq.n<|⟨true, h, has_mk ⟨q, q, q, trivial⟩ ⟨q, trivial⟩ trivial q⟩
              ·have h := bif_f h hb
               refine on q q q<|ov (g_fld q q q q fl_67_3) q<|on q q q<|ov (g_load1 q q q q q q ag_3) q<|on q q q ?_
               obtain ⟨v167, e167, h⟩ := bind_some h
               refine ov (g_call q q q ca_103 q (c_103 _ _ _ _ e167)) q<|on q q q<|ov (g_not q q q q) q<|vf q q q q q q<|vm q q q q q<|Ops.split 156 q (fun hb => ?_) (fun hb => ?_)
               ·have h := bif_t h hb
                refine o2 q q q q q q<|o2 q q q q q q<|o2 q q q q q q<|o2 q q q q q q<|vt q q q q q q<|vm q q q q q<|o2 q q q q q q<|o2 q q q q q q<|o2 q q q q q q<|o2 q q q q q q<|vt q q q q q q<|on0<|Sq.n<|⟨true, h, has_mk ⟨q, q, q, trivial⟩ ⟨q, trivial⟩ trivial q⟩
               ·have h := bif_f h hb
                refine on q q q<|ov (g_fld q q q q fl_67_4) q<|on q q q<|ov (g_load1 q q q q q q ag_3) q<|on q q q ?_
                obtain ⟨v168, e168, h⟩ := bind_some h
                refine ov (g_call q q q ca_103 q (c_103 _ _ _ _ e168)) q<|on q q q<|ov (g_not q q q q) q<|vf q q q q q q<|vm q q q q q<|Ops.split 162 q (fun hb => ?_) (fun hb => ?_)
                ·have h := bif_t h hb
                 refine o2 q q q q q q<|o2 q q q q q q<|o2 q q q q q q<|o2 q q q q q q<|vt q q q q q q<|on0<|Sq.n<|⟨true, h, has_mk ⟨q, q, q, trivial⟩ ⟨q, trivial⟩ trivial q⟩
                ·have h := bif_f h hb
                 refine on q q q<|ov (g_fld q q q q fl_67_5) q<|on q q q<|ov (g_load1 q q q q q q ag_3) q<|on q q q ?_
                 obtain ⟨v169, e169, h⟩ := bind_some h
                 refine ov (g_call q q q ca_103 q (c_103 _ _ _ _ e169)) q<|on q q q<|ov (g_not q q q q) q<|vf q q q q q q<|on0<|Sq.n<|⟨(!v169), h, has_mk ⟨q, q, q, trivial⟩ ⟨q, trivial⟩ trivial q⟩
           ·rintro v170 h
            change s_39_j17 (s_39_l14 n v0 k14) v154 v170 = some r at h
            unfold s_39_j17 at h
            change W _ _ (⟨[(1, .box 1 0), (7, .pv (.i v154)), (167, .pv (.b v170))], [(1, 27, [.pv (.sl (List.map cAcid v0.acids)), .pv (.i v0.known), .pv (.i v0.hours), .pv (.sl (List.map eI v0.adds)), .pv (.sl (List.map cStrip v0.strips)), .pv (.sl (List.map cBatch v0.batches))])], []⟩ : Env) _
            refine W.cond (b := v170) q (fun hc => ?_) (fun hc => ?_)
            ·have h := bif_t h hc
             refine W.seq<|W.region<|va q q q q q<|on0<|Sq.n<|W.ret<|Bl.r<|Sq.r<|Sq.r<|Bl.r<|Sq.r ?_
             obtain rfl := Option.some.inj h
             exact Fin.r q (.cons (.tmp _ _ q) .nil) q
            ·have h := bif_f h hc
             exact W.skip<|Bl.n<|Sq.n<|W.region<|vm q q q q q<|ov (g_add q q q q q) q<|va q q q q q<|on0<|Sq.n<|⟨(k14, wr (v154 + 1)), h, Nat.lt_succ_self _, has_mk ⟨q, q, trivial⟩ ⟨q, trivial⟩ trivial q⟩
          ·have h := bif_f h hc
           refine W.exit<|Sq.e<|Sq.e<|Bl.e<|Sq.n<|W.seq<|W.region<|va q q q q q<|on0<|Sq.n<|W.ret ?_
           obtain rfl := Option.some.inj h
           exact Fin.r q (.cons (.tmp _ _ q) .nil) q
def s_121 (n : Nat) (v0 : (List Int)) (f1 : (Int → Option (Bool))) : Option (Bool) := (s_167 n v0 f1).bind fun v101 => some ((decide (0 ≤ v101)))
theorem c_121 (n : Nat) (v0 : (List Int)) (f1 : (Int → Option (Bool))) {fidf1 : Nat} {firstf1 capsf1 : List PV} (hcf1 : Callable Tryz.prog fidf1) (hgf1 : ∀ x0 y, f1 x0 = some y → Fun Tryz.prog fidf1 (firstf1 ++ [.val (.int .i64 x0)] ++ capsf1) (.ret (.b y))) {r : (Bool)} (h : s_121 n v0 f1 = some r) :
  Fun Tryz.prog 121 [.sl (v0.map eI), .fn fidf1 firstf1 capsf1] (.ret (.b r)) := by
 unfold s_121 at h
 refine enterW 9 Tryz.func121 q q q ?_
 intro w0 F0
 change W _ _ (Ev [(0, .pv (.sl (List.map eI v0))), (1, .pv (.fn fidf1 firstf1 capsf1))]) _
 refine W.seq<|W.region<|va q q q q q<|on0<|Sq.n<|W.seq<|W.region<|vm q q q q q<|vm q q q q q ?_
 obtain ⟨v101, e101, h⟩ := bind_some h
 refine ov (g_call q q q ca_167 q (c_167 _ _ _ hcf1 hgf1 e101)) q<|ov (g_geq q q q q q) q<|va q q q q q<|on0<|Sq.n<|W.ret ?_
 obtain rfl := Option.some.inj h
 exact Fin.r q (.cons (.tmp _ _ q) .nil) q
def s_146 (n : Nat) (v0 : (List Acid)) (f1 : (Acid → Option (Bool))) : Option (Bool) := (s_174 n v0 f1).bind fun v101 => some ((decide (0 ≤ v101)))
theorem c_146 (n : Nat) (v0 : (List Acid)) (f1 : (Acid → Option (Bool))) {fidf1 : Nat} {firstf1 capsf1 : List PV} (hcf1 : Callable Tryz.prog fidf1) (hgf1 : ∀ x0 y, f1 x0 = some y → Fun Tryz.prog fidf1 (firstf1 ++ [.agg (cAcid x0)] ++ capsf1) (.ret (.b y))) {r : (Bool)} (h : s_146 n v0 f1 = some r) :
  Fun Tryz.prog 146 [.sl (v0.map cAcid), .fn fidf1 firstf1 capsf1] (.ret (.b r)) := by
 unfold s_146 at h
 refine enterW 9 Tryz.func146 q q q ?_
 intro w0 F0
 change W _ _ (Ev [(0, .pv (.sl (List.map cAcid v0))), (1, .pv (.fn fidf1 firstf1 capsf1))]) _
 refine W.seq<|W.region<|va q q q q q<|on0<|Sq.n<|W.seq<|W.region<|vm q q q q q<|vm q q q q q ?_
 obtain ⟨v101, e101, h⟩ := bind_some h
 refine ov (g_call q q q ca_174 q (c_174 _ _ _ hcf1 hgf1 e101)) q<|ov (g_geq q q q q q) q<|va q q q q q<|on0<|Sq.n<|W.ret ?_
 obtain rfl := Option.some.inj h
 exact Fin.r q (.cons (.tmp _ _ q) .nil) q
def s_147 (n : Nat) (v0 : Acid) : Option (Bool) := (s_148 n v0.strength 100).bind fun v101 => bif (!v101) then ( some (true) ) else ( (s_148 n v0.fall 20).bind fun v102 => some ((!v102)) )
theorem c_147 (n : Nat) (v0 : Acid) {r : (Bool)} (h : s_147 n v0 = some r) :
  Fun Tryz.prog 147 [.agg (cAcid v0)] (.ret (.b r)) := by
 unfold s_147 at h
 refine enterW 13 Tryz.func147 q q q ?_
 intro w0 F0
 change W _ _ (Ev [(0, .pv (.agg (cAcid v0)))]) _
 refine W.seq<|W.region<|ob (g_box q q q q q) q q<|va q q q q q<|on0<|Sq.n<|W.seq<|W.region<|ov (g_fld q q q q fl_137_0) q<|ov (g_loadA q q q q q ag_57 sz_57 q q) q ?_
 obtain ⟨v101, e101, h⟩ := bind_some h
 refine ov (g_call q q q ca_148 q (c_148 _ _ _ e101)) q<|ov (g_not q q q q) q<|vm q q q q q<|Ops.split 7 q (fun hb => ?_) (fun hb => ?_)
 ·have h := bif_t h hb
  refine o2 q q q q q q<|o2 q q q q q q<|o2 q q q q q q<|o2 q q q q q q<|vt q q q q q q<|va q q q q q<|on0<|Sq.n<|W.ret ?_
  obtain rfl := Option.some.inj h
  exact Fin.r q (.cons (.tmp _ _ q) .nil) q
 ·have h := bif_f h hb
  refine on q q q<|ov (g_fld q q q q fl_137_1) q<|on q q q<|ov (g_loadA q q q q q ag_57 sz_57 q q) q<|on q q q ?_
  obtain ⟨v102, e102, h⟩ := bind_some h
  refine ov (g_call q q q ca_148 q (c_148 _ _ _ e102)) q<|on q q q<|ov (g_not q q q q) q<|vf q q q q q q<|va q q q q q<|on0<|Sq.n<|W.ret ?_
  obtain rfl := Option.some.inj h
  exact Fin.r q (.cons (.tmp _ _ q) .nil) q
def s_149 (n : Nat) (v0 : Int) : Option (Bool) := (s_87 n v0 0 100).bind fun v101 => some ((!v101))
theorem c_149 (n : Nat) (v0 : Int) {r : (Bool)} (h : s_149 n v0 = some r) :
  Fun Tryz.prog 149 [.val (.int .i64 v0)] (.ret (.b r)) := by
 unfold s_149 at h
 refine enterW 6 Tryz.func149 q q q ?_
 intro w0 F0
 change W _ _ (Ev [(0, .pv (.i v0))]) _
 refine W.seq<|W.region<|va q q q q q<|on0<|Sq.n<|W.seq<|W.region<|vm q q q q q ?_
 obtain ⟨v101, e101, h⟩ := bind_some h
 refine ov (g_call q q q ca_87 q (c_87 _ _ _ _ e101)) q<|ov (g_not q q q q) q<|va q q q q q<|on0<|Sq.n<|W.ret ?_
 obtain rfl := Option.some.inj h
 exact Fin.r q (.cons (.tmp _ _ q) .nil) q
def s_150 (n : Nat) (v0 : Strip) (v1 : Drum) : Option (Bool) := (s_87 n v0.hour 0 (wr (v1.hours - 1))).bind fun v101 => bif (!v101) then ( some (true) ) else ( (s_87 n v0.seen 0 2000).bind fun v102 => bif (!v102) then ( some (true) ) else ( (s_87 n v0.off 0 50).bind fun v103 => some ((!v103)) ) )
theorem c_150 (n : Nat) (v0 : Strip) (v1 : Drum) {r : (Bool)} (h : s_150 n v0 v1 = some r) :
  Fun Tryz.prog 150 [.agg (cStrip v0), .ref (cDrum v1)] (.ret (.b r)) := by
 unfold s_150 at h
 refine enterW 23 Tryz.func150 q q q ?_
 intro w0 F0
 change W _ _ (Ev [(0, .pv (.agg (cStrip v0))), (1, .pv (.ref [.sl (List.map cAcid v1.acids), .val (.int .i64 v1.known), .val (.int .i64 v1.hours), .sl (List.map eI v1.adds), .sl (List.map cStrip v1.strips), .sl (List.map cBatch v1.batches)]))]) _
 refine W.seq<|W.region<|ob (g_box q q q q q) q q<|va q q q q q<|on0<|Sq.n<|W.seq<|W.region<|ov (g_fld q q q q fl_92_0) q<|ov (g_load1 q q q q q q ag_3) q<|ov (g_fldR q q q q fl_27_2 q) q<|ov (g_loadR1 q q q q q ag_3) q<|ov (g_sub q q q q q) q ?_
 obtain ⟨v101, e101, h⟩ := bind_some h
 refine ov (g_call q q q ca_87 q (c_87 _ _ _ _ e101)) q<|ov (g_not q q q q) q<|vm q q q q q<|Ops.split 11 q (fun hb => ?_) (fun hb => ?_)
 ·have h := bif_t h hb
  refine o2 q q q q q q<|o2 q q q q q q<|o2 q q q q q q<|o2 q q q q q q<|vt q q q q q q<|vm q q q q q<|o2 q q q q q q<|o2 q q q q q q<|o2 q q q q q q<|o2 q q q q q q<|vt q q q q q q<|va q q q q q<|on0<|Sq.n<|W.ret ?_
  obtain rfl := Option.some.inj h
  exact Fin.r q (.cons (.tmp _ _ q) .nil) q
 ·have h := bif_f h hb
  refine on q q q<|ov (g_fld q q q q fl_92_1) q<|on q q q<|ov (g_load1 q q q q q q ag_3) q<|on q q q ?_
  obtain ⟨v102, e102, h⟩ := bind_some h
  refine ov (g_call q q q ca_87 q (c_87 _ _ _ _ e102)) q<|on q q q<|ov (g_not q q q q) q<|vf q q q q q q<|vm q q q q q<|Ops.split 17 q (fun hb => ?_) (fun hb => ?_)
  ·have h := bif_t h hb
   refine o2 q q q q q q<|o2 q q q q q q<|o2 q q q q q q<|o2 q q q q q q<|vt q q q q q q<|va q q q q q<|on0<|Sq.n<|W.ret ?_
   obtain rfl := Option.some.inj h
   exact Fin.r q (.cons (.tmp _ _ q) .nil) q
  ·have h := bif_f h hb
   refine on q q q<|ov (g_fld q q q q fl_92_2) q<|on q q q<|ov (g_load1 q q q q q q ag_3) q<|on q q q ?_
   obtain ⟨v103, e103, h⟩ := bind_some h
   refine ov (g_call q q q ca_87 q (c_87 _ _ _ _ e103)) q<|on q q q<|ov (g_not q q q q) q<|vf q q q q q q<|va q q q q q<|on0<|Sq.n<|W.ret ?_
   obtain rfl := Option.some.inj h
   exact Fin.r q (.cons (.tmp _ _ q) .nil) q
def s_151 (n : Nat) (v0 : (List Batch)) (f1 : (Batch → Option (Bool))) : Option (Bool) := (s_175 n v0 f1).bind fun v101 => some ((decide (0 ≤ v101)))
theorem c_151 (n : Nat) (v0 : (List Batch)) (f1 : (Batch → Option (Bool))) {fidf1 : Nat} {firstf1 capsf1 : List PV} (hcf1 : Callable Tryz.prog fidf1) (hgf1 : ∀ x0 y, f1 x0 = some y → Fun Tryz.prog fidf1 (firstf1 ++ [.agg (cBatch x0)] ++ capsf1) (.ret (.b y))) {r : (Bool)} (h : s_151 n v0 f1 = some r) :
  Fun Tryz.prog 151 [.sl (v0.map cBatch), .fn fidf1 firstf1 capsf1] (.ret (.b r)) := by
 unfold s_151 at h
 refine enterW 9 Tryz.func151 q q q ?_
 intro w0 F0
 change W _ _ (Ev [(0, .pv (.sl (List.map cBatch v0))), (1, .pv (.fn fidf1 firstf1 capsf1))]) _
 refine W.seq<|W.region<|va q q q q q<|on0<|Sq.n<|W.seq<|W.region<|vm q q q q q<|vm q q q q q ?_
 obtain ⟨v101, e101, h⟩ := bind_some h
 refine ov (g_call q q q ca_175 q (c_175 _ _ _ hcf1 hgf1 e101)) q<|ov (g_geq q q q q q) q<|va q q q q q<|on0<|Sq.n<|W.ret ?_
 obtain rfl := Option.some.inj h
 exact Fin.r q (.cons (.tmp _ _ q) .nil) q
end Go.Proofs.YtohmhlkdgfcaeaaGreatDoor
namespace Go.Proofs.YtohmhlkdgfcaeaaGreatDoor
open Go Go.RowKit
def s_157 (n : Nat) (l : List ByteArray) (sep : ByteArray) : Option ByteArray :=
 bif decide ((Lib.join (l.map (·.data.toList)) sep.data.toList).length ≤ 140737488355328) && decide (l.length ≤ 140737488355328) then some ⟨(Lib.join (l.map (·.data.toList)) sep.data.toList).toArray⟩ else none
theorem c_157 (n : Nat) (l : List ByteArray) (sep : ByteArray) {r : ByteArray} (h : s_157 n l sep = some r) : Fun Tryz.prog 157 [.sl (l.map eS), .s sep] (.ret (.s r)) := by
 obtain ⟨h1, h2⟩ := bif_some h
 cases h2
 simp only [Bool.and_eq_true, decide_eq_true_eq] at h1
 intro w F vs hok hv
 have hsz : vs.size = 2 := hv.1
 have q0 := hv.2 0 _ vs[0] rfl (Array.getElem?_eq_getElem (by omega))
 have q1 := rd_val (hv.2 1 _ vs[1] rfl (Array.getElem?_eq_getElem (by omega)))
 have he : vs = #[vs[0], .string sep] := by
  apply Array.ext
  ·simpa using hsz
  ·intro i h1 h2
   match i with
   | 0 => rfl
   | 1 => simpa using q1
   | i + 2 => exact absurd h2 (by simp)
 generalize vs[0] = v0 at q0 he
 subst he
 have fin : ∀ (s : ByteArray) e w', (e = Ending.returned (.string s) ∧ Below w.heap.size w w') → ∃ F', Ext F w w' ∧ F.le F' w.heap.size ∧ F'.ok w' ∧ (Res.ret (.s s)).fits w' F' e := by
  rintro s e w' ⟨rfl, hb⟩
  have hx := Ext.of_below (F := F) hb
  exact ⟨F, hx, Foot.le.refl F _, hx.ok hok, _, rfl, Rd.val _⟩
 cases q0 with
 | sl _ A m cap sz a us hn hcap hA hs1 hc hp hr =>
  cases l with
  | nil =>
   have : m = 0 := by simpa using hn
   subst this
   refine (Tryz.strings_Join_none A cap sep w).mono ?_
   rintro e w' ⟨rfl, rfl⟩
   exact fin _ _ _ ⟨rfl, Below.refl _ _⟩
  | cons x l =>
   obtain ⟨hA1, hsp⟩ := hA (by rw [hn]; simp)
   subst hA1
   obtain ⟨bk, o, sp⟩ := a
   simp only at hsp
   subst hsp
   have hs : sz = 1 := (hs1 0 (eS x) rfl).symm
   subst hs
   have hcell : ∀ (j : Nat) y, (x :: l)[j]? = some y → w.cell? ⟨bk, o + j, none⟩ = some (.string y) := fun j y hj => by
    have g1 : ((x :: l).map eS)[j]? = some (eS y) := by rw [List.getElem?_map, hj]; rfl
    have g2 := hc j (eS y) 0 (.s y) g1 rfl
    have g3 := rd_val (hr j (eS y) 0 (.s y) g1 rfl)
    rw [Nat.mul_one, Nat.add_zero, Addr.add_lit] at g2
    rw [g2, g3]
   have hm : m = (x :: l).length := by simpa using hn
   subst hm
   refine (Tryz.strings_Join bk o cap (x :: l) sep w hcell (World.block_lt_of_cell? w _ (hcell 0 x rfl)) h1.2 hcap h1.1).mono ?_
   intro e w' hq
   exact fin _ _ _ hq
end Go.Proofs.YtohmhlkdgfcaeaaGreatDoor
namespace Go.Proofs.YtohmhlkdgfcaeaaGreatDoor
open Go Go.RowKit
set_option maxRecDepth 4000
attribute [local irreducible] W Ops GS GSG
def s_153 (n : Nat) (v0 : Batch) : Option (Bool) := (s_87 n v0.rough 0 1000).bind fun v101 => bif v101 then ( (s_87 n v0.goal 0 1000).bind fun v102 => bif v102 then ( (s_87 n v0.thick 0 1000).bind fun v103 => bif v103 then ( (s_87 n v0.least 0 1000).bind fun v104 => bif v104 then ( (s_87 n v0.polish 0 100).bind fun v105 => bif v105 then ( (s_87 n v0.eat 0 100).bind fun v106 => some (v106) ) else (
 some (false) ) ) else ( some (false) ) ) else ( some (false) ) ) else ( some (false) ) ) else ( some (false) )
theorem c_153 (n : Nat) (v0 : Batch) {r : (Bool)} (h : s_153 n v0 = some r) :
  Fun Tryz.prog 153 [.agg (cBatch v0)] (.ret (.b r)) := by
 unfold s_153 at h
 refine enterW 31 Tryz.func153 q q q ?_
 intro w0 F0
 change W _ _ (Ev [(0, .pv (.agg (cBatch v0)))]) _
 refine W.seq<|W.region<|ob (g_box q q q q q) q q<|va q q q q q<|on0<|Sq.n<|W.seq<|W.region<|ov (g_fld q q q q fl_67_0) q<|ov (g_load1 q q q q q q ag_3) q ?_
 obtain ⟨v101, e101, h⟩ := bind_some h
 refine ov (g_call q q q ca_87 q (c_87 _ _ _ _ e101)) q<|vm q q q q q<|Ops.split 6 q (fun hb => ?_) (fun hb => ?_)
 ·have h := bif_t h hb
  refine on q q q<|ov (g_fld q q q q fl_67_1) q<|on q q q<|ov (g_load1 q q q q q q ag_3) q<|on q q q ?_
  obtain ⟨v102, e102, h⟩ := bind_some h
  refine ov (g_call q q q ca_87 q (c_87 _ _ _ _ e102)) q<|vt q q q q q q<|vm q q q q q<|Ops.split 11 q (fun hb => ?_) (fun hb => ?_)
  ·have h := bif_t h hb
   refine on q q q<|ov (g_fld q q q q fl_67_2) q<|on q q q<|ov (g_load1 q q q q q q ag_3) q<|on q q q ?_
   obtain ⟨v103, e103, h⟩ := bind_some h
   refine ov (g_call q q q ca_87 q (c_87 _ _ _ _ e103)) q<|vt q q q q q q<|vm q q q q q<|Ops.split 16 q (fun hb => ?_) (fun hb => ?_)
   ·have h := bif_t h hb
    refine on q q q<|ov (g_fld q q q q fl_67_3) q<|on q q q<|ov (g_load1 q q q q q q ag_3) q<|on q q q ?_
    obtain ⟨v104, e104, h⟩ := bind_some h
    refine ov (g_call q q q ca_87 q (c_87 _ _ _ _ e104)) q<|vt q q q q q q<|vm q q q q q<|Ops.split 21 q (fun hb => ?_) (fun hb => ?_)
    ·have h := bif_t h hb
     refine on q q q<|ov (g_fld q q q q fl_67_4) q<|on q q q<|ov (g_load1 q q q q q q ag_3) q<|on q q q ?_
     obtain ⟨v105, e105, h⟩ := bind_some h
     refine ov (g_call q q q ca_87 q (c_87 _ _ _ _ e105)) q<|vt q q q q q q<|vm q q q q q<|Ops.split 26 q (fun hb => ?_) (fun hb => ?_)
     ·have h := bif_t h hb
      refine on q q q<|ov (g_fld q q q q fl_67_5) q<|on q q q<|ov (g_load1 q q q q q q ag_3) q<|on q q q ?_
      obtain ⟨v106, e106, h⟩ := bind_some h
      refine ov (g_call q q q ca_87 q (c_87 _ _ _ _ e106)) q<|vt q q q q q q<|va q q q q q<|on0<|Sq.n<|W.ret ?_
      obtain rfl := Option.some.inj h
      exact Fin.r q (.cons (.tmp _ _ q) .nil) q
     ·have h := bif_f h hb
      refine o2 q q q q q q<|o2 q q q q q q<|o2 q q q q q q<|vf q q q q q q<|va q q q q q<|on0<|Sq.n<|W.ret ?_
      obtain rfl := Option.some.inj h
      exact Fin.r q (.cons (.tmp _ _ q) .nil) q
    ·have h := bif_f h hb
     refine o2 q q q q q q<|o2 q q q q q q<|o2 q q q q q q<|vf q q q q q q<|vm q q q q q<|o2 q q q q q q<|o2 q q q q q q<|o2 q q q q q q<|vf q q q q q q<|va q q q q q<|on0<|Sq.n<|W.ret ?_
     obtain rfl := Option.some.inj h
     exact Fin.r q (.cons (.tmp _ _ q) .nil) q
   ·have h := bif_f h hb
    refine o2 q q q q q q<|o2 q q q q q q<|o2 q q q q q q<|vf q q q q q q<|vm q q q q q<|o2 q q q q q q<|o2 q q q q q q<|o2 q q q q q q<|vf q q q q q q<|vm q q q q q<|o2 q q q q q q<|o2 q q q q q q<|o2 q q q q q q<|vf q q q q q q<|va q q q q q<|on0<|Sq.n<|W.ret ?_
    obtain rfl := Option.some.inj h
    exact Fin.r q (.cons (.tmp _ _ q) .nil) q
  ·have h := bif_f h hb
   refine o2 q q q q q q<|o2 q q q q q q<|o2 q q q q q q<|vf q q q q q q<|vm q q q q q<|o2 q q q q q q<|o2 q q q q q q<|o2 q q q q q q<|vf q q q q q q<|vm q q q q q<|o2 q q q q q q<|o2 q q q q q q<|o2 q q q q q q<|vf q q q q q q<|vm q q q q q<|o2 q q q q q q<|o2 q q q q q q<|o2 q q q q q q<|vf q q q q q q<|va q q q q q<|on0<|Sq.n<|W.ret ?_
   obtain rfl := Option.some.inj h
   exact Fin.r q (.cons (.tmp _ _ q) .nil) q
 ·have h := bif_f h hb
  refine o2 q q q q q q<|o2 q q q q q q<|o2 q q q q q q<|vf q q q q q q<|vm q q q q q<|o2 q q q q q q<|o2 q q q q q q<|o2 q q q q q q<|vf q q q q q q<|vm q q q q q<|o2 q q q q q q<|o2 q q q q q q<|o2 q q q q q q<|vf q q q q q q<|vm q q q q q<|o2 q q q q q q<|o2 q q q q q q<|o2 q q q q q q<|vf q q q q q q<|vm q q q q q<|o2 q q q q q q<|o2 q q q q q q<|o2 q q q q q q<|vf q q q q q q<|va q q q q q<|on0<|Sq.n<|W.ret ?_
  obtain rfl := Option.some.inj h
  exact Fin.r q (.cons (.tmp _ _ q) .nil) q
def s_105_l7 (K4 : Int → Int → Option (ByteArray)) (v156 : Int) (v163 : ByteArray) : Nat → Int → Int → Option (ByteArray)
| 0, _, _ => none
| k7 + 1, v165, v166 => bif (decide (v166 < ((ByteArray.size v163 : Nat) : Int))) then ( (ixs v163 v166).bind fun v168 => (s_105_l7 K4 v156 v163 k7) (wr (v165 + (wr ((wr v168) * (wr (v166 + 1)))))) (wr (v166 + 1)) ) else ( K4 v165 (wr (v156 + 1)) )
def s_105_l4 (n : Nat) (v142 : (List ByteArray)) : Nat → Int → Int → Option (ByteArray)
| 0, _, _ => none
| k4 + 1, v155, v156 => bif (decide (v156 < (v142.length : Int))) then ( (ix v142 v156).bind fun v163 => s_105_l7 (s_105_l4 n v142 k4) v156 v163 n v155 0 ) else ( (rem .i64 v155 103).bind fun v169 => (quo .i64 v169 100).bind fun v170 => (s_156 n v170).bind fun v171 => (cat (ByteArray.mk #[101, 110, 100, 32]) v171).bind fun v172 => (quo .i64 v169 10).bind fun v173 =>
 (rem .i64 v173 10).bind fun v174 => (s_156 n v174).bind fun v175 => (cat v172 v175).bind fun v176 => (rem .i64 v169 10).bind fun v177 => (s_156 n v177).bind fun v178 => (cat v176 v178).bind fun v179 => (app v142 ([v179])).bind fun v180 => (s_157 n v180 (ByteArray.mk #[10])).bind fun v181 => (cat v181 (ByteArray.mk #[10])).bind fun v182 => some (v182) )
def s_105_l3 (n : Nat) (v0 : Drum) (v101 : (ByteArray × ByteArray × ByteArray × ByteArray)) : Nat → Int → (List ByteArray) → Option (ByteArray)
| 0, _, _ => none
| k3 + 1, v141, v142 => bif (decide (v141 < (v0.batches.length : Int))) then ( (ix v0.batches v141).bind fun v146 => (s_155 n v101.2.2.2 ([v146.rough, v146.goal, v146.thick, v146.least, v146.polish, v146.eat])).bind fun v147 => (app v142 ([v147])).bind fun v148 => (s_105_l3 n v0 v101 k3) (wr (v141 + 1)) v148 ) else ( s_105_l4 n v142 n 0 0 )
def s_105_l2 (n : Nat) (v0 : Drum) (v101 : (ByteArray × ByteArray × ByteArray × ByteArray)) : Nat → Int → (List ByteArray) → Option (ByteArray)
| 0, _, _ => none
| k2 + 1, v130, v131 => bif (decide (v130 < (v0.strips.length : Int))) then ( (ix v0.strips v130).bind fun v135 => (s_155 n v101.2.2.1 ([v135.hour, v135.seen, v135.off])).bind fun v136 => (app v131 ([v136])).bind fun v137 => (s_105_l2 n v0 v101 k2) (wr (v130 + 1)) v137 ) else ( s_105_l3 n v0 v101 n 0 v131 )
def s_105_l1 (n : Nat) (v0 : Drum) (v101 : (ByteArray × ByteArray × ByteArray × ByteArray)) : Nat → Int → (List ByteArray) → Option (ByteArray)
| 0, _, _ => none
| k1 + 1, v111, v112 => bif (decide (v111 < (v0.acids.length : Int))) then ( (ix v0.acids v111).bind fun v119 => (s_155 n v101.1 ([v119.strength.low, v119.strength.high])).bind fun v121 => (s_155 n (ByteArray.mk #[32, 102, 97, 108, 108]) ([v119.fall.low, v119.fall.high])).bind fun v122 => (cat v121 v122).bind fun v123 => (app v112 ([v123])).bind fun v124 =>
 (s_105_l1 n v0 v101 k1) (wr (v111 + 1)) v124 ) else ( (s_155 n v101.2.1 v0.adds).bind fun v125 => (app v112 ([v125])).bind fun v126 => s_105_l2 n v0 v101 n 0 v126 )
def s_105 (n : Nat) (v0 : Drum) : Option (ByteArray) := (s_154 n ).bind fun v101 => (s_155 n (ByteArray.mk #[100, 114, 117, 109]) ([v0.hours])).bind fun v102 => (s_155 n (ByteArray.mk #[32, 107, 110, 111, 119, 110]) ([v0.known])).bind fun v103 => (cat v102 v103).bind fun v104 => s_105_l1 n v0 v101 n 0 ([v104])
theorem c_105 (n : Nat) (v0 : Drum) {r : (ByteArray)} (h : s_105 n v0 = some r) :
  Fun Tryz.prog 105 [.agg (cDrum v0)] (.ret (.s r)) := by
 unfold s_105 at h
 refine enterW 155 Tryz.func105 q q q ?_
 intro w0 F0
 change W _ _ (Ev [(0, .pv (.agg (cDrum v0)))]) _
 refine W.seq<|W.region<|ob (g_box q q q q q) q q<|va q q q q q<|on0<|Sq.n<|W.seq<|W.region ?_
 obtain ⟨v101, e101, h⟩ := bind_some h
 refine ov (g_call q q q ca_154 q (c_154 _  e101)) q<|ob (g_alloc q q q zr_170) q q<|Ops.step q (s_storeB q q q q q q sz_170 q q)<|on0<|Sq.n<|W.seq ?_
 obtain ⟨v102, e102, h⟩ := bind_some h
 refine W.draw (m := 7) Checked.mixed (Pre.v (GSG.of q (g_fld q q q q fl_27_2)) ((Pre.v (GSG.of q (g_load1 q q q q q q ag_3)) ((Pre.v (GSG.of q (g_buildSl (cs := [.val (.int .i64 v0.hours)]) (es := List.map eI [v0.hours]) q q q el_23 ⟨_, zr_3⟩ q q q q q q)) ((Pre.v (GSG.of q (g_call q q q ca_155 q (c_155 _ _ _ e102))) ((Pre.v (GSG.of q (g_fld q q q q fl_27_1)) ((Pre.v (GSG.of q (g_load1 q q q q q q ag_3)) ((Pre.r (GSG.of q (g_buildSlice (cs := [.val (.int .i64 v0.known)]) (es := List.map eI [v0.known]) q q q el_23 ⟨_, zr_3⟩ q q q q q q)) q (Pre.nil _)))))))))))))) (by kernel_rfl)<|Ops.share (k := 22) q ?_
 obtain ⟨v103, e103, h⟩ := bind_some h
 refine ov (g_call q q q ca_155 q (c_155 _ _ _ e103)) q ?_
 obtain ⟨v104, e104, h⟩ := bind_some h
 refine ov (g_catI e104 q q q q q) q<|Ops.r (g_buildSlice (cs := [.s v104]) (es := List.map eS [v104]) q q q el_141 ⟨_, zr_9⟩ q q q q q q) q q<|va q q q q q<|on0<|Sq.n<|W.seq<|W.seq<|W.region<|ov (g_fld q q q q fl_27_0) q<|ov (g_load1 q q q q q q ag_22) q<|ov (g_lenM (l := v0.acids) (enc := cAcid) q ul_22 q q q) q<|vm q q q q q<|on0<|Sq.n<|W.block<|W.loop (σ := Nat × Int × (List ByteArray)) (fun s => (⟨[(1, .box 1 0), (3, .box 3 0), (4, .row 25), (27, .pv (.sl (List.map cAcid v0.acids))), (28, .pv (.val (.int .i64 (v0.acids.length : Int)))), (29, .pv (.i s.2.1))], [(1, 27, [.pv (.sl (List.map cAcid v0.acids)), .pv (.i v0.known), .pv (.i v0.hours), .pv (.sl (List.map eI v0.adds)), .pv (.sl (List.map cStrip v0.strips)), .pv (.sl (List.map cBatch v0.batches))]), (3, 170, [.pv (.s v101.1), .pv (.s v101.2.1), .pv (.s v101.2.2.1), .pv (.s v101.2.2.2)])], [(25, ⟨9, 1, List.map eS s.2.2⟩)]⟩ : Env)) (fun s => s_105_l1 n v0 v101 s.1 s.2.1 s.2.2 = some r) (fun s => s.1) (n, 0, [v104]) h (has_mk ⟨q, q, q, q, q, q, trivial⟩ ⟨q, q, trivial⟩ ⟨q, trivial⟩ q) ?_
 rintro ⟨k1, v111, v112⟩ h
 change s_105_l1 n v0 v101 k1 v111 v112 = some r at h
 rcases k1 with _ | k1
 ·rw [s_105_l1] at h
  cases h
 ·rw [s_105_l1] at h
  change W _ _ (⟨[(1, .box 1 0), (3, .box 3 0), (4, .row 25), (27, .pv (.sl (List.map cAcid v0.acids))), (28, .pv (.val (.int .i64 (v0.acids.length : Int)))), (29, .pv (.i v111))], [(1, 27, [.pv (.sl (List.map cAcid v0.acids)), .pv (.i v0.known), .pv (.i v0.hours), .pv (.sl (List.map eI v0.adds)), .pv (.sl (List.map cStrip v0.strips)), .pv (.sl (List.map cBatch v0.batches))]), (3, 170, [.pv (.s v101.1), .pv (.s v101.2.1), .pv (.s v101.2.2.1), .pv (.s v101.2.2.2)])], [(25, ⟨9, 1, List.map eS v112⟩)]⟩ : Env) _
  refine W.seq<|W.region<|ov (g_lss q q q q q) q<|on0<|Sq.n<|W.seq<|W.cond (b := (decide (v111 < (v0.acids.length : Int)))) q (fun hc => ?_) (fun hc => ?_)
  ·have h := bif_t h hc
   refine W.skip<|Sq.n<|W.seq<|W.block<|W.seq<|W.region ?_
   obtain ⟨v119, e119, h⟩ := bind_some h
   refine ov (g_idxI (l := v0.acids) (enc := cAcid) e119 q q q q q el_22 q) q<|ov (g_loadRA q q q q ag_137 sz_137 q q) q<|ob (g_alloc q q q zr_137) q q<|Ops.step q (s_storeB q q q q q q sz_137 q q)<|on0<|Sq.n ?_
   obtain ⟨v121, e121, h⟩ := bind_some h
   obtain ⟨v122, e122, h⟩ := bind_some h
   obtain ⟨v123, e123, h⟩ := bind_some h
   refine W.draw (m := 21) Checked.mixed (Pre.v (GSG.of q (g_move q q q q)) ((Pre.v (GSG.of q (g_idxA q q q q q ar_170 (by decide) (by decide))) ((Pre.v (GSG.of q (g_load1 q q q q q q ag_9)) ((Pre.v (GSG.of q (g_fld q q q q fl_137_0)) ((Pre.v (GSG.of q (g_fld q q q q fl_57_0)) ((Pre.v (GSG.of q (g_load1 q q q q q q ag_3)) ((Pre.v (GSG.of q (g_fld q q q q fl_137_0)) ((Pre.v (GSG.of q (g_fld q q q q fl_57_1)) ((Pre.v (GSG.of q (g_load1 q q q q q q ag_3)) ((Pre.v (GSG.of q (g_buildSl (cs := [.val (.int .i64 v119.strength.low), .val (.int .i64 v119.strength.high)]) (es := List.map eI [v119.strength.low, v119.strength.high]) q q q el_23 ⟨_, zr_3⟩ q q q q q q)) ((Pre.v (GSG.of q (g_call q q q ca_155 q (c_155 _ _ _ e121))) ((Pre.v (GSG.of q (g_fld q q q q fl_137_1)) ((Pre.v (GSG.of q (g_fld q q q q fl_57_0)) ((Pre.v (GSG.of q (g_load1 q q q q q q ag_3)) ((Pre.v (GSG.of q (g_fld q q q q fl_137_1)) ((Pre.v (GSG.of q (g_fld q q q q fl_57_1)) ((Pre.v (GSG.of q (g_load1 q q q q q q ag_3)) ((Pre.v (GSG.of q (g_buildSl (cs := [.val (.int .i64 v119.fall.low), .val (.int .i64 v119.fall.high)]) (es := List.map eI [v119.fall.low, v119.fall.high]) q q q el_23 ⟨_, zr_3⟩ q q q q q q)) ((Pre.v (GSG.of q (g_call q q q ca_155 q (c_155 _ _ _ e122))) ((Pre.v (GSG.of q (g_catI e123 q q q q q)) ((Pre.r (GSG.of q (g_buildSlice (cs := [.s v123]) (es := List.map eS [v123]) q q q el_141 ⟨_, zr_9⟩ q q q q q q)) q (Pre.nil _)))))))))))))))))))))))))))))))))))))))))) (by kernel_rfl) ?_
   obtain ⟨v124, e124, h⟩ := bind_some h
   exact Ops.step q (s_appendR (enc := eS) e124 q q q q q q q q ex_141 (fun _ => q))<|va q q q q q<|on0<|Bl.n<|Sq.n<|W.region<|ov (g_add q q q q q) q<|vm q q q q q<|on0<|Sq.n<|⟨(k1, wr (v111 + 1), v124), h, Nat.lt_succ_self _, has_mk ⟨q, q, q, q, q, q, trivial⟩ ⟨q, q, trivial⟩ ⟨q, trivial⟩ q⟩
  ·have h := bif_f h hc
   refine W.exit<|Sq.e<|Sq.e<|Bl.e<|Sq.n<|W.seq<|W.region<|vm q q q q q<|ov (g_idxA q q q q q ar_170 (by decide) (by decide)) q<|ov (g_load1 q q q q q q ag_9) q<|ov (g_fld q q q q fl_27_3) q<|ov (g_load1 q q q q q q ag_23) q ?_
   obtain ⟨v125, e125, h⟩ := bind_some h
   refine ov (g_call q q q ca_155 q (c_155 _ _ _ e125)) q<|Ops.r (g_buildSlice (cs := [.s v125]) (es := List.map eS [v125]) q q q el_141 ⟨_, zr_9⟩ q q q q q q) q q ?_
   obtain ⟨v126, e126, h⟩ := bind_some h
   refine Ops.step q (s_appendR (enc := eS) e126 q q q q q q q q ex_141 (fun _ => q))<|va q q q q q<|on0<|Sq.n<|W.seq<|W.seq<|W.region<|ov (g_fld q q q q fl_27_4) q<|ov (g_load1 q q q q q q ag_24) q<|ov (g_lenM (l := v0.strips) (enc := cStrip) q ul_24 q q q) q<|vm q q q q q<|on0<|Sq.n<|W.block<|W.loop (σ := Nat × Int × (List ByteArray)) (fun s => (⟨[(1, .box 1 0), (3, .box 3 0), (4, .row 25), (65, .pv (.sl (List.map cStrip v0.strips))), (66, .pv (.val (.int .i64 (v0.strips.length : Int)))), (67, .pv (.i s.2.1))], [(1, 27, [.pv (.sl (List.map cAcid v0.acids)), .pv (.i v0.known), .pv (.i v0.hours), .pv (.sl (List.map eI v0.adds)), .pv (.sl (List.map cStrip v0.strips)), .pv (.sl (List.map cBatch v0.batches))]), (3, 170, [.pv (.s v101.1), .pv (.s v101.2.1), .pv (.s v101.2.2.1), .pv (.s v101.2.2.2)])], [(25, ⟨9, 1, List.map eS s.2.2⟩)]⟩ : Env)) (fun s => s_105_l2 n v0 v101 s.1 s.2.1 s.2.2 = some r) (fun s => s.1) (n, 0, v126) h (has_mk ⟨q, q, q, q, q, q, trivial⟩ ⟨q, q, trivial⟩ ⟨q, trivial⟩ q) ?_
   rintro ⟨k2, v130, v131⟩ h
   change s_105_l2 n v0 v101 k2 v130 v131 = some r at h
   rcases k2 with _ | k2
   ·rw [s_105_l2] at h
    cases h
   ·rw [s_105_l2] at h
    change W _ _ (⟨[(1, .box 1 0), (3, .box 3 0), (4, .row 25), (65, .pv (.sl (List.map cStrip v0.strips))), (66, .pv (.val (.int .i64 (v0.strips.length : Int)))), (67, .pv (.i v130))], [(1, 27, [.pv (.sl (List.map cAcid v0.acids)), .pv (.i v0.known), .pv (.i v0.hours), .pv (.sl (List.map eI v0.adds)), .pv (.sl (List.map cStrip v0.strips)), .pv (.sl (List.map cBatch v0.batches))]), (3, 170, [.pv (.s v101.1), .pv (.s v101.2.1), .pv (.s v101.2.2.1), .pv (.s v101.2.2.2)])], [(25, ⟨9, 1, List.map eS v131⟩)]⟩ : Env) _
    refine W.seq<|W.region<|ov (g_lss q q q q q) q<|on0<|Sq.n<|W.seq<|W.cond (b := (decide (v130 < (v0.strips.length : Int)))) q (fun hc => ?_) (fun hc => ?_)
    ·have h := bif_t h hc
     refine W.skip<|Sq.n<|W.seq<|W.block<|W.seq<|W.region ?_
     obtain ⟨v135, e135, h⟩ := bind_some h
     refine ov (g_idxI (l := v0.strips) (enc := cStrip) e135 q q q q q el_24 q) q<|ov (g_loadRA q q q q ag_92 sz_92 q q) q<|ob (g_alloc q q q zr_92) q q<|Ops.step q (s_storeB q q q q q q sz_92 q q)<|on0<|Sq.n<|W.region<|vm q q q q q<|ov (g_idxA q q q q q ar_170 (by decide) (by decide)) q<|ov (g_load1 q q q q q q ag_9) q<|ov (g_fld q q q q fl_92_0) q<|ov (g_load1 q q q q q q ag_3) q<|ov (g_fld q q q q fl_92_1) q<|ov (g_load1 q q q q q q ag_3) q<|ov (g_fld q q q q fl_92_2) q<|ov (g_load1 q q q q q q ag_3) q<|Ops.r (g_buildSlice (cs := [.val (.int .i64 v135.hour), .val (.int .i64 v135.seen), .val (.int .i64 v135.off)]) (es := List.map eI [v135.hour, v135.seen, v135.off]) q q q el_23 ⟨_, zr_3⟩ q q q q q q) q q<|Ops.share (k := 80) q ?_
     obtain ⟨v136, e136, h⟩ := bind_some h
     refine ov (g_call q q q ca_155 q (c_155 _ _ _ e136)) q<|Ops.r (g_buildSlice (cs := [.s v136]) (es := List.map eS [v136]) q q q el_141 ⟨_, zr_9⟩ q q q q q q) q q ?_
     obtain ⟨v137, e137, h⟩ := bind_some h
     exact Ops.step q (s_appendR (enc := eS) e137 q q q q q q q q ex_141 (fun _ => q))<|va q q q q q<|on0<|Bl.n<|Sq.n<|W.region<|ov (g_add q q q q q) q<|vm q q q q q<|on0<|Sq.n<|⟨(k2, wr (v130 + 1), v137), h, Nat.lt_succ_self _, has_mk ⟨q, q, q, q, q, q, trivial⟩ ⟨q, q, trivial⟩ ⟨q, trivial⟩ q⟩
    ·have h := bif_f h hc
     refine W.exit<|Sq.e<|Sq.e<|Bl.e<|Sq.n<|W.seq<|W.seq<|W.region<|ov (g_fld q q q q fl_27_5) q<|ov (g_load1 q q q q q q ag_25) q<|ov (g_lenM (l := v0.batches) (enc := cBatch) q ul_25 q q q) q<|vm q q q q q<|on0<|Sq.n<|W.block<|W.loop (σ := Nat × Int × (List ByteArray)) (fun s => (⟨[(3, .box 3 0), (4, .row 25), (86, .pv (.sl (List.map cBatch v0.batches))), (87, .pv (.val (.int .i64 (v0.batches.length : Int)))), (88, .pv (.i s.2.1))], [(3, 170, [.pv (.s v101.1), .pv (.s v101.2.1), .pv (.s v101.2.2.1), .pv (.s v101.2.2.2)])], [(25, ⟨9, 1, List.map eS s.2.2⟩)]⟩ : Env)) (fun s => s_105_l3 n v0 v101 s.1 s.2.1 s.2.2 = some r) (fun s => s.1) (n, 0, v131) h (has_mk ⟨q, q, q, q, q, trivial⟩ ⟨q, trivial⟩ ⟨q, trivial⟩ q) ?_
     rintro ⟨k3, v141, v142⟩ h
     change s_105_l3 n v0 v101 k3 v141 v142 = some r at h
     rcases k3 with _ | k3
     ·rw [s_105_l3] at h
      cases h
     ·rw [s_105_l3] at h
      change W _ _ (⟨[(3, .box 3 0), (4, .row 25), (86, .pv (.sl (List.map cBatch v0.batches))), (87, .pv (.val (.int .i64 (v0.batches.length : Int)))), (88, .pv (.i v141))], [(3, 170, [.pv (.s v101.1), .pv (.s v101.2.1), .pv (.s v101.2.2.1), .pv (.s v101.2.2.2)])], [(25, ⟨9, 1, List.map eS v142⟩)]⟩ : Env) _
      refine W.seq<|W.region<|ov (g_lss q q q q q) q<|on0<|Sq.n<|W.seq<|W.cond (b := (decide (v141 < (v0.batches.length : Int)))) q (fun hc => ?_) (fun hc => ?_)
      ·have h := bif_t h hc
       refine W.skip<|Sq.n<|W.seq<|W.block<|W.seq<|W.region ?_
       obtain ⟨v146, e146, h⟩ := bind_some h
       refine ov (g_idxI (l := v0.batches) (enc := cBatch) e146 q q q q q el_25 q) q<|ov (g_loadRA q q q q ag_67 sz_67 q q) q<|ob (g_alloc q q q zr_67) q q<|Ops.step q (s_storeB q q q q q q sz_67 q q)<|on0<|Sq.n<|W.region<|vm q q q q q<|ov (g_idxA q q q q q ar_170 (by decide) (by decide)) q<|ov (g_load1 q q q q q q ag_9) q<|ov (g_fld q q q q fl_67_0) q<|ov (g_load1 q q q q q q ag_3) q<|ov (g_fld q q q q fl_67_1) q<|ov (g_load1 q q q q q q ag_3) q<|ov (g_fld q q q q fl_67_2) q<|ov (g_load1 q q q q q q ag_3) q<|ov (g_fld q q q q fl_67_3) q<|ov (g_load1 q q q q q q ag_3) q<|ov (g_fld q q q q fl_67_4) q<|ov (g_load1 q q q q q q ag_3) q<|ov (g_fld q q q q fl_67_5) q<|ov (g_load1 q q q q q q ag_3) q<|Ops.r (g_buildSlice (cs := [.val (.int .i64 v146.rough), .val (.int .i64 v146.goal), .val (.int .i64 v146.thick), .val (.int .i64 v146.least), .val (.int .i64 v146.polish), .val (.int .i64 v146.eat)]) (es := List.map eI [v146.rough, v146.goal, v146.thick, v146.least, v146.polish, v146.eat]) q q q el_23 ⟨_, zr_3⟩ q q q q q q) q q<|Ops.share (k := 107) q ?_
       obtain ⟨v147, e147, h⟩ := bind_some h
       refine ov (g_call q q q ca_155 q (c_155 _ _ _ e147)) q<|Ops.r (g_buildSlice (cs := [.s v147]) (es := List.map eS [v147]) q q q el_141 ⟨_, zr_9⟩ q q q q q q) q q ?_
       obtain ⟨v148, e148, h⟩ := bind_some h
       exact Ops.step q (s_appendR (enc := eS) e148 q q q q q q q q ex_141 (fun _ => q))<|va q q q q q<|on0<|Bl.n<|Sq.n<|W.region<|ov (g_add q q q q q) q<|vm q q q q q<|on0<|Sq.n<|⟨(k3, wr (v141 + 1), v148), h, Nat.lt_succ_self _, has_mk ⟨q, q, q, q, q, trivial⟩ ⟨q, trivial⟩ ⟨q, trivial⟩ q⟩
      ·have h := bif_f h hc
       refine W.exit<|Sq.e<|Sq.e<|Bl.e<|Sq.n<|W.seq<|W.region<|va q q q q q<|on0<|Sq.n<|W.seq<|W.seq<|W.region<|vm q q q q q<|ov (g_lenRM (l := v142) (enc := eS) q ul_141 q q q q) q<|vm q q q q q<|on0<|Sq.n<|W.block<|W.loop (σ := Nat × Int × Int) (fun s => (⟨[(4, .row 25), (11, .pv (.i s.2.1)), (112, .row 25), (113, .pv (.val (.int .i64 (v142.length : Int)))), (114, .pv (.i s.2.2))], [], [(25, ⟨9, 1, List.map eS v142⟩)]⟩ : Env)) (fun s => s_105_l4 n v142 s.1 s.2.1 s.2.2 = some r) (fun s => s.1) (n, 0, 0) h (has_mk ⟨q, q, q, q, q, trivial⟩ trivial ⟨q, trivial⟩ q) ?_
       rintro ⟨k4, v155, v156⟩ h
       change s_105_l4 n v142 k4 v155 v156 = some r at h
       rcases k4 with _ | k4
       ·rw [s_105_l4] at h
        cases h
       ·rw [s_105_l4] at h
        change W _ _ (⟨[(4, .row 25), (11, .pv (.i v155)), (112, .row 25), (113, .pv (.val (.int .i64 (v142.length : Int)))), (114, .pv (.i v156))], [], [(25, ⟨9, 1, List.map eS v142⟩)]⟩ : Env) _
        refine W.seq<|W.region<|ov (g_lss q q q q q) q<|on0<|Sq.n<|W.seq<|W.cond (b := (decide (v156 < (v142.length : Int)))) q (fun hc => ?_) (fun hc => ?_)
        ·have h := bif_t h hc
         refine W.skip<|Sq.n<|W.seq<|W.block<|W.seq<|W.region ?_
         obtain ⟨v163, e163, h⟩ := bind_some h
         refine ov (g_idxPI (l := v142) (enc := eS) e163 q q q q q q el_141) q<|ov (g_loadP1I (sz := 1) (l := v142) (enc := eS) 0 e163 q q q q q q ag_9) q<|va q q q q q<|on0<|Sq.n<|W.seq<|W.region<|vm q q q q q<|ov (g_len_s (c := cLen) q us_9 q q q) q<|vm q q q q q<|on0<|Sq.n<|W.block<|W.loop (σ := Nat × Int × Int) (fun s => (⟨[(4, .row 25), (11, .pv (.i s.2.1)), (13, .pv (.s v163)), (112, .row 25), (113, .pv (.val (.int .i64 (v142.length : Int)))), (114, .pv (.i v156)), (119, .pv (.val (.int .i64 ((ByteArray.size v163 : Nat) : Int)))), (120, .pv (.i s.2.2))], [], [(25, ⟨9, 1, List.map eS v142⟩)]⟩ : Env)) (fun s => s_105_l7 (s_105_l4 n v142 k4) v156 v163 s.1 s.2.1 s.2.2 = some r) (fun s => s.1) (n, v155, 0) h (has_mk ⟨q, q, q, q, q, q, q, q, trivial⟩ trivial ⟨q, trivial⟩ q) ?_
         rintro ⟨k7, v165, v166⟩ h
         change s_105_l7 (s_105_l4 n v142 k4) v156 v163 k7 v165 v166 = some r at h
         rcases k7 with _ | k7
         ·rw [s_105_l7] at h
          cases h
         ·rw [s_105_l7] at h
          change W _ _ (⟨[(4, .row 25), (11, .pv (.i v165)), (13, .pv (.s v163)), (112, .row 25), (113, .pv (.val (.int .i64 (v142.length : Int)))), (114, .pv (.i v156)), (119, .pv (.val (.int .i64 ((ByteArray.size v163 : Nat) : Int)))), (120, .pv (.i v166))], [], [(25, ⟨9, 1, List.map eS v142⟩)]⟩ : Env) _
          refine W.seq<|W.region<|ov (g_lss q q q q q) q<|on0<|Sq.n<|W.seq<|W.cond (b := (decide (v166 < ((ByteArray.size v163 : Nat) : Int)))) q (fun hc => ?_) (fun hc => ?_)
          ·have h := bif_t h hc
           refine W.skip<|Sq.n<|W.seq<|W.block<|W.seq<|W.region<|vm q q q q q<|va q q q q q<|on0<|Sq.n<|W.region<|vm q q q q q<|vm q q q q q<|vm q q q q q ?_
           obtain ⟨v168, e168, h⟩ := bind_some h
           exact ov (g_index_sI e168 q q q q q us_9) q<|ov (g_conv q q q q ⟨_, ui_5⟩ ui_3) q<|vm q q q q q<|ov (g_add q q q q q) q<|ov (g_mul q q q q q) q<|ov (g_add q q q q q) q<|va q q q q q<|on0<|Bl.n<|Sq.n<|W.region<|ov (g_add q q q q q) q<|vm q q q q q<|on0<|Sq.n<|⟨(k7, wr (v165 + (wr ((wr v168) * (wr (v166 + 1))))), wr (v166 + 1)), h, Nat.lt_succ_self _, has_mk ⟨q, q, q, q, q, q, q, q, trivial⟩ trivial ⟨q, trivial⟩ q⟩
          ·have h := bif_f h hc
           exact W.exit<|Sq.e<|Sq.e<|Bl.e<|Bl.n<|Sq.n<|W.region<|ov (g_add q q q q q) q<|vm q q q q q<|on0<|Sq.n<|⟨(k4, v165, wr (v156 + 1)), h, Nat.lt_succ_self _, has_mk ⟨q, q, q, q, q, trivial⟩ trivial ⟨q, trivial⟩ q⟩
        ·have h := bif_f h hc
         refine W.exit<|Sq.e<|Sq.e<|Bl.e<|Sq.n<|W.seq<|W.region<|vm q q q q q ?_
         obtain ⟨v169, e169, h⟩ := bind_some h
         refine ov (g_remI e169 q q q q q) q<|va q q q q q<|on0<|Sq.n<|W.seq<|W.region<|vm q q q q q<|vm q q q q q ?_
         obtain ⟨v170, e170, h⟩ := bind_some h
         refine ov (g_quoI e170 q q q q q) q ?_
         obtain ⟨v171, e171, h⟩ := bind_some h
         refine ov (g_call q q q ca_156 q (c_156 _ _ e171)) q ?_
         obtain ⟨v172, e172, h⟩ := bind_some h
         refine ov (g_catI e172 q q q q q) q<|vm q q q q q ?_
         obtain ⟨v173, e173, h⟩ := bind_some h
         refine ov (g_quoI e173 q q q q q) q ?_
         obtain ⟨v174, e174, h⟩ := bind_some h
         refine ov (g_remI e174 q q q q q) q ?_
         obtain ⟨v175, e175, h⟩ := bind_some h
         refine ov (g_call q q q ca_156 q (c_156 _ _ e175)) q ?_
         obtain ⟨v176, e176, h⟩ := bind_some h
         refine ov (g_catI e176 q q q q q) q<|vm q q q q q ?_
         obtain ⟨v177, e177, h⟩ := bind_some h
         refine ov (g_remI e177 q q q q q) q ?_
         obtain ⟨v178, e178, h⟩ := bind_some h
         refine ov (g_call q q q ca_156 q (c_156 _ _ e178)) q ?_
         obtain ⟨v179, e179, h⟩ := bind_some h
         refine ov (g_catI e179 q q q q q) q<|Ops.r (g_buildSlice (cs := [.s v179]) (es := List.map eS [v179]) q q q el_141 ⟨_, zr_9⟩ q q q q q q) q q ?_
         obtain ⟨v180, e180, h⟩ := bind_some h
         refine Ops.step q (s_appendR (enc := eS) e180 q q q q q q q q ex_141 (fun _ => q))<|va q q q q q<|on0<|Sq.n<|W.seq<|W.region<|vm q q q q q<|Ops.share (k := 25) q ?_
         obtain ⟨v181, e181, h⟩ := bind_some h
         refine ov (g_call q q q ca_157 q (c_157 _ _ _ e181)) q ?_
         obtain ⟨v182, e182, h⟩ := bind_some h
         refine ov (g_catI e182 q q q q q) q<|va q q q q q<|on0<|Sq.n<|W.ret ?_
         obtain rfl := Option.some.inj h
         exact Fin.r q (.cons (.tmp _ _ q) .nil) q
end Go.Proofs.YtohmhlkdgfcaeaaGreatDoor

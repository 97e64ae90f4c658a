/-
  The shelf's contracts that this claim's walks use, laid at this program by the kit's own commands (lay-shelf, lay-plain), cut to what is used. No condition of its own. The contracts of quillref02, told of numbers: each row holds a number's words. Conditions: the rows are no longer than may be. Plain laws on a number's decimal digits. No program in sight; no condition. A contract of math.Ldexp at whole numbers. Conditions: the number has 53 digits at most; what comes is no less than a float's least unit.
-/
import Derived.Shelf.Strings.Builder1
import Derived.Shelf.Strings.Builder2
import Derived.Shelf.Strings.OnBuilder
import Derived.Shelf.Small.Wraps
import Derived.Shelf.Strings.BuilderF
import Derived.Shelf.Utf8.RuneCount
import Derived.Shelf.Strings.Builder2Cap
import Derived.Shelf.Strconv.Atoi
import Derived.Shelf.Strconv.Itoa0
import Derived.Shelf.Strconv.Itoa1
import Derived.Shelf.LaysM
import Derived.Shelf.Strconv.Itoa2
import Derived.Shelf.Strconv.Itoa3
import Derived.Shelf.Strconv.AtoiErrFast
import Derived.Shelf.Strconv.ParseIntEmpty
import Derived.Shelf.Strconv.AtoiFail
import Derived.Shelf.Strconv.Clone
import Derived.Shelf.Strconv.Lower
import Derived.Shelf.Strconv.ParseUint10Empty
import Derived.Shelf.Strconv.RangeError
import Derived.Shelf.LaysC
import Derived.Shelf.Strconv.ToErrorRange
import Derived.Shelf.Strconv.ParseUintEmpty
import Derived.Shelf.Strings.Search1
import Derived.Shelf.Strings.Search2
import Derived.Shelf.Strings.Search3
import Derived.Shelf.Strings.Cut
import Derived.Shelf.Strings.Count
import Derived.Shelf.Strings.Shaped
import Derived.Shelf.Strconv.AppendUint10
import Derived.Shelf.Strconv.AppendInt10
import Derived.Shelf.Strings.Prefix
import Derived.Shelf.Strings.Split
import Derived.Shelf.Strings.Replace
import Derived.Shelf.Strings.SplitShaped
import Derived.Shelf.Unicode.Decode
import Derived.Shelf.Strings.RuneCount
import Derived.Shelf.Bits.Mul64
import Derived.Shelf.Strings.Repeat
import Derived.Shelf.Unicode.DecodeSlow
import Derived.Shelf.Unicode.DecodeAny
import Derived.Shelf.SlicesE.Clone
import Derived.Test.YtelgobelbeabaaaGreatDoorProg
import Derived.Test.YtelgobelbeabaaaGreatDoorShM6
import Derived.Test.YtelgobelbeabaaaGreatDoorShM4
import Derived.Test.YtelgobelbeabaaaGreatDoorShM2
namespace Go.Proofs.YtelgobelbeabaaaGreatDoor
open Go.Shelf Go.Proofs
def lays156_ren : Go.Shelf.Ren := ⟨fun | 156 => 81 | 165 => 117 | 166 => 80 | 169 => 55 | 240 => 116 | 241 => 154 | 276 => 153 | 277 => 182 | n => n, fun | 31 => 89 | 9 => 9 | 3 => 3 | 4 => 4 | 0 => 0 | 20 => 20 | 72 => 82 | 76 => 124 | 70 => 80 | 37 => 51 | 75 => 123 | 127 => 146 | 164 => 200 | 5 => 5 | 80 => 97 | n => n, fun | n => n⟩
theorem lays156 : Go.Proofs.Lays.n156 Tryz.prog lays156_ren := {
  mixed := by kernel_rfl
  f156 := Tryz.func81.trans (congrArg some (by kernel_rfl))
  f165 := Tryz.func117.trans (congrArg some (by kernel_rfl))
  f166 := Tryz.func80.trans (congrArg some (by kernel_rfl))
  f169 := Tryz.func55.trans (congrArg some (by kernel_rfl))
  f240 := Tryz.func116.trans (congrArg some (by kernel_rfl))
  f241 := Tryz.func154.trans (congrArg some (by kernel_rfl))
  f276 := Tryz.func153.trans (congrArg some (by kernel_rfl))
  f277 := Tryz.func182.trans (congrArg some (by kernel_rfl))
  t0 := Tryz.underlying0
  a0 := Tryz.isAgg0
  z0 := Tryz.sizeOf0
  v0 := Tryz.zeroValue0
  t3 := Tryz.underlying3
  a3 := Tryz.isAgg3
  z3 := Tryz.sizeOf3
  v3 := Tryz.zeroValue3
  t4 := Tryz.underlying4
  a4 := Tryz.isAgg4
  z4 := Tryz.sizeOf4
  v4 := Tryz.zeroValue4
  t9 := Tryz.underlying9
  a9 := Tryz.isAgg9
  z9 := Tryz.sizeOf9
  v9 := Tryz.zeroValue9
  t20 := Tryz.underlying20
  a20 := Tryz.isAgg20
  z20 := Tryz.sizeOf20
  v20 := Tryz.zeroValue20
  t31 := Tryz.underlying89
  a31 := Tryz.isAgg89
  z31 := Tryz.sizeOf89
  v31 := Tryz.zeroValue89
  t37 := Tryz.underlying51
  a37 := Tryz.isAgg51
  z37 := Tryz.sizeOf51
  v37 := Tryz.zeroValue51
  t70 := Tryz.underlying80
  a70 := Tryz.isAgg80
  z70 := Tryz.sizeOf80
  v70 := Tryz.zeroValue80
  t72 := Tryz.underlying82
  a72 := Tryz.isAgg82
  z72 := Tryz.sizeOf82
  v72 := Tryz.zeroValue82
  t75 := Tryz.underlying123
  a75 := Tryz.isAgg123
  z75 := Tryz.sizeOf123
  v75 := Tryz.zeroValue123
  t76 := Tryz.underlying124
  a76 := Tryz.isAgg124
  z76 := Tryz.sizeOf124
  v76 := Tryz.zeroValue124
  t127 := Tryz.underlying146
  a127 := Tryz.isAgg146
  z127 := Tryz.sizeOf146
  v127 := Tryz.zeroValue146
  t164 := Tryz.underlying200
  a164 := Tryz.isAgg200
  z164 := Tryz.sizeOf200
  v164 := Tryz.zeroValue200 }
theorem Builder_Extra_156 : Builder.Extra Tryz.prog lays156_ren := {
  sizeBuilder := by kernel_rfl
  liesBuilder := by kernel_rfl
  t5 := Tryz.underlying5
  a5 := Tryz.isAgg5
  z5 := Tryz.sizeOf5
  v5 := Tryz.zeroValue5
  infoByte := by kernel_rfl
  cellsByte := by kernel_rfl
  sizeByte := by kernel_rfl
  neB5 := by decide }
open Go.RowKit in
theorem strings_Join (bk o c : Nat) (xs : List ByteArray) (sep : ByteArray) (w : World) (hcells : ∀ (j : Nat) x, xs[j]? = some x → w.cell? ⟨bk, o + j, none⟩ = some (.string x)) (hbk : bk < w.heap.size) (hN : xs.length ≤ 140737488355328) (hcap : xs.length ≤ c) (hlen : (Lib.join (xs.map (·.data.toList)) sep.data.toList).length ≤ 140737488355328) :
    Calls Tryz.prog 81 #[.slice (some ⟨bk, o, none⟩) xs.length c, .string sep] w fun e w' => e = .returned (.string ⟨(Lib.join (xs.map (·.data.toList)) sep.data.toList).toArray⟩) ∧ Below w.heap.size w w' := Any.strings_Join lays156 Builder_Extra_156 bk o c xs sep w hcells hbk hN hcap hlen
def lays172_ren : Go.Shelf.Ren := ⟨fun | 172 => 95 | 244 => 125 | 245 => 126 | 247 => 162 | 279 => 163 | 280 => 164 | 281 => 165 | 282 => 166 | 287 => 208 | 316 => 209 | 171 => 88 | 205 => 210 | 321 => 259 | 322 => 278 | 243 => 119 | 246 => 156 | 283 => 183 | 284 => 184 | 285 => 185 | 286 => 186 | 129 => 195 | 317 => 198 | 318 => 218 | 319 => 219 | 320 => 220 | 337 => 285 | 338 => 286 | n => n, fun | 9 => 9 | 3 => 3 | 75 => 123 | 76 => 124 | 4 => 4 | 5 => 5 | 167 => 212 | 37 => 51 | 0 => 0 | 85 => 213 | 2 => 2 | 168 => 215 | 53 => 48 | 175 => 263 | 46 => 57 | 210 => 266 | 127 => 146 | 145 => 301 | 143 => 299 | 21 => 21 | 171 => 235 | 173 => 238 | 212 => 274 | 51 => 99 | 20 => 20 | 213 => 275 | 232 => 251 | 233 => 329 | 80 => 97 | n => n, fun | 15 => 3 | 16 => 4 | 17 => 7 | 18 => 10 | 19 => 11 | n => n⟩
theorem lays172 : Go.Proofs.Lays.n172 Tryz.prog lays172_ren := {
  mixed := by kernel_rfl
  f129 := Tryz.func195.trans (congrArg some (by kernel_rfl))
  f171 := Tryz.func88.trans (congrArg some (by kernel_rfl))
  f172 := Tryz.func95.trans (congrArg some (by kernel_rfl))
  f205 := Tryz.func210.trans (congrArg some (by kernel_rfl))
  f243 := Tryz.func119.trans (congrArg some (by kernel_rfl))
  f244 := Tryz.func125.trans (congrArg some (by kernel_rfl))
  f245 := Tryz.func126.trans (congrArg some (by kernel_rfl))
  f246 := Tryz.func156.trans (congrArg some (by kernel_rfl))
  f247 := Tryz.func162.trans (congrArg some (by kernel_rfl))
  f279 := Tryz.func163.trans (congrArg some (by kernel_rfl))
  f280 := Tryz.func164.trans (congrArg some (by kernel_rfl))
  f281 := Tryz.func165.trans (congrArg some (by kernel_rfl))
  f282 := Tryz.func166.trans (congrArg some (by kernel_rfl))
  f283 := Tryz.func183.trans (congrArg some (by kernel_rfl))
  f284 := Tryz.func184.trans (congrArg some (by kernel_rfl))
  f285 := Tryz.func185.trans (congrArg some (by kernel_rfl))
  f286 := Tryz.func186.trans (congrArg some (by kernel_rfl))
  f287 := Tryz.func208.trans (congrArg some (by kernel_rfl))
  f316 := Tryz.func209.trans (congrArg some (by kernel_rfl))
  f317 := Tryz.func198.trans (congrArg some (by kernel_rfl))
  f318 := Tryz.func218.trans (congrArg some (by kernel_rfl))
  f319 := Tryz.func219.trans (congrArg some (by kernel_rfl))
  f320 := Tryz.func220.trans (congrArg some (by kernel_rfl))
  f321 := Tryz.func259.trans (congrArg some (by kernel_rfl))
  f322 := Tryz.func278.trans (congrArg some (by kernel_rfl))
  f337 := Tryz.func285.trans (congrArg some (by kernel_rfl))
  f338 := Tryz.func286.trans (congrArg some (by kernel_rfl))
  t0 := Tryz.underlying0
  a0 := Tryz.isAgg0
  z0 := Tryz.sizeOf0
  v0 := Tryz.zeroValue0
  t2 := Tryz.underlying2
  a2 := Tryz.isAgg2
  z2 := Tryz.sizeOf2
  v2 := Tryz.zeroValue2
  t3 := Tryz.underlying3
  a3 := Tryz.isAgg3
  z3 := Tryz.sizeOf3
  v3 := Tryz.zeroValue3
  t4 := Tryz.underlying4
  a4 := Tryz.isAgg4
  z4 := Tryz.sizeOf4
  v4 := Tryz.zeroValue4
  t5 := Tryz.underlying5
  a5 := Tryz.isAgg5
  z5 := Tryz.sizeOf5
  v5 := Tryz.zeroValue5
  t9 := Tryz.underlying9
  a9 := Tryz.isAgg9
  z9 := Tryz.sizeOf9
  v9 := Tryz.zeroValue9
  t20 := Tryz.underlying20
  a20 := Tryz.isAgg20
  z20 := Tryz.sizeOf20
  v20 := Tryz.zeroValue20
  t21 := Tryz.underlying21
  a21 := Tryz.isAgg21
  z21 := Tryz.sizeOf21
  v21 := Tryz.zeroValue21
  t37 := Tryz.underlying51
  a37 := Tryz.isAgg51
  z37 := Tryz.sizeOf51
  v37 := Tryz.zeroValue51
  t46 := Tryz.underlying57
  a46 := Tryz.isAgg57
  z46 := Tryz.sizeOf57
  v46 := Tryz.zeroValue57
  t51 := Tryz.underlying99
  a51 := Tryz.isAgg99
  z51 := Tryz.sizeOf99
  v51 := Tryz.zeroValue99
  t53 := Tryz.underlying48
  a53 := Tryz.isAgg48
  z53 := Tryz.sizeOf48
  v53 := Tryz.zeroValue48
  t75 := Tryz.underlying123
  a75 := Tryz.isAgg123
  z75 := Tryz.sizeOf123
  v75 := Tryz.zeroValue123
  t76 := Tryz.underlying124
  a76 := Tryz.isAgg124
  z76 := Tryz.sizeOf124
  v76 := Tryz.zeroValue124
  t85 := Tryz.underlying213
  a85 := Tryz.isAgg213
  z85 := Tryz.sizeOf213
  v85 := Tryz.zeroValue213
  t127 := Tryz.underlying146
  a127 := Tryz.isAgg146
  z127 := Tryz.sizeOf146
  v127 := Tryz.zeroValue146
  t143 := Tryz.underlying299
  a143 := Tryz.isAgg299
  z143 := Tryz.sizeOf299
  v143 := Tryz.zeroValue299
  t145 := Tryz.underlying301
  a145 := Tryz.isAgg301
  z145 := Tryz.sizeOf301
  v145 := Tryz.zeroValue301
  t167 := Tryz.underlying212
  a167 := Tryz.isAgg212
  z167 := Tryz.sizeOf212
  v167 := Tryz.zeroValue212
  t168 := Tryz.underlying215
  a168 := Tryz.isAgg215
  z168 := Tryz.sizeOf215
  v168 := Tryz.zeroValue215
  t171 := Tryz.underlying235
  a171 := Tryz.isAgg235
  z171 := Tryz.sizeOf235
  v171 := Tryz.zeroValue235
  t173 := Tryz.underlying238
  a173 := Tryz.isAgg238
  z173 := Tryz.sizeOf238
  v173 := Tryz.zeroValue238
  t175 := Tryz.underlying263
  a175 := Tryz.isAgg263
  z175 := Tryz.sizeOf263
  v175 := Tryz.zeroValue263
  t210 := Tryz.underlying266
  a210 := Tryz.isAgg266
  z210 := Tryz.sizeOf266
  v210 := Tryz.zeroValue266
  t212 := Tryz.underlying274
  a212 := Tryz.isAgg274
  z212 := Tryz.sizeOf274
  v212 := Tryz.zeroValue274
  t213 := Tryz.underlying275
  a213 := Tryz.isAgg275
  z213 := Tryz.sizeOf275
  t232 := Tryz.underlying251
  a232 := Tryz.isAgg251
  z232 := Tryz.sizeOf251
  v232 := Tryz.zeroValue251
  t233 := Tryz.underlying329
  a233 := Tryz.isAgg329
  z233 := Tryz.sizeOf329
  v233 := Tryz.zeroValue329
  g15 := by kernel_rfl
  g16 := by kernel_rfl
  g17 := by kernel_rfl
  g18 := by kernel_rfl
  g19 := by kernel_rfl }
open Go.RowKit in
theorem strconv_Atoi (s : ByteArray) (n : Int) (hl : s.size ≤ 18) (h : Lib.atoi s.data.toList = some n) (w : World) :
    Calls Tryz.prog 95 #[.string s] w fun e w' => e = .returned (.tuple #[.int .i64 n, .nilIface]) ∧ ∃ t, w' = Lib.bytesWorld w 5 t := Any.strconv_Atoi lays172 s n hl h w
def lays129_ren : Go.Shelf.Ren := ⟨fun | 129 => 195 | n => n, fun | 53 => 48 | 3 => 3 | 4 => 4 | 46 => 57 | 5 => 5 | 9 => 9 | n => n, fun | n => n⟩
theorem lays129 : Go.Proofs.Lays.n129 Tryz.prog lays129_ren := {
  mixed := by kernel_rfl
  f129 := Tryz.func195.trans (congrArg some (by kernel_rfl))
  t3 := Tryz.underlying3
  a3 := Tryz.isAgg3
  z3 := Tryz.sizeOf3
  v3 := Tryz.zeroValue3
  t4 := Tryz.underlying4
  a4 := Tryz.isAgg4
  z4 := Tryz.sizeOf4
  v4 := Tryz.zeroValue4
  t5 := Tryz.underlying5
  a5 := Tryz.isAgg5
  z5 := Tryz.sizeOf5
  v5 := Tryz.zeroValue5
  t9 := Tryz.underlying9
  a9 := Tryz.isAgg9
  z9 := Tryz.sizeOf9
  v9 := Tryz.zeroValue9
  t46 := Tryz.underlying57
  a46 := Tryz.isAgg57
  z46 := Tryz.sizeOf57
  v46 := Tryz.zeroValue57
  t53 := Tryz.underlying48
  a53 := Tryz.isAgg48
  z53 := Tryz.sizeOf48
  v53 := Tryz.zeroValue48 }
theorem bits_Len64 (x : Int) (w : World) (h0 : 0 ≤ x) (h1 : x ≤ 18446744073709551615) :
    Calls Tryz.prog 195 #[.int .u64 x] w fun e w' => e = .returned (.int .i64 (Lib.bitLen x.toNat)) ∧ w' = w := Any.bits_Len64 lays129 x w h0 h1
def laysM284_ren : Go.Shelf.Ren := ⟨fun | 284 => 184 | 129 => 195 | 317 => 198 | 318 => 218 | n => n, fun | 53 => 48 | 3 => 3 | 212 => 274 | 0 => 0 | 4 => 4 | 46 => 57 | 5 => 5 | 9 => 9 | n => n, fun | 17 => 7 | n => n⟩
theorem laysM284 : Go.Proofs.LaysM.n284 Tryz.prog laysM284_ren := {
  mixed := by kernel_rfl
  f129 := Tryz.func195.trans (congrArg some (by kernel_rfl))
  f284 := Tryz.func184.trans (congrArg some (by kernel_rfl))
  f317 := Tryz.func198.trans (congrArg some (by kernel_rfl))
  f318 := Tryz.func218.trans (congrArg some (by kernel_rfl))
  t0 := Tryz.underlying0
  a0 := Tryz.isAgg0
  z0 := Tryz.sizeOf0
  v0 := Tryz.zeroValue0
  t3 := Tryz.underlying3
  a3 := Tryz.isAgg3
  z3 := Tryz.sizeOf3
  v3 := Tryz.zeroValue3
  t4 := Tryz.underlying4
  a4 := Tryz.isAgg4
  z4 := Tryz.sizeOf4
  v4 := Tryz.zeroValue4
  t5 := Tryz.underlying5
  a5 := Tryz.isAgg5
  z5 := Tryz.sizeOf5
  v5 := Tryz.zeroValue5
  t9 := Tryz.underlying9
  a9 := Tryz.isAgg9
  z9 := Tryz.sizeOf9
  v9 := Tryz.zeroValue9
  t46 := Tryz.underlying57
  a46 := Tryz.isAgg57
  z46 := Tryz.sizeOf57
  v46 := Tryz.zeroValue57
  t53 := Tryz.underlying48
  a53 := Tryz.isAgg48
  z53 := Tryz.sizeOf48
  v53 := Tryz.zeroValue48
  t212 := Tryz.underlying274
  a212 := Tryz.isAgg274
  z212 := Tryz.sizeOf274
  v212 := Tryz.zeroValue274
  g17 := by kernel_rfl
  i0 := by kernel_rfl
  i3 := by kernel_rfl
  i4 := by kernel_rfl
  i5 := by kernel_rfl
  i9 := by kernel_rfl
  i46 := by kernel_rfl
  i53 := by kernel_rfl
  i212 := by kernel_rfl
  m17 := by kernel_rfl }
open Go.Lib in
theorem internal_strconv_numDigits (u : Nat) (h1 : 1 ≤ u) (h2 : u < 18446744073709551616) (w : World) (htab : Lib.TabIs Tryz.prog w "internal/strconv.uint64pow10" .u64 Lib.pow10Tab) :
    Calls Tryz.prog 184 #[.int .u64 u] w fun e w' => e = .returned (.int .i64 (Lib.nDigits u)) ∧ w' = w := Any.internal_strconv_numDigits laysM284 u h1 h2 w htab
def lays285_ren : Go.Shelf.Ren := ⟨fun | 285 => 185 | n => n, fun | 37 => 51 | 53 => 48 | 3 => 3 | 4 => 4 | 51 => 99 | 9 => 9 | 5 => 5 | 0 => 0 | n => n, fun | n => n⟩
theorem lays285 : Go.Proofs.Lays.n285 Tryz.prog lays285_ren := {
  mixed := by kernel_rfl
  f285 := Tryz.func185.trans (congrArg some (by kernel_rfl))
  t0 := Tryz.underlying0
  a0 := Tryz.isAgg0
  z0 := Tryz.sizeOf0
  v0 := Tryz.zeroValue0
  t3 := Tryz.underlying3
  a3 := Tryz.isAgg3
  z3 := Tryz.sizeOf3
  v3 := Tryz.zeroValue3
  t4 := Tryz.underlying4
  a4 := Tryz.isAgg4
  z4 := Tryz.sizeOf4
  v4 := Tryz.zeroValue4
  t5 := Tryz.underlying5
  a5 := Tryz.isAgg5
  z5 := Tryz.sizeOf5
  v5 := Tryz.zeroValue5
  t9 := Tryz.underlying9
  a9 := Tryz.isAgg9
  z9 := Tryz.sizeOf9
  v9 := Tryz.zeroValue9
  t37 := Tryz.underlying51
  a37 := Tryz.isAgg51
  z37 := Tryz.sizeOf51
  v37 := Tryz.zeroValue51
  t51 := Tryz.underlying99
  a51 := Tryz.isAgg99
  z51 := Tryz.sizeOf99
  v51 := Tryz.zeroValue99
  t53 := Tryz.underlying48
  a53 := Tryz.isAgg48
  z53 := Tryz.sizeOf48
  v53 := Tryz.zeroValue48 }
open Go.RowKit Go.Sort Go.Lib in
theorem internal_strconv_formatBase10 (blk off cap : Nat) (u : Nat) (d : Array UInt8) (w : World) (hH : Holds (fun (b : UInt8) => Value.int .u8 (b.toNat : Int)) w blk off d) (hu : u < 10 ^ d.size) (hu64 : u < 18446744073709551616) (hsz : d.size < 4611686018427387904) :
    Calls Tryz.prog 185 #[.slice (some ⟨blk, off, none⟩) d.size cap, .int .u64 u] w fun e w' =>
      e = .returned (.tuple #[]) ∧ ∃ (n v' : Nat) (dk : Array UInt8), w' = (putRow (fun (b : UInt8) => Value.int .u8 (b.toNat : Int)) w blk off dk).drewN n ∧ FmtInv d.size u 0 v' dk := Any.internal_strconv_formatBase10 lays285 blk off cap u d w hH hu hu64 hsz
def laysM171_ren : Go.Shelf.Ren := ⟨fun | 171 => 88 | 243 => 119 | 246 => 156 | 283 => 183 | 284 => 184 | 285 => 185 | 286 => 186 | 129 => 195 | 317 => 198 | 318 => 218 | 319 => 219 | 320 => 220 | 337 => 285 | 338 => 286 | n => n, fun | 3 => 3 | 9 => 9 | 2 => 2 | 4 => 4 | 171 => 235 | 0 => 0 | 53 => 48 | 37 => 51 | 5 => 5 | 173 => 238 | 212 => 274 | 51 => 99 | 20 => 20 | 213 => 275 | 46 => 57 | 232 => 251 | 233 => 329 | n => n, fun | 17 => 7 | 18 => 10 | 19 => 11 | n => n⟩
theorem laysM171 : Go.Proofs.LaysM.n171 Tryz.prog laysM171_ren := {
  mixed := by kernel_rfl
  f129 := Tryz.func195.trans (congrArg some (by kernel_rfl))
  f171 := Tryz.func88.trans (congrArg some (by kernel_rfl))
  f243 := Tryz.func119.trans (congrArg some (by kernel_rfl))
  f246 := Tryz.func156.trans (congrArg some (by kernel_rfl))
  f283 := Tryz.func183.trans (congrArg some (by kernel_rfl))
  f284 := Tryz.func184.trans (congrArg some (by kernel_rfl))
  f285 := Tryz.func185.trans (congrArg some (by kernel_rfl))
  f286 := Tryz.func186.trans (congrArg some (by kernel_rfl))
  f317 := Tryz.func198.trans (congrArg some (by kernel_rfl))
  f318 := Tryz.func218.trans (congrArg some (by kernel_rfl))
  f319 := Tryz.func219.trans (congrArg some (by kernel_rfl))
  f320 := Tryz.func220.trans (congrArg some (by kernel_rfl))
  f337 := Tryz.func285.trans (congrArg some (by kernel_rfl))
  f338 := Tryz.func286.trans (congrArg some (by kernel_rfl))
  t0 := Tryz.underlying0
  a0 := Tryz.isAgg0
  z0 := Tryz.sizeOf0
  v0 := Tryz.zeroValue0
  t2 := Tryz.underlying2
  a2 := Tryz.isAgg2
  z2 := Tryz.sizeOf2
  v2 := Tryz.zeroValue2
  t3 := Tryz.underlying3
  a3 := Tryz.isAgg3
  z3 := Tryz.sizeOf3
  v3 := Tryz.zeroValue3
  t4 := Tryz.underlying4
  a4 := Tryz.isAgg4
  z4 := Tryz.sizeOf4
  v4 := Tryz.zeroValue4
  t5 := Tryz.underlying5
  a5 := Tryz.isAgg5
  z5 := Tryz.sizeOf5
  v5 := Tryz.zeroValue5
  t9 := Tryz.underlying9
  a9 := Tryz.isAgg9
  z9 := Tryz.sizeOf9
  v9 := Tryz.zeroValue9
  t20 := Tryz.underlying20
  a20 := Tryz.isAgg20
  z20 := Tryz.sizeOf20
  v20 := Tryz.zeroValue20
  t37 := Tryz.underlying51
  a37 := Tryz.isAgg51
  z37 := Tryz.sizeOf51
  v37 := Tryz.zeroValue51
  t46 := Tryz.underlying57
  a46 := Tryz.isAgg57
  z46 := Tryz.sizeOf57
  v46 := Tryz.zeroValue57
  t51 := Tryz.underlying99
  a51 := Tryz.isAgg99
  z51 := Tryz.sizeOf99
  v51 := Tryz.zeroValue99
  t53 := Tryz.underlying48
  a53 := Tryz.isAgg48
  z53 := Tryz.sizeOf48
  v53 := Tryz.zeroValue48
  t171 := Tryz.underlying235
  a171 := Tryz.isAgg235
  z171 := Tryz.sizeOf235
  v171 := Tryz.zeroValue235
  t173 := Tryz.underlying238
  a173 := Tryz.isAgg238
  z173 := Tryz.sizeOf238
  v173 := Tryz.zeroValue238
  t212 := Tryz.underlying274
  a212 := Tryz.isAgg274
  z212 := Tryz.sizeOf274
  v212 := Tryz.zeroValue274
  t213 := Tryz.underlying275
  a213 := Tryz.isAgg275
  z213 := Tryz.sizeOf275
  t232 := Tryz.underlying251
  a232 := Tryz.isAgg251
  z232 := Tryz.sizeOf251
  v232 := Tryz.zeroValue251
  t233 := Tryz.underlying329
  a233 := Tryz.isAgg329
  z233 := Tryz.sizeOf329
  v233 := Tryz.zeroValue329
  g17 := by kernel_rfl
  g18 := by kernel_rfl
  g19 := by kernel_rfl
  i0 := by kernel_rfl
  i2 := by kernel_rfl
  i3 := by kernel_rfl
  i4 := by kernel_rfl
  i5 := by kernel_rfl
  i9 := by kernel_rfl
  i20 := by kernel_rfl
  i37 := by kernel_rfl
  i46 := by kernel_rfl
  i51 := by kernel_rfl
  i53 := by kernel_rfl
  i171 := by kernel_rfl
  i173 := by kernel_rfl
  i212 := by kernel_rfl
  i232 := by kernel_rfl
  i233 := by kernel_rfl
  m17 := by kernel_rfl
  m18 := by kernel_rfl
  m19 := by kernel_rfl }
open Go.RowKit Go.Sort Go.Lib in
theorem strconv_Itoa (n : Int) (h0 : -9223372036854775808 ≤ n) (h1 : n ≤ 9223372036854775807) (w : World) (htab : Lib.TabIs Tryz.prog w "internal/strconv.uint64pow10" .u64 Lib.pow10Tab) :
    Calls Tryz.prog 88 #[.int .i64 n] w fun e w' => e = .returned (.string ⟨(Lib.itoa n).toArray⟩) ∧ ∃ k os, w' = grow (w.drewN k) os := Any.strconv_Itoa laysM171 n h0 h1 w htab
def lays171_ren : Go.Shelf.Ren := ⟨fun | 171 => 88 | 243 => 119 | 246 => 156 | 283 => 183 | 284 => 184 | 285 => 185 | 286 => 186 | 129 => 195 | 317 => 198 | 318 => 218 | 319 => 219 | 320 => 220 | 337 => 285 | 338 => 286 | n => n, fun | 3 => 3 | 9 => 9 | 2 => 2 | 4 => 4 | 171 => 235 | 0 => 0 | 53 => 48 | 37 => 51 | 5 => 5 | 173 => 238 | 212 => 274 | 51 => 99 | 20 => 20 | 213 => 275 | 46 => 57 | 232 => 251 | 233 => 329 | n => n, fun | 17 => 7 | 18 => 10 | 19 => 11 | n => n⟩
theorem lays171 : Go.Proofs.Lays.n171 Tryz.prog lays171_ren := {
  mixed := by kernel_rfl
  f129 := Tryz.func195.trans (congrArg some (by kernel_rfl))
  f171 := Tryz.func88.trans (congrArg some (by kernel_rfl))
  f243 := Tryz.func119.trans (congrArg some (by kernel_rfl))
  f246 := Tryz.func156.trans (congrArg some (by kernel_rfl))
  f283 := Tryz.func183.trans (congrArg some (by kernel_rfl))
  f284 := Tryz.func184.trans (congrArg some (by kernel_rfl))
  f285 := Tryz.func185.trans (congrArg some (by kernel_rfl))
  f286 := Tryz.func186.trans (congrArg some (by kernel_rfl))
  f317 := Tryz.func198.trans (congrArg some (by kernel_rfl))
  f318 := Tryz.func218.trans (congrArg some (by kernel_rfl))
  f319 := Tryz.func219.trans (congrArg some (by kernel_rfl))
  f320 := Tryz.func220.trans (congrArg some (by kernel_rfl))
  f337 := Tryz.func285.trans (congrArg some (by kernel_rfl))
  f338 := Tryz.func286.trans (congrArg some (by kernel_rfl))
  t0 := Tryz.underlying0
  a0 := Tryz.isAgg0
  z0 := Tryz.sizeOf0
  v0 := Tryz.zeroValue0
  t2 := Tryz.underlying2
  a2 := Tryz.isAgg2
  z2 := Tryz.sizeOf2
  v2 := Tryz.zeroValue2
  t3 := Tryz.underlying3
  a3 := Tryz.isAgg3
  z3 := Tryz.sizeOf3
  v3 := Tryz.zeroValue3
  t4 := Tryz.underlying4
  a4 := Tryz.isAgg4
  z4 := Tryz.sizeOf4
  v4 := Tryz.zeroValue4
  t5 := Tryz.underlying5
  a5 := Tryz.isAgg5
  z5 := Tryz.sizeOf5
  v5 := Tryz.zeroValue5
  t9 := Tryz.underlying9
  a9 := Tryz.isAgg9
  z9 := Tryz.sizeOf9
  v9 := Tryz.zeroValue9
  t20 := Tryz.underlying20
  a20 := Tryz.isAgg20
  z20 := Tryz.sizeOf20
  v20 := Tryz.zeroValue20
  t37 := Tryz.underlying51
  a37 := Tryz.isAgg51
  z37 := Tryz.sizeOf51
  v37 := Tryz.zeroValue51
  t46 := Tryz.underlying57
  a46 := Tryz.isAgg57
  z46 := Tryz.sizeOf57
  v46 := Tryz.zeroValue57
  t51 := Tryz.underlying99
  a51 := Tryz.isAgg99
  z51 := Tryz.sizeOf99
  v51 := Tryz.zeroValue99
  t53 := Tryz.underlying48
  a53 := Tryz.isAgg48
  z53 := Tryz.sizeOf48
  v53 := Tryz.zeroValue48
  t171 := Tryz.underlying235
  a171 := Tryz.isAgg235
  z171 := Tryz.sizeOf235
  v171 := Tryz.zeroValue235
  t173 := Tryz.underlying238
  a173 := Tryz.isAgg238
  z173 := Tryz.sizeOf238
  v173 := Tryz.zeroValue238
  t212 := Tryz.underlying274
  a212 := Tryz.isAgg274
  z212 := Tryz.sizeOf274
  v212 := Tryz.zeroValue274
  t213 := Tryz.underlying275
  a213 := Tryz.isAgg275
  z213 := Tryz.sizeOf275
  t232 := Tryz.underlying251
  a232 := Tryz.isAgg251
  z232 := Tryz.sizeOf251
  v232 := Tryz.zeroValue251
  t233 := Tryz.underlying329
  a233 := Tryz.isAgg329
  z233 := Tryz.sizeOf329
  v233 := Tryz.zeroValue329
  g17 := by kernel_rfl
  g18 := by kernel_rfl
  g19 := by kernel_rfl }
open Go.RowKit Go.Sort Go.Lib in
theorem strconv_Itoa_small (i : Nat) (hi : i < 100) (w : World) :
    Calls Tryz.prog 88 #[.int .i64 i] w fun e w' => e = .returned (.string ⟨(Lib.decDigits i).toArray⟩) ∧ w' = w := Any.strconv_Itoa_small lays171 i hi w
def lays145_ren : Go.Shelf.Ren := ⟨fun | 145 => 94 | 220 => 124 | 219 => 161 | 217 => 204 | 225 => 205 | 224 => 206 | 267 => 207 | 266 => 276 | 314 => 277 | n => n, fun | 9 => 9 | 4 => 4 | 59 => 150 | 3 => 3 | 5 => 5 | 46 => 57 | 146 => 219 | 51 => 99 | n => n, fun | 1 => 2 | n => n⟩
theorem lays145 : Go.Proofs.Lays.n145 Tryz.prog lays145_ren := {
  mixed := by kernel_rfl
  f145 := Tryz.func94.trans (congrArg some (by kernel_rfl))
  f217 := Tryz.func204.trans (congrArg some (by kernel_rfl))
  f219 := Tryz.func161.trans (congrArg some (by kernel_rfl))
  f220 := Tryz.func124.trans (congrArg some (by kernel_rfl))
  f224 := Tryz.func206.trans (congrArg some (by kernel_rfl))
  f225 := Tryz.func205.trans (congrArg some (by kernel_rfl))
  f266 := Tryz.func276.trans (congrArg some (by kernel_rfl))
  f267 := Tryz.func207.trans (congrArg some (by kernel_rfl))
  f314 := Tryz.func277.trans (congrArg some (by kernel_rfl))
  t3 := Tryz.underlying3
  a3 := Tryz.isAgg3
  z3 := Tryz.sizeOf3
  v3 := Tryz.zeroValue3
  t4 := Tryz.underlying4
  a4 := Tryz.isAgg4
  z4 := Tryz.sizeOf4
  v4 := Tryz.zeroValue4
  t5 := Tryz.underlying5
  a5 := Tryz.isAgg5
  z5 := Tryz.sizeOf5
  v5 := Tryz.zeroValue5
  t9 := Tryz.underlying9
  a9 := Tryz.isAgg9
  z9 := Tryz.sizeOf9
  v9 := Tryz.zeroValue9
  t46 := Tryz.underlying57
  a46 := Tryz.isAgg57
  z46 := Tryz.sizeOf57
  v46 := Tryz.zeroValue57
  t51 := Tryz.underlying99
  a51 := Tryz.isAgg99
  z51 := Tryz.sizeOf99
  v51 := Tryz.zeroValue99
  t59 := Tryz.underlying150
  a59 := Tryz.isAgg150
  z59 := Tryz.sizeOf150
  v59 := Tryz.zeroValue150
  t146 := Tryz.underlying219
  a146 := Tryz.isAgg219
  z146 := Tryz.sizeOf219
  v146 := Tryz.zeroValue219
  g1 := by kernel_rfl }
open Go.RowKit Go.Lib in
theorem strings_Cut (s sep : ByteArray) (m : Int) (w : World) (hs : s.size < 4294967281) (hm : w.cell? ⟨2, 0, none⟩ = some (.int .i64 m)) :
    Calls Tryz.prog 94 #[.string s, .string sep] w fun e w' => e = .returned (.tuple #[.string ⟨(Lib.cut s.data.toList sep.data.toList).1.toArray⟩, .string ⟨(Lib.cut s.data.toList sep.data.toList).2.1.toArray⟩, .bool (Lib.cut s.data.toList sep.data.toList).2.2]) ∧ ∃ n, w' = w.drewN n := Any.strings_Cut lays145 s sep m w hs hm
def lays154_ren : Go.Shelf.Ren := ⟨fun | 154 => 96 | 138 => 127 | 165 => 117 | 143 => 128 | 166 => 80 | 197 => 129 | 169 => 55 | 195 => 167 | 218 => 168 | 240 => 116 | 241 => 154 | 219 => 161 | 260 => 169 | 276 => 153 | 277 => 182 | 217 => 204 | 225 => 205 | 224 => 206 | 267 => 207 | 266 => 276 | 314 => 277 | n => n, fun | 9 => 9 | 3 => 3 | 4 => 4 | 72 => 82 | 0 => 0 | 76 => 124 | 105 => 176 | 21 => 21 | 5 => 5 | 70 => 80 | 20 => 20 | 37 => 51 | 75 => 123 | 127 => 146 | 164 => 200 | 46 => 57 | 119 => 268 | 139 => 271 | 138 => 270 | 146 => 219 | 51 => 99 | 80 => 97 | n => n, fun | 1 => 2 | 3 => 5 | 4 => 6 | n => n⟩
theorem lays154 : Go.Proofs.Lays.n154 Tryz.prog lays154_ren := {
  mixed := by kernel_rfl
  f138 := Tryz.func127.trans (congrArg some (by kernel_rfl))
  f143 := Tryz.func128.trans (congrArg some (by kernel_rfl))
  f154 := Tryz.func96.trans (congrArg some (by kernel_rfl))
  f165 := Tryz.func117.trans (congrArg some (by kernel_rfl))
  f166 := Tryz.func80.trans (congrArg some (by kernel_rfl))
  f169 := Tryz.func55.trans (congrArg some (by kernel_rfl))
  f195 := Tryz.func167.trans (congrArg some (by kernel_rfl))
  f197 := Tryz.func129.trans (congrArg some (by kernel_rfl))
  f217 := Tryz.func204.trans (congrArg some (by kernel_rfl))
  f218 := Tryz.func168.trans (congrArg some (by kernel_rfl))
  f219 := Tryz.func161.trans (congrArg some (by kernel_rfl))
  f224 := Tryz.func206.trans (congrArg some (by kernel_rfl))
  f225 := Tryz.func205.trans (congrArg some (by kernel_rfl))
  f240 := Tryz.func116.trans (congrArg some (by kernel_rfl))
  f241 := Tryz.func154.trans (congrArg some (by kernel_rfl))
  f260 := Tryz.func169.trans (congrArg some (by kernel_rfl))
  f266 := Tryz.func276.trans (congrArg some (by kernel_rfl))
  f267 := Tryz.func207.trans (congrArg some (by kernel_rfl))
  f276 := Tryz.func153.trans (congrArg some (by kernel_rfl))
  f277 := Tryz.func182.trans (congrArg some (by kernel_rfl))
  f314 := Tryz.func277.trans (congrArg some (by kernel_rfl))
  t0 := Tryz.underlying0
  a0 := Tryz.isAgg0
  z0 := Tryz.sizeOf0
  v0 := Tryz.zeroValue0
  t3 := Tryz.underlying3
  a3 := Tryz.isAgg3
  z3 := Tryz.sizeOf3
  v3 := Tryz.zeroValue3
  t4 := Tryz.underlying4
  a4 := Tryz.isAgg4
  z4 := Tryz.sizeOf4
  v4 := Tryz.zeroValue4
  t5 := Tryz.underlying5
  a5 := Tryz.isAgg5
  z5 := Tryz.sizeOf5
  v5 := Tryz.zeroValue5
  t9 := Tryz.underlying9
  a9 := Tryz.isAgg9
  z9 := Tryz.sizeOf9
  v9 := Tryz.zeroValue9
  t20 := Tryz.underlying20
  a20 := Tryz.isAgg20
  z20 := Tryz.sizeOf20
  v20 := Tryz.zeroValue20
  t21 := Tryz.underlying21
  a21 := Tryz.isAgg21
  z21 := Tryz.sizeOf21
  v21 := Tryz.zeroValue21
  t37 := Tryz.underlying51
  a37 := Tryz.isAgg51
  z37 := Tryz.sizeOf51
  v37 := Tryz.zeroValue51
  t46 := Tryz.underlying57
  a46 := Tryz.isAgg57
  z46 := Tryz.sizeOf57
  v46 := Tryz.zeroValue57
  t51 := Tryz.underlying99
  a51 := Tryz.isAgg99
  z51 := Tryz.sizeOf99
  v51 := Tryz.zeroValue99
  t70 := Tryz.underlying80
  a70 := Tryz.isAgg80
  z70 := Tryz.sizeOf80
  v70 := Tryz.zeroValue80
  t72 := Tryz.underlying82
  a72 := Tryz.isAgg82
  z72 := Tryz.sizeOf82
  v72 := Tryz.zeroValue82
  t75 := Tryz.underlying123
  a75 := Tryz.isAgg123
  z75 := Tryz.sizeOf123
  v75 := Tryz.zeroValue123
  t76 := Tryz.underlying124
  a76 := Tryz.isAgg124
  z76 := Tryz.sizeOf124
  v76 := Tryz.zeroValue124
  t105 := Tryz.underlying176
  a105 := Tryz.isAgg176
  z105 := Tryz.sizeOf176
  v105 := Tryz.zeroValue176
  t119 := Tryz.underlying268
  a119 := Tryz.isAgg268
  z119 := Tryz.sizeOf268
  t127 := Tryz.underlying146
  a127 := Tryz.isAgg146
  z127 := Tryz.sizeOf146
  v127 := Tryz.zeroValue146
  t138 := Tryz.underlying270
  a138 := Tryz.isAgg270
  z138 := Tryz.sizeOf270
  v138 := Tryz.zeroValue270
  t139 := Tryz.underlying271
  a139 := Tryz.isAgg271
  z139 := Tryz.sizeOf271
  v139 := Tryz.zeroValue271
  t146 := Tryz.underlying219
  a146 := Tryz.isAgg219
  z146 := Tryz.sizeOf219
  v146 := Tryz.zeroValue219
  t164 := Tryz.underlying200
  a164 := Tryz.isAgg200
  z164 := Tryz.sizeOf200
  v164 := Tryz.zeroValue200
  g1 := by kernel_rfl
  g3 := by kernel_rfl
  g4 := by kernel_rfl }
theorem Builder_Extra_154 : Builder.Extra Tryz.prog lays154_ren := {
  sizeBuilder := by kernel_rfl
  liesBuilder := by kernel_rfl
  t5 := Tryz.underlying5
  a5 := Tryz.isAgg5
  z5 := Tryz.sizeOf5
  v5 := Tryz.zeroValue5
  infoByte := by kernel_rfl
  cellsByte := by kernel_rfl
  sizeByte := by kernel_rfl
  neB5 := by decide }
open Go.RowKit Go.Lib in
theorem strings_Replace (s old new : ByteArray) (n : Int) (m : Int) (w : World) (hs : s.size < 4294967281) (hm : w.cell? ⟨2, 0, none⟩ = some (.int .i64 m)) (h1 : 1 ≤ old.size) (hlen : s.size + Lib.countB s old * new.size ≤ 140737488355328) :
    Calls Tryz.prog 96 #[.string s, .string old, .string new, .int .i64 n] w fun e w' =>
      e = .returned (.string ⟨(Lib.replace s.data.toList old.data.toList new.data.toList n).toArray⟩) ∧ Below w.heap.size w w' := Any.strings_Replace lays154 Builder_Extra_154 s old new n m w hs hm h1 hlen
def lays264_ren : Go.Shelf.Ren := ⟨fun | 264 => 171 | n => n, fun | 53 => 48 | 46 => 57 | n => n, fun | n => n⟩
theorem lays264 : Go.Proofs.Lays.n264 Tryz.prog lays264_ren := {
  mixed := by kernel_rfl
  f264 := Tryz.func171.trans (congrArg some (by kernel_rfl))
  t46 := Tryz.underlying57
  a46 := Tryz.isAgg57
  z46 := Tryz.sizeOf57
  v46 := Tryz.zeroValue57
  t53 := Tryz.underlying48
  a53 := Tryz.isAgg48
  z53 := Tryz.sizeOf48
  v53 := Tryz.zeroValue48 }
open Go.RowKit Go.Lib in
theorem bits_Mul64 (x y : Nat) (hx : x < 18446744073709551616) (hy : y < 18446744073709551616) (w : World) :
    Calls Tryz.prog 171 #[.int .u64 x, .int .u64 y] w fun e w' => e = .returned (.tuple #[.int .u64 ((x * y / 18446744073709551616 : Nat) : Int), .int .u64 ((x * y % 18446744073709551616 : Nat) : Int)]) ∧ w' = w := Any.bits_Mul64 lays264 x y hx hy w
def lays105_ren : Go.Shelf.Ren := ⟨fun | 105 => 97 | 212 => 130 | 99 => 131 | 165 => 117 | 166 => 80 | 170 => 132 | 169 => 55 | 263 => 170 | 264 => 171 | 206 => 172 | 240 => 116 | 241 => 154 | 276 => 153 | 277 => 182 | n => n, fun | 9 => 9 | 3 => 3 | 4 => 4 | 20 => 20 | 0 => 0 | 46 => 57 | 109 => 178 | 5 => 5 | 72 => 82 | 76 => 124 | 51 => 99 | 146 => 219 | 53 => 48 | 148 => 221 | 70 => 80 | 37 => 51 | 75 => 123 | 127 => 146 | 164 => 200 | 80 => 97 | n => n, fun | n => n⟩
theorem lays105 : Go.Proofs.Lays.n105 Tryz.prog lays105_ren := {
  mixed := by kernel_rfl
  f99 := Tryz.func131.trans (congrArg some (by kernel_rfl))
  f105 := Tryz.func97.trans (congrArg some (by kernel_rfl))
  f165 := Tryz.func117.trans (congrArg some (by kernel_rfl))
  f166 := Tryz.func80.trans (congrArg some (by kernel_rfl))
  f169 := Tryz.func55.trans (congrArg some (by kernel_rfl))
  f170 := Tryz.func132.trans (congrArg some (by kernel_rfl))
  f206 := Tryz.func172.trans (congrArg some (by kernel_rfl))
  f212 := Tryz.func130.trans (congrArg some (by kernel_rfl))
  f240 := Tryz.func116.trans (congrArg some (by kernel_rfl))
  f241 := Tryz.func154.trans (congrArg some (by kernel_rfl))
  f263 := Tryz.func170.trans (congrArg some (by kernel_rfl))
  f264 := Tryz.func171.trans (congrArg some (by kernel_rfl))
  f276 := Tryz.func153.trans (congrArg some (by kernel_rfl))
  f277 := Tryz.func182.trans (congrArg some (by kernel_rfl))
  t0 := Tryz.underlying0
  a0 := Tryz.isAgg0
  z0 := Tryz.sizeOf0
  v0 := Tryz.zeroValue0
  t3 := Tryz.underlying3
  a3 := Tryz.isAgg3
  z3 := Tryz.sizeOf3
  v3 := Tryz.zeroValue3
  t4 := Tryz.underlying4
  a4 := Tryz.isAgg4
  z4 := Tryz.sizeOf4
  v4 := Tryz.zeroValue4
  t5 := Tryz.underlying5
  a5 := Tryz.isAgg5
  z5 := Tryz.sizeOf5
  v5 := Tryz.zeroValue5
  t9 := Tryz.underlying9
  a9 := Tryz.isAgg9
  z9 := Tryz.sizeOf9
  v9 := Tryz.zeroValue9
  t20 := Tryz.underlying20
  a20 := Tryz.isAgg20
  z20 := Tryz.sizeOf20
  v20 := Tryz.zeroValue20
  t37 := Tryz.underlying51
  a37 := Tryz.isAgg51
  z37 := Tryz.sizeOf51
  v37 := Tryz.zeroValue51
  t46 := Tryz.underlying57
  a46 := Tryz.isAgg57
  z46 := Tryz.sizeOf57
  v46 := Tryz.zeroValue57
  t51 := Tryz.underlying99
  a51 := Tryz.isAgg99
  z51 := Tryz.sizeOf99
  v51 := Tryz.zeroValue99
  t53 := Tryz.underlying48
  a53 := Tryz.isAgg48
  z53 := Tryz.sizeOf48
  v53 := Tryz.zeroValue48
  t70 := Tryz.underlying80
  a70 := Tryz.isAgg80
  z70 := Tryz.sizeOf80
  v70 := Tryz.zeroValue80
  t72 := Tryz.underlying82
  a72 := Tryz.isAgg82
  z72 := Tryz.sizeOf82
  v72 := Tryz.zeroValue82
  t75 := Tryz.underlying123
  a75 := Tryz.isAgg123
  z75 := Tryz.sizeOf123
  v75 := Tryz.zeroValue123
  t76 := Tryz.underlying124
  a76 := Tryz.isAgg124
  z76 := Tryz.sizeOf124
  v76 := Tryz.zeroValue124
  t109 := Tryz.underlying178
  a109 := Tryz.isAgg178
  z109 := Tryz.sizeOf178
  v109 := Tryz.zeroValue178
  t127 := Tryz.underlying146
  a127 := Tryz.isAgg146
  z127 := Tryz.sizeOf146
  v127 := Tryz.zeroValue146
  t146 := Tryz.underlying219
  a146 := Tryz.isAgg219
  z146 := Tryz.sizeOf219
  v146 := Tryz.zeroValue219
  t148 := Tryz.underlying221
  a148 := Tryz.isAgg221
  z148 := Tryz.sizeOf221
  v148 := Tryz.zeroValue221
  t164 := Tryz.underlying200
  a164 := Tryz.isAgg200
  z164 := Tryz.sizeOf200
  v164 := Tryz.zeroValue200 }
theorem Builder_Extra_105 : Builder.Extra Tryz.prog lays105_ren := {
  sizeBuilder := by kernel_rfl
  liesBuilder := by kernel_rfl
  t5 := Tryz.underlying5
  a5 := Tryz.isAgg5
  z5 := Tryz.sizeOf5
  v5 := Tryz.zeroValue5
  infoByte := by kernel_rfl
  cellsByte := by kernel_rfl
  sizeByte := by kernel_rfl
  neB5 := by decide }
open Go.RowKit Go.Lib in
theorem strings_Repeat (s : ByteArray) (c : Nat) (w : World) (hc : c ≤ 9223372036854775807) (hlen : s.size * c ≤ 140737488355328) :
    Calls Tryz.prog 97 #[.string s, .int .i64 c] w fun e w' => e = .returned (.string ⟨(Lib.repeatL s.data.toList c).toArray⟩) ∧ Below w.heap.size w w' := Any.strings_Repeat lays105 Builder_Extra_105 s c w hc hlen
end Go.Proofs.YtelgobelbeabaaaGreatDoor
namespace Go.Proofs.YtelgobelbeabaaaGreatDoor
open Go.RowKit
namespace Nv

theorem len_pow {N b L : Nat} (h : N < 2 ^ b) (hL : b ≤ 32 * L) : (words N).length ≤ L := words_len (Nat.lt_of_lt_of_le h (by
  rw [show (4294967296 : Nat) = 2 ^ 32 from rfl, ← Nat.pow_mul]
  exact Nat.pow_le_pow_right (by decide) hL))
theorem len_mul (N M : Nat) : (words (N * M)).length ≤ (words N).length + (words M).length := words_len (by
  rw [Nat.pow_add]
  exact Nat.mul_lt_mul_of_lt_of_le (lt_len N) (Nat.le_of_lt (lt_len M)) (Nat.pow_pos (by decide)))
theorem cUp {W : World} {N k : Nat} {K : Int} {A : Option Addr} {c : Nat} (hK : K = (k : Int)) (hR : Rd W A c (words N)) (hs : (words N).length ≤ 100000) (hk : k ≤ 1000000) :
    Calls Tryz.prog 102 #[.slice A (words N).length c, .int .i64 K] W (Tells W (words (N * 2 ^ k))) := by
  have h := ref_Up hK rfl hR (isW_words N) hs hk
  rw [nv_words] at h
  exact h
theorem cTimes {W : World} {N M : Nat} {A B : Option Addr} {c d : Nat} (hR : Rd W A c (words N)) (hs : (words N).length ≤ 100000) (hR2 : Rd W B d (words M)) (hs2 : (words M).length ≤ 100000) :
    Calls Tryz.prog 134 #[.slice A (words N).length c, .slice B (words M).length d] W (Tells W (words (N * M))) := by
  have h := ref_Times rfl rfl hR (isW_words N) hs hR2 (isW_words M) hs2
  rw [nv_words, nv_words] at h
  exact h
theorem cPlus {W : World} {N M : Nat} {A B : Option Addr} {c d : Nat} (hR : Rd W A c (words N)) (hs : (words N).length ≤ 100000) (hR2 : Rd W B d (words M)) (hs2 : (words M).length ≤ 100000) :
    Calls Tryz.prog 103 #[.slice A (words N).length c, .slice B (words M).length d] W (Tells W (words (N + M))) := by
  have h := ref_Plus rfl rfl hR (isW_words N) hs hR2 (isW_words M) hs2
  rw [nv_words, nv_words] at h
  exact h
/-- One more. -/
theorem cPlus1 {W : World} {N : Nat} {A B : Option Addr} {c d : Nat} (hR : Rd W A c (words N)) (hs : (words N).length ≤ 100000) (hR2 : Rd W B d [1]) :
    Calls Tryz.prog 103 #[.slice A (words N).length c, .slice B 1 d] W (Tells W (words (N + 1))) := by
  have h := ref_Plus (m := [1]) rfl rfl hR (isW_words N) hs hR2 (IsW.one (by decide) (by decide)) (by decide)
  rw [nv_words] at h
  exact h
theorem cCmp {W : World} {N M : Nat} {A B : Option Addr} {c d : Nat} (hR : Rd W A c (words N)) (hs : (words N).length ≤ 100000) (hR2 : Rd W B d (words M)) (hs2 : (words M).length ≤ 100000) :
    Calls Tryz.prog 101 #[.slice A (words N).length c, .slice B (words M).length d] W fun e w' => e = .returned (.int .i64 (cmpN N M)) ∧ ∃ q, w' = W.drewN q := by
  have h := ref_Cmp rfl rfl hR (isW_words N) hs hR2 (isW_words M) hs2
  rw [nv_words, nv_words] at h
  exact h
theorem cHalved {W : World} {N M : Nat} {A B : Option Addr} {c d : Nat} (hR : Rd W A c (words N)) (hs : (words N).length ≤ 90000) (hR2 : Rd W B d (words M)) (hs2 : (words M).length ≤ 90000) (hM : 0 < M) :
    Calls Tryz.prog 100 #[.slice A (words N).length c, .slice B (words M).length d] W fun e w' => ∃ v1 v2, e = .returned (.tuple #[v1, v2]) ∧ U w' W.heap.size v1 (words (N / M)) ∧ U w' W.heap.size v2 (words (N % M)) ∧ Below W.heap.size W w' := by
  have h := ref_Halved rfl rfl hR (isW_words N) hs hR2 (isW_words M) hs2 (by rw [nv_words]; exact hM)
  rw [nv_words, nv_words] at h
  exact h
theorem cBits {W : World} {N : Nat} {A : Option Addr} {c : Nat} (hR : Rd W A c (words N)) (hs : (words N).length ≤ 100000) :
    Calls Tryz.prog 133 #[.slice A (words N).length c] W fun e w' => e = .returned (.int .i64 (bitN N : Nat)) ∧ Below W.heap.size W w' := by
  have h := ref_Bits rfl hR (isW_words N) hs
  rw [nv_words] at h
  exact h
theorem cShr {W : World} {N k : Nat} {K : Int} {A : Option Addr} {c : Nat} (hK : K = (k : Int)) (hR : Rd W A c (words N)) (hs : (words N).length ≤ 100000) (hk : k ≤ 4000000) :
    Calls Tryz.prog 176 #[.slice A (words N).length c, .int .i64 K] W fun e w' => ∃ v, e = .returned (.tuple #[v, .bool (lost N k)]) ∧ U w' W.heap.size v (words (N / 2 ^ k)) ∧ Below W.heap.size W w' := by
  have h := ref_Shr hK rfl hR (isW_words N) hs hk
  rw [nv_words] at h
  exact h
theorem cNorm {W : World} {N : Nat} {A : Option Addr} {c : Nat} (hR : Rd W A c (words N)) (hs : (words N).length ≤ 1000000) :
    Calls Tryz.prog 138 #[.slice A (words N).length c] W (Tells W (words N)) := by
  have h := ref_Norm rfl hR (isW_words N) hs
  rw [nv_words] at h
  exact h
theorem cNumber {W : World} {N : Nat} {A : Option Addr} {c : Nat} (hR : Rd W A c (words N)) (hs : (words N).length ≤ 1024) :
    Calls Tryz.prog 105 #[.slice A (words N).length c] W fun e w' => e = .returned (.string (S (digs 10 N))) ∧ Below W.heap.size W w' := by
  have h := ref_number rfl hR (isW_words N) (by omega) (by rw [nv_words]; exact hs)
  rw [nv_words] at h
  exact h
theorem cWord {W : World} {N j : Nat} {J : Int} {A : Option Addr} {c : Nat} (hJ : J = (j : Int)) (hR : Rd W A c (words N)) :
    Calls Tryz.prog 139 #[.slice A (words N).length c, .int .i64 J] W fun e w' => e = .returned (.int .u64 ((N / 4294967296 ^ j % 4294967296 : Nat) : Int)) ∧ w' = W := ref_word j _ (words_get N j) hJ rfl hR (isW_words N)
end Nv
end Go.Proofs.YtelgobelbeabaaaGreatDoor
namespace Go.Proofs.YtelgobelbeabaaaGreatDoor
open Go.RowKit
namespace Nv

theorem digs_one {q : Nat} (h : q < 10) : digs 10 q = [dg q] := by
  unfold digs
  split
  · rename_i h0
    subst h0
    decide
  · rw [rdigs_pos (by decide) (by omega), show q / 10 = 0 by omega, rdigs_zero, Nat.mod_eq_of_lt h]
    rfl
theorem digs_snoc {q : Nat} (h : 10 ≤ q) : digs 10 q = digs 10 (q / 10) ++ [dg (q % 10)] := by
  unfold digs
  rw [if_neg (by omega), if_neg (by omega), rdigs_pos (by decide) (by omega), List.reverse_cons]
theorem dg_small : ∀ d : Fin 10, (dg d.val).toNat = 48 + d.val := by decide
theorem dg_nat {d : Nat} (h : d < 10) : (dg d).toNat = 48 + d := dg_small ⟨d, h⟩
theorem digs_digit (q : Nat) : ∀ c ∈ digs 10 q, 48 ≤ c.toNat ∧ c.toNat ≤ 57 := by
  induction q using Nat.strongRecOn with
  | _ q ih =>
    intro c hc
    rcases Nat.lt_or_ge q 10 with h | h
    · rw [digs_one h] at hc
      rw [List.mem_singleton.1 hc, dg_nat h]
      omega
    · rw [digs_snoc h] at hc
      rcases List.mem_append.1 hc with h2 | h2
      · exact ih _ (by omega) c h2
      · rw [List.mem_singleton.1 h2, dg_nat (by omega)]
        omega
theorem digs_head {q : Nat} (h1 : 1 ≤ q) : ∃ c l, digs 10 q = c :: l ∧ 49 ≤ c.toNat := by
  induction q using Nat.strongRecOn with
  | _ q ih =>
    rcases Nat.lt_or_ge q 10 with h | h
    · exact ⟨dg q, [], digs_one h, by rw [dg_nat h]; omega⟩
    · obtain ⟨c, l, e, hc⟩ := ih (q / 10) (by omega) (by omega)
      exact ⟨c, l ++ [dg (q % 10)], by rw [digs_snoc h, e]; rfl, hc⟩
theorem digs_val (q : Nat) : valD 10 0 (digs 10 q) = q := by
  induction q using Nat.strongRecOn with
  | _ q ih =>
    have hd : ∀ d, d < 10 → (digitN ((dg d).toNat : Int)).toNat = d := fun d hd => by
      rw [dg_nat hd]
      unfold digitN
      rw [if_pos (by omega)]
      omega
    rcases Nat.lt_or_ge q 10 with h | h
    · rw [digs_one h]
      show 0 * 10 + (digitN ((dg q).toNat : Int)).toNat = q
      rw [hd q h]
      omega
    · rw [digs_snoc h, valD_snoc, ih _ (by omega), hd _ (by omega)]
      omega
theorem digs_length {q : Nat} : (q < 10 → (digs 10 q).length = 1) ∧ (10 ≤ q → (digs 10 q).length = (digs 10 (q / 10)).length + 1) := by
  constructor
  · intro h
    rw [digs_one h]
    rfl
  · intro h
    rw [digs_snoc h, List.length_append]
    rfl
theorem digs_le {q k : Nat} (h1 : 1 ≤ k) (h : q < 10 ^ k) : (digs 10 q).length ≤ k := by
  induction k generalizing q with
  | zero => omega
  | succ k ih =>
    rcases Nat.lt_or_ge q 10 with g | g
    · rw [digs_length.1 g]
      omega
    · rw [digs_length.2 g]
      have hk : 1 ≤ k := by
        rcases Nat.eq_zero_or_pos k with h0 | h0
        · subst h0
          rw [show (10 : Nat) ^ (0 + 1) = 10 from rfl] at h
          omega
        · exact h0
      have := ih (q := q / 10) hk (by rw [Nat.pow_succ] at h; omega)
      omega
theorem digs_ge {q k : Nat} (h : 10 ^ k ≤ q) : k + 1 ≤ (digs 10 q).length := by
  induction k generalizing q with
  | zero =>
    obtain ⟨c, l, e, -⟩ := digs_head (q := q) (by rw [Nat.pow_zero] at h; exact h)
    rw [e]
    simp
  | succ k ih =>
    have hk : 1 ≤ 10 ^ k := Nat.pow_pos (by decide)
    rw [Nat.pow_succ] at h
    have hq : 10 ≤ q := by omega
    rw [digs_length.2 hq]
    have := ih (q := q / 10) (by omega)
    omega
/-- So many digits. -/
theorem digs_eq {q k : Nat} (h1 : 10 ^ (k - 1) ≤ q) (h2 : q < 10 ^ k) (hk : 1 ≤ k) : (digs 10 q).length = k := by
  have a := digs_le hk h2
  have b := digs_ge h1
  omega
theorem digs_ten (q : Nat) (h : 1 ≤ q) (t : Nat) : digs 10 (q * 10 ^ t) = digs 10 q ++ List.replicate t 48 := by
  induction t with
  | zero => simp
  | succ t ih =>
    have hp : 1 ≤ 10 ^ t := Nat.pow_pos (by decide)
    have hq : 10 ≤ q * 10 ^ (t + 1) := by
      rw [Nat.pow_succ]
      have : 1 * 1 ≤ q * 10 ^ t := Nat.mul_le_mul h hp
      rw [← Nat.mul_assoc]
      omega
    rw [digs_snoc hq, Nat.pow_succ, ← Nat.mul_assoc, Nat.mul_div_cancel _ (by decide), Nat.mul_mod_left, ih, List.replicate_succ', List.append_assoc]
    rfl
end Nv
end Go.Proofs.YtelgobelbeabaaaGreatDoor
namespace Go.Proofs.YtelgobelbeabaaaGreatDoor
open Go.RowKit
namespace Us

theorem run_frombits (b : Int) (w : World) : (callFunc 91 #[.int .u64 b]).run Tryz.prog w = .ok (.value (.float .f64 b.toNat)) w := by
  rw [run_callFunc_extern Tryz.func91 (by kernel_rfl) (by kernel_rfl) (by kernel_rfl) (e := Extern.MathFloatBits.float64frombits) (by kernel_rfl)]; rfl
attribute [local go_sem] run_Float64bits run_frombits
theorem andnot_sign {f : Nat} (h : f < 9223372036854775808) : bits .andNot .u64 (f : Int) 9223372036854775808 = (f : Int) := by
  have hm := Nat.and_two_pow_sub_one_eq_mod f 63
  rw [show (2 : Nat) ^ 63 = 9223372036854775808 by decide, Nat.mod_eq_of_lt h] at hm
  have e : (BitVec.ofInt 64 (f : Int) &&& ~~~ BitVec.ofInt 64 9223372036854775808).toNat = f := by
    rw [BitVec.toNat_and, BitVec.ofInt_natCast, BitVec.toNat_ofNat, show (~~~ BitVec.ofInt 64 9223372036854775808).toNat = 9223372036854775807 by decide, Nat.mod_eq_of_lt (by omega)]
    exact hm
  show IntKind.u64.wrap ((BitVec.ofInt 64 (f : Int) &&& ~~~ BitVec.ofInt 64 9223372036854775808).toNat : Int) = (f : Int)
  rw [e, show IntKind.u64.wrap (f : Int) = (f : Int) % 18446744073709551616 by simp [IntKind.wrap, IntKind.bits, IntKind.signed]]
  omega
theorem math_Abs {f : Nat} {w : World} (h : f < 9223372036854775808) : Calls Tryz.prog 92 #[.float .f64 f] w fun e w' => e = .returned (.float .f64 f) ∧ w' = w := by
  have ha := andnot_sign h
  go_enter Tryz.func92, Tryz.ntmps92
  go_wp2
  go_ret
  exact ⟨rfl, rfl⟩
theorem math_IsInf {f : Nat} {w : World} (h : f < infR) : Calls Tryz.prog 59 #[.float .f64 f, .int .i64 0] w fun e w' => e = .returned (.bool false) ∧ w' = w := by
  have o2 : (FloatKind.f64.format.order f 9218868437227405311 == some .gt) = false := by
    rw [show FloatKind.f64.format.order f 9218868437227405311 = _ from order_rung h (show 9218868437227405311 < infR by decide)]
    rcases Nat.lt_or_ge f 9218868437227405311 with g | g
    · rw [Nat.compare_eq_lt.2 g]; rfl
    · rw [show f = 9218868437227405311 by unfold infR at h; omega, Nat.compare_eq_eq.2 rfl]; rfl
  go_enter Tryz.func59, Tryz.ntmps59
  go_wp2_with (go_at_call 92; refine (math_Abs (by unfold infR at h; omega)).mono ?_; rintro e w' ⟨rfl, rfl⟩)
  go_ret
  exact ⟨rfl, rfl⟩
theorem math_normalize {f : Nat} {w : World} (h : f < infR) (h2 : 4503599627370496 ≤ f) : Calls Tryz.prog 279 #[.float .f64 f] w fun e w' => e = .returned (.tuple #[.float .f64 f, .int .i64 0]) ∧ w' = w := by
  have o2 : (FloatKind.f64.format.order f 4503599627370496 == some .lt) = false := by
    rw [show FloatKind.f64.format.order f 4503599627370496 = _ from order_rung h (show 4503599627370496 < infR by decide)]
    rcases Nat.lt_or_ge 4503599627370496 f with g | g
    · rw [Nat.compare_eq_gt.2 g]; rfl
    · rw [show f = 4503599627370496 by omega, Nat.compare_eq_eq.2 rfl]; rfl
  go_enter Tryz.func279, Tryz.ntmps279
  go_wp2_with (go_at_call 92; refine (math_Abs (by unfold infR at h; omega)).mono ?_; rintro e w' ⟨rfl, rfl⟩)
  go_ret2
  exact ⟨rfl, rfl⟩
theorem andnot_exp {f : Nat} (h : f < 9223372036854775808) : bits .andNot .u64 (f : Int) 9218868437227405312 = ((f % 4503599627370496 : Nat) : Int) := by
  have hm := Nat.and_two_pow_sub_one_eq_mod f 52
  have e : (BitVec.ofInt 64 (f : Int) &&& ~~~ BitVec.ofInt 64 9218868437227405312).toNat = f % 4503599627370496 := by
    rw [BitVec.toNat_and, BitVec.ofInt_natCast, BitVec.toNat_ofNat, show (~~~ BitVec.ofInt 64 9218868437227405312).toNat = 9227875636482146303 by decide, Nat.mod_eq_of_lt (by omega)]
    have h1 : f &&& 9227875636482146303 < 2 ^ 63 := Nat.lt_of_le_of_lt Nat.and_le_left (by rw [show (2 : Nat) ^ 63 = 9223372036854775808 by decide]; exact h)
    rw [← Nat.mod_eq_of_lt h1, Nat.and_mod_two_pow, Nat.mod_eq_of_lt (show f < 2 ^ 63 by rw [show (2 : Nat) ^ 63 = 9223372036854775808 by decide]; exact h)]
    exact hm
  show IntKind.u64.wrap ((BitVec.ofInt 64 (f : Int) &&& ~~~ BitVec.ofInt 64 9218868437227405312).toNat : Int) = _
  rw [e, Nv.wu64]
  omega
theorem or_exp {a t : Int} (h0 : 0 ≤ a) (h1 : a < 4503599627370496) (t0 : 0 ≤ t) (t1 : t < 4096) : bits .or .u64 a (t * 4503599627370496) = t * 4503599627370496 + a := by
  have hc : bits .or .u64 a (t * 4503599627370496) = bits .or .u64 (t * 4503599627370496) a := by simp [bits, BitVec.or_comm]
  rw [hc]
  exact bits_join .u64 64 (by decide) (fun n h1 h2 => Nv.wrapU64_eq h1 (by omega)) 52 _ _ (by omega) (by omega) (by omega) h0 (by omega) (by omega)
theorem math_Inf1 (w : World) : Calls Tryz.prog 140 #[.int .i64 1] w fun e w' => e = .returned (.float .f64 infR) ∧ w' = w := by
  go_enter Tryz.func140, Tryz.ntmps140
  go_wp2
  go_ret
  exact ⟨rfl, rfl⟩
theorem run_fmul {a b c : Nat} (h : Ieee.double.mul a b = some c) (t : TypeId) (W : World) : (binOp .mul t (.float .f64 a) (.float .f64 b)).run Tryz.prog W = .ok (.float .f64 c) W := by
  show (Op.floatArith .mul .f64 a b).run Tryz.prog W = _
  unfold Op.floatArith
  rw [show FloatKind.f64.format.mul a b = some c from h]
  rfl
theorem run_fadd {a b c : Nat} (h : Ieee.double.add a b = some c) (t : TypeId) (W : World) : (binOp .add t (.float .f64 a) (.float .f64 b)).run Tryz.prog W = .ok (.float .f64 c) W := by
  show (Op.floatArith .add .f64 a b).run Tryz.prog W = _
  unfold Op.floatArith
  rw [show FloatKind.f64.format.add a b = some c from h]
  rfl
set_option maxRecDepth 100000 in
theorem math_ldexp {m f : Nat} {E : Int} {w : World} (h1 : 1 ≤ m) (h2 : m ≤ 9007199254740992) (hf : Ieee.double.nearest false m 0 = f) (he : -1074 ≤ E) (he2 : E ≤ 100000) :
    Calls Tryz.prog 212 #[.float .f64 f, .int .i64 E] w fun e w' => e = .returned (.float .f64 (Ieee.double.nearest false m E)) ∧ w' = w := by
  have hw := wOf_bounds h1 h2
  have hL := log_le h1 h2
  have hb := nearest_bits h1 h2 0 (by omega) (by omega)
  rw [hf] at hb
  obtain ⟨L, hLe⟩ : ∃ L, m.log2 = L := ⟨_, rfl⟩
  rw [hLe] at hL hb
  have hf2 : f = (L + 1022) * 4503599627370496 + wOf m := by rw [hb]; congr 2; omega
  have hfi : f < infR := by unfold infR; omega
  have o1 : FloatKind.f64.format.order f 0 = some .gt := (order_rung hfi (by decide)).trans (by rw [Nat.compare_eq_gt.2 (by omega)])
  have o2 : FloatKind.f64.format.order f 9218868437227405311 = some .lt := (order_rung hfi (by decide)).trans (by rw [Nat.compare_eq_lt.2 (by unfold infR at hfi; omega)])
  have o3 : FloatKind.f64.format.order f f = some .eq := (order_rung hfi hfi).trans (by rw [Nat.compare_eq_eq.2 rfl])
  have hnan : nanB f = false := by unfold nanB; rw [o3]; rfl
  have hq : (f : Int) / 4503599627370496 = (L : Int) + 1023 := by omega
  have hand : bits .and .i64 ((L : Int) + 1023) 2047 = (L : Int) + 1023 := by
    have h := bits_mask .i64 63 (by decide) (fun n h1 h2 => by rw [IntKind.wrap_i64]; omega) 11 (by decide) ((L : Int) + 1023) (by omega) (by omega)
    rw [show ((2 : Int) ^ 11 - 1) = 2047 by decide, show ((2 : Int) ^ 11) = 2048 by decide] at h
    rw [h]
    omega
  have hnot := andnot_exp (f := f) (by unfold infR at hfi; omega)
  rw [show f % 4503599627370496 = wOf m - 4503599627370496 by omega] at hnot
  obtain ⟨v, hv⟩ : ∃ v, wOf m - 4503599627370496 = v := ⟨_, rfl⟩
  rw [hv] at hnot
  have hv2 : v < 4503599627370496 := by omega
  have hor := fun t t0 t1 => or_exp (a := (v : Int)) (t := t) (by omega) (by omega) t0 t1
  have hfb : 4503599627370496 ≤ f := by omega
  have hinf : 1024 ≤ E + L → Ieee.double.nearest false m E = infR := fun h => nearest_inf h1 E (by rw [hLe]; exact h)
  have hmul := fun c k t hc hk hk2 ht ht2 hee => ld_mul h1 h2 E c k t hc hk hk2 ht ht2 hee
  rw [hLe, hv] at hmul
  have hnan : nanB f = false := by unfold nanB; rw [o3]; rfl
  generalize Ieee.double.nearest false m E = res at *
  replace hmul := Nv.Far.mk hmul
  replace hinf := Nv.Far.mk hinf
  replace hor := Nv.Far.mk hor
  clear hf hf2 hb hw hv hLe h1 h2
  by_cases c1 : 1024 ≤ E + L
  · have hres := hinf.out c1
    subst hres
    go_enter Tryz.func212, Tryz.ntmps212
    go_wp2_with (first
      | (go_at_call 59; refine (math_IsInf hfi).mono ?_; rintro e w' ⟨rfl, rfl⟩)
      | (go_at_call 56; refine (math_IsNaN f _).mono ?_; rintro e w' ⟨rfl, rfl⟩; rw [hnan])
      | (go_at_call 279; refine (math_normalize hfi hfb).mono ?_; rintro e w' ⟨rfl, rfl⟩)
      | (go_at_call 140; refine (math_Inf1 _).mono ?_; rintro e w' ⟨rfl, rfl⟩))
    go_ret
    exact ⟨rfl, rfl⟩
  · by_cases c2 : E + L < -1022
    · obtain ⟨t, ht⟩ : ∃ t : Nat, (t : Int) = E + L + 53 + 1023 := ⟨(E + L + 53 + 1023).toNat, by omega⟩
      have hml := hmul.out 4368491638549381120 970 t (by decide) (by decide) (by decide) (by omega) (by omega) (by omega)
      have ho := hor.out (t : Int) (by omega) (by omega)
      rw [ht] at ho
      have hmr := run_fmul hml
      rw [show t * 4503599627370496 + v = ((E + L + 53 + 1023) * 4503599627370496 + (v : Int)).toNat by omega] at hmr
      clear hmul hor hinf hml
      go_enter Tryz.func212, Tryz.ntmps212
      go_wp2_with (first
        | (go_at_call 59; refine (math_IsInf hfi).mono ?_; rintro e w' ⟨rfl, rfl⟩)
        | (go_at_call 56; refine (math_IsNaN f _).mono ?_; rintro e w' ⟨rfl, rfl⟩; rw [hnan])
        | (go_at_call 279; refine (math_normalize hfi hfb).mono ?_; rintro e w' ⟨rfl, rfl⟩))
      go_ret
      exact ⟨rfl, rfl⟩
    · obtain ⟨t, ht⟩ : ∃ t : Nat, (t : Int) = E + L + 1023 := ⟨(E + L + 1023).toNat, by omega⟩
      have hml := hmul.out 4607182418800017408 1023 t (by decide) (by decide) (by decide) (by omega) (by omega) (by omega)
      have ho := hor.out (t : Int) (by omega) (by omega)
      rw [ht] at ho
      have hmr := run_fmul hml
      rw [show t * 4503599627370496 + v = ((E + L + 1023) * 4503599627370496 + (v : Int)).toNat by omega] at hmr
      clear hmul hor hinf hml
      go_enter Tryz.func212, Tryz.ntmps212
      go_wp2_with (first
        | (go_at_call 59; refine (math_IsInf hfi).mono ?_; rintro e w' ⟨rfl, rfl⟩)
        | (go_at_call 56; refine (math_IsNaN f _).mono ?_; rintro e w' ⟨rfl, rfl⟩; rw [hnan])
        | (go_at_call 279; refine (math_normalize hfi hfb).mono ?_; rintro e w' ⟨rfl, rfl⟩))
      go_ret
      exact ⟨rfl, rfl⟩
/-- math.Ldexp at a whole number's float. -/
theorem math_Ldexp {m f : Nat} {E : Int} {w : World} (h2 : m ≤ 9007199254740992) (hf : Ieee.double.nearest false m 0 = f) (he : -1074 ≤ E) (he2 : E ≤ 100000) :
    Calls Tryz.prog 175 #[.float .f64 f, .int .i64 E] w fun e w' => e = .returned (.float .f64 (Ieee.double.nearest false m E)) ∧ w' = w := by
  rcases Nat.eq_zero_or_pos m with rfl | h1
  · have hz : ∀ p, Ieee.double.nearest false 0 p = 0 := fun p => by unfold Ieee.Format.nearest; rw [if_pos rfl]; rfl
    rw [hz] at hf
    subst hf
    rw [hz]
    have o1 : FloatKind.f64.format.order 0 0 = some .eq := (order_rung (by decide) (by decide)).trans (by rw [Nat.compare_eq_eq.2 rfl])
    go_enter Tryz.func175, Tryz.ntmps175
    go_wp2
    go_ret
    exact ⟨rfl, rfl⟩
  · have hL := Nv.Far.mk (fun W => math_ldexp (w := W) h1 h2 hf he he2)
    clear hf
    go_enter Tryz.func175, Tryz.ntmps175
    go_wp2_with (go_at_call 212; refine (hL.out _).mono ?_; rintro e w' ⟨rfl, rfl⟩)
    go_ret
    exact ⟨rfl, rfl⟩
end Us
end Go.Proofs.YtelgobelbeabaaaGreatDoor

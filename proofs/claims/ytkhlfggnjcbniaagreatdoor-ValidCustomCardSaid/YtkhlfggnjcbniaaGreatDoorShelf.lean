import Derived.Shelf.Strings.Builder1
import Derived.Shelf.Strings.Trim
import Derived.Shelf.Small.Utf8
import Derived.Shelf.Small.Bits
import Derived.Shelf.Small.Strs
import Derived.Shelf.Small.Wraps
import Derived.Shelf.Strings.BuilderF
import Derived.Shelf.Strings.BuilderK
import Derived.Shelf.Utf8.RuneCount
import Derived.Shelf.Strconv.Atoi
import Derived.Shelf.Strconv.Itoa0
import Derived.Shelf.Strconv.Itoa1
import Derived.Shelf.LaysM
import Derived.Shelf.Strconv.Itoa2
import Derived.Shelf.Strconv.Itoa3
import Derived.Shelf.Strconv.AtoiErrFast
import Derived.Shelf.Strconv.ParseIntEmpty
import Derived.Shelf.Strconv.AtoiFail
import Derived.Shelf.Strconv.Clone
import Derived.Shelf.Strconv.SyntaxError
import Derived.Shelf.LaysC
import Derived.Shelf.Strconv.ToError
import Derived.Shelf.Strconv.Lower
import Derived.Shelf.Strconv.ParseUint10
import Derived.Shelf.Strconv.ParseUint10Empty
import Derived.Shelf.Strconv.ParseUint10Any
import Derived.Shelf.Strconv.ParseInt10
import Derived.Shelf.Strconv.AtoiLong
import Derived.Shelf.Strconv.AtoiInnerAll
import Derived.Shelf.Strconv.RangeError
import Derived.Shelf.Strconv.ToErrorRange
import Derived.Shelf.Strconv.AtoiAll
import Derived.Shelf.Strconv.ErrVarAll
import Derived.Ground.MpProg
import Derived.Shelf.Pu.ParseUintPublic10
import Derived.Shelf.Pu.ErrVarParseUint
import Derived.Shelf.Strings.Search1
import Derived.Shelf.Strings.Search2
import Derived.Shelf.Strings.Search3
import Derived.Shelf.Strings.Cut
import Derived.Shelf.Strings.Count
import Derived.Shelf.Strings.Shaped
import Derived.Shelf.Strings.LastIndex
import Derived.Shelf.Strings.Prefix
import Derived.Shelf.Strings.Split
import Derived.Shelf.Strings.SplitShaped
import Derived.Shelf.Unicode.Decode
import Derived.Shelf.Strings.Runes
import Derived.Shelf.Strings.RuneCount
import Derived.Shelf.Strings.AsciiSet
import Derived.Shelf.Strings.Explode
import Derived.Shelf.Bits.Mul64
import Derived.Shelf.Unicode.DecodeSlow
import Derived.Shelf.Unicode.DecodeAny
import Derived.Shelf.Unicode.DecodeLast
import Derived.Ground.SlgfProg
import Derived.Shelf.SlicesQ.IndexFunc
import Derived.Shelf.Unicode.ValidAny
import Derived.Test.YtkhlfggnjcbniaaGreatDoorProg
namespace Go.Proofs
open Tryz
open Go.Shelf
def Tryz.lays196_ren : Go.Shelf.Ren := ⟨fun | 196 => 243 | 259 => 290 | n => n, fun | 9 => 9 | 4 => 4 | 3 => 3 | 5 => 5 | 12 => 12 | 119 => 220 | 0 => 0 | 46 => 206 | 139 => 223 | 138 => 222 | 53 => 157 | n => n, fun | 3 => 2 | 4 => 3 | n => n⟩
theorem Tryz.lays196 : Go.Proofs.Lays.n196 Tryz.prog Tryz.lays196_ren := {
 mixed := by kernel_rfl
 f196 := func243.trans (congrArg some (by kernel_rfl))
 f259 := func290.trans (congrArg some (by kernel_rfl))
 t0 := underlying0
 a0 := isAgg0
 z0 := sizeOf0
 v0 := zeroValue0
 t3 := underlying3
 a3 := isAgg3
 z3 := sizeOf3
 v3 := zeroValue3
 t4 := underlying4
 a4 := isAgg4
 z4 := sizeOf4
 v4 := zeroValue4
 t5 := underlying5
 a5 := isAgg5
 z5 := sizeOf5
 v5 := zeroValue5
 t9 := underlying9
 a9 := isAgg9
 z9 := sizeOf9
 v9 := zeroValue9
 t12 := underlying12
 a12 := isAgg12
 z12 := sizeOf12
 v12 := zeroValue12
 t46 := underlying206
 a46 := isAgg206
 z46 := sizeOf206
 v46 := zeroValue206
 t53 := underlying157
 a53 := isAgg157
 z53 := sizeOf157
 v53 := zeroValue157
 t119 := underlying220
 a119 := isAgg220
 z119 := sizeOf220
 t138 := underlying222
 a138 := isAgg222
 z138 := sizeOf222
 v138 := zeroValue222
 t139 := underlying223
 a139 := isAgg223
 z139 := sizeOf223
 v139 := zeroValue223
 g3 := by kernel_rfl
 g4 := by kernel_rfl }
def Tryz.laysg139_ren : Go.Shelf.Ren := ⟨fun | 8 => 139 | 6 => 133 | n => n, fun | 22 => 38 | 23 => 45 | 25 => 113 | 4 => 4 | 3 => 3 | 0 => 0 | n => n, fun | n => n⟩
theorem Tryz.laysg139 : Go.Proofs.SlLaysH0.n8 Tryz.prog Tryz.laysg139_ren := {
 mixed := by kernel_rfl
 f6 := ⟨Tryz.f133.name, by decide, func133.trans (congrArg some (by kernel_rfl))⟩
 f8 := ⟨Tryz.f139.name, by decide, func139.trans (congrArg some (by kernel_rfl))⟩
 t0 := underlying0
 a0 := isAgg0
 z0 := sizeOf0
 v0 := zeroValue0
 t3 := underlying3
 a3 := isAgg3
 z3 := sizeOf3
 v3 := zeroValue3
 t4 := underlying4
 a4 := isAgg4
 z4 := sizeOf4
 v4 := zeroValue4
 t22 := underlying38
 a22 := isAgg38
 z22 := sizeOf38
 v22 := zeroValue38
 t25 := underlying113
 a25 := isAgg113
 z25 := sizeOf113
 v25 := zeroValue113 }
def Tryz.laysg133_ren : Go.Shelf.Ren := ⟨fun | 6 => 133 | n => n, fun | 22 => 38 | 23 => 45 | 25 => 113 | 3 => 3 | 0 => 0 | 4 => 4 | n => n, fun | n => n⟩
theorem Tryz.laysg133 : Go.Proofs.SlLaysH0.n6 Tryz.prog Tryz.laysg133_ren := {
 mixed := by kernel_rfl
 f6 := ⟨Tryz.f133.name, by decide, func133.trans (congrArg some (by kernel_rfl))⟩
 t0 := underlying0
 a0 := isAgg0
 z0 := sizeOf0
 v0 := zeroValue0
 t3 := underlying3
 a3 := isAgg3
 z3 := sizeOf3
 v3 := zeroValue3
 t4 := underlying4
 a4 := isAgg4
 z4 := sizeOf4
 v4 := zeroValue4
 t22 := underlying38
 a22 := isAgg38
 z22 := sizeOf38
 v22 := zeroValue38
 t25 := underlying113
 a25 := isAgg113
 z25 := sizeOf113
 v25 := zeroValue113 }
def Tryz.lays162_ren : Go.Shelf.Ren := ⟨fun | 162 => 262 | 232 => 173 | 227 => 174 | 234 => 176 | 236 => 178 | 228 => 250 | 271 => 253 | 151 => 252 | 120 => 299 | 197 => 251 | 152 => 298 | 260 => 297 | 137 => 160 | 119 => 330 | 224 => 325 | 225 => 324 | 217 => 234 | 266 => 286 | n => n, fun | 9 => 9 | 4 => 4 | 3 => 3 | 5 => 5 | 117 => 144 | 116 => 143 | 0 => 0 | 124 => 147 | 21 => 21 | 105 => 188 | 46 => 206 | 119 => 220 | 139 => 223 | 138 => 222 | n => n, fun | 3 => 2 | 4 => 3 | n => n⟩
theorem Tryz.lays162 : Go.Proofs.Lays.n162 Tryz.prog Tryz.lays162_ren := {
 mixed := by kernel_rfl
 f119 := func330.trans (congrArg some (by kernel_rfl))
 f120 := func299.trans (congrArg some (by kernel_rfl))
 f137 := func160.trans (congrArg some (by kernel_rfl))
 f151 := func252.trans (congrArg some (by kernel_rfl))
 f152 := func298.trans (congrArg some (by kernel_rfl))
 f162 := func262.trans (congrArg some (by kernel_rfl))
 f197 := func251.trans (congrArg some (by kernel_rfl))
 f217 := func234.trans (congrArg some (by kernel_rfl))
 f224 := func325.trans (congrArg some (by kernel_rfl))
 f225 := func324.trans (congrArg some (by kernel_rfl))
 f227 := func174.trans (congrArg some (by kernel_rfl))
 f228 := func250.trans (congrArg some (by kernel_rfl))
 f232 := func173.trans (congrArg some (by kernel_rfl))
 f234 := func176.trans (congrArg some (by kernel_rfl))
 f236 := func178.trans (congrArg some (by kernel_rfl))
 f260 := func297.trans (congrArg some (by kernel_rfl))
 f266 := func286.trans (congrArg some (by kernel_rfl))
 f271 := func253.trans (congrArg some (by kernel_rfl))
 t0 := underlying0
 a0 := isAgg0
 z0 := sizeOf0
 v0 := zeroValue0
 t3 := underlying3
 a3 := isAgg3
 z3 := sizeOf3
 v3 := zeroValue3
 t4 := underlying4
 a4 := isAgg4
 z4 := sizeOf4
 v4 := zeroValue4
 t5 := underlying5
 a5 := isAgg5
 z5 := sizeOf5
 v5 := zeroValue5
 t9 := underlying9
 a9 := isAgg9
 z9 := sizeOf9
 v9 := zeroValue9
 t21 := underlying21
 a21 := isAgg21
 z21 := sizeOf21
 v21 := zeroValue21
 t46 := underlying206
 a46 := isAgg206
 z46 := sizeOf206
 v46 := zeroValue206
 t105 := underlying188
 a105 := isAgg188
 z105 := sizeOf188
 v105 := zeroValue188
 t116 := underlying143
 a116 := isAgg143
 z116 := sizeOf143
 t117 := underlying144
 a117 := isAgg144
 z117 := sizeOf144
 v117 := zeroValue144
 t119 := underlying220
 a119 := isAgg220
 z119 := sizeOf220
 t124 := underlying147
 a124 := isAgg147
 z124 := sizeOf147
 v124 := zeroValue147
 t138 := underlying222
 a138 := isAgg222
 z138 := sizeOf222
 v138 := zeroValue222
 t139 := underlying223
 a139 := isAgg223
 z139 := sizeOf223
 v139 := zeroValue223
 g3 := by kernel_rfl
 g4 := by kernel_rfl }
open Go.RowKit in
theorem Tryz.strings_TrimRight_one (s : ByteArray) (c : UInt8) (hc : c.toNat < 128) (w : World) (hs : s.size ≤ 9223372036854775807) :
  Calls Tryz.prog 262 #[.string s, .string ⟨#[c]⟩] w fun e w' => e = .returned (.string ⟨(Lib.trimRightB s.data.toList c).toArray⟩) ∧ w' = w := Any.strings_TrimRight_one Tryz.lays162 s c hc w hs
def Tryz.lays160_ren : Go.Shelf.Ren := ⟨fun | 160 => 95 | 232 => 173 | 231 => 172 | 227 => 174 | 234 => 176 | 233 => 175 | 236 => 178 | 235 => 177 | 228 => 250 | 271 => 253 | 151 => 252 | 197 => 251 | 120 => 299 | 152 => 298 | 260 => 297 | 137 => 160 | 119 => 330 | 224 => 325 | 225 => 324 | 217 => 234 | 266 => 286 | n => n, fun | 9 => 9 | 4 => 4 | 3 => 3 | 5 => 5 | 117 => 144 | 116 => 143 | 0 => 0 | 124 => 147 | 21 => 21 | 105 => 188 | 46 => 206 | 119 => 220 | 139 => 223 | 138 => 222 | n => n, fun | 3 => 2 | 4 => 3 | n => n⟩
theorem Tryz.lays160 : Go.Proofs.Lays.n160 Tryz.prog Tryz.lays160_ren := {
 mixed := by kernel_rfl
 f119 := func330.trans (congrArg some (by kernel_rfl))
 f120 := func299.trans (congrArg some (by kernel_rfl))
 f137 := func160.trans (congrArg some (by kernel_rfl))
 f151 := func252.trans (congrArg some (by kernel_rfl))
 f152 := func298.trans (congrArg some (by kernel_rfl))
 f160 := func95.trans (congrArg some (by kernel_rfl))
 f197 := func251.trans (congrArg some (by kernel_rfl))
 f217 := func234.trans (congrArg some (by kernel_rfl))
 f224 := func325.trans (congrArg some (by kernel_rfl))
 f225 := func324.trans (congrArg some (by kernel_rfl))
 f227 := func174.trans (congrArg some (by kernel_rfl))
 f228 := func250.trans (congrArg some (by kernel_rfl))
 f231 := func172.trans (congrArg some (by kernel_rfl))
 f232 := func173.trans (congrArg some (by kernel_rfl))
 f233 := func175.trans (congrArg some (by kernel_rfl))
 f234 := func176.trans (congrArg some (by kernel_rfl))
 f235 := func177.trans (congrArg some (by kernel_rfl))
 f236 := func178.trans (congrArg some (by kernel_rfl))
 f260 := func297.trans (congrArg some (by kernel_rfl))
 f266 := func286.trans (congrArg some (by kernel_rfl))
 f271 := func253.trans (congrArg some (by kernel_rfl))
 t0 := underlying0
 a0 := isAgg0
 z0 := sizeOf0
 v0 := zeroValue0
 t3 := underlying3
 a3 := isAgg3
 z3 := sizeOf3
 v3 := zeroValue3
 t4 := underlying4
 a4 := isAgg4
 z4 := sizeOf4
 v4 := zeroValue4
 t5 := underlying5
 a5 := isAgg5
 z5 := sizeOf5
 v5 := zeroValue5
 t9 := underlying9
 a9 := isAgg9
 z9 := sizeOf9
 v9 := zeroValue9
 t21 := underlying21
 a21 := isAgg21
 z21 := sizeOf21
 v21 := zeroValue21
 t46 := underlying206
 a46 := isAgg206
 z46 := sizeOf206
 v46 := zeroValue206
 t105 := underlying188
 a105 := isAgg188
 z105 := sizeOf188
 v105 := zeroValue188
 t116 := underlying143
 a116 := isAgg143
 z116 := sizeOf143
 t117 := underlying144
 a117 := isAgg144
 z117 := sizeOf144
 v117 := zeroValue144
 t119 := underlying220
 a119 := isAgg220
 z119 := sizeOf220
 t124 := underlying147
 a124 := isAgg147
 z124 := sizeOf147
 v124 := zeroValue147
 t138 := underlying222
 a138 := isAgg222
 z138 := sizeOf222
 v138 := zeroValue222
 t139 := underlying223
 a139 := isAgg223
 z139 := sizeOf223
 v139 := zeroValue223
 g3 := by kernel_rfl
 g4 := by kernel_rfl }
def Tryz.lays119_ren : Go.Shelf.Ren := ⟨fun | 119 => 330 | n => n, fun | 21 => 21 | 4 => 4 | n => n, fun | n => n⟩
theorem Tryz.lays119 : Go.Proofs.Lays.n119 Tryz.prog Tryz.lays119_ren := {
 mixed := by kernel_rfl
 f119 := func330.trans (congrArg some (by kernel_rfl))
 t4 := underlying4
 a4 := isAgg4
 z4 := sizeOf4
 v4 := zeroValue4
 t21 := underlying21
 a21 := isAgg21
 z21 := sizeOf21
 v21 := zeroValue21 }
theorem Tryz.utf8_ValidRune (r : Int) (w : World) :
  Calls Tryz.prog 330 #[.int .i32 r] w fun e w' => e = .returned (.bool (Lib.validRune r)) ∧ w' = w := Any.utf8_ValidRune Tryz.lays119 r w
def Tryz.lays137_ren : Go.Shelf.Ren := ⟨fun | 137 => 160 | 217 => 234 | 266 => 286 | n => n, fun | 9 => 9 | 5 => 5 | 3 => 3 | n => n, fun | n => n⟩
theorem Tryz.lays137 : Go.Proofs.Lays.n137 Tryz.prog Tryz.lays137_ren := {
 mixed := by kernel_rfl
 f137 := func160.trans (congrArg some (by kernel_rfl))
 f217 := func234.trans (congrArg some (by kernel_rfl))
 f266 := func286.trans (congrArg some (by kernel_rfl))
 t3 := underlying3
 a3 := isAgg3
 z3 := sizeOf3
 v3 := zeroValue3
 t5 := underlying5
 a5 := isAgg5
 z5 := sizeOf5
 v5 := zeroValue5
 t9 := underlying9
 a9 := isAgg9
 z9 := sizeOf9
 v9 := zeroValue9 }
open Go.RowKit in
theorem Tryz.strings_IndexByte (s : ByteArray) (c : Int) (w : World) :
  Calls Tryz.prog 160 #[.string s, .int .u8 c] w fun e w' => e = .returned (.int .i64 (Lib.indexByte s.data.toList c.toNat.toUInt8)) ∧ w' = w := Any.strings_IndexByte Tryz.lays137 s c w
def Tryz.lays103_ren : Go.Shelf.Ren := ⟨fun | 103 => 159 | 210 => 233 | 206 => 241 | n => n, fun | 9 => 9 | 4 => 4 | 24 => 98 | 3 => 3 | n => n, fun | n => n⟩
theorem Tryz.lays103 : Go.Proofs.Lays.n103 Tryz.prog Tryz.lays103_ren := {
 mixed := by kernel_rfl
 f103 := func159.trans (congrArg some (by kernel_rfl))
 f206 := func241.trans (congrArg some (by kernel_rfl))
 f210 := func233.trans (congrArg some (by kernel_rfl))
 t3 := underlying3
 a3 := isAgg3
 z3 := sizeOf3
 v3 := zeroValue3
 t4 := underlying4
 a4 := isAgg4
 z4 := sizeOf4
 v4 := zeroValue4
 t9 := underlying9
 a9 := isAgg9
 z9 := sizeOf9
 v9 := zeroValue9
 t24 := underlying98
 a24 := isAgg98
 z24 := sizeOf98
 v24 := zeroValue98 }
open Go.RowKit in
theorem Tryz.strings_CutPrefix (s p : ByteArray) (w : World) :
  Calls Tryz.prog 159 #[.string s, .string p] w fun e w' => e = .returned (.tuple #[.string ⟨(Lib.trimPrefix s.data.toList p.data.toList).toArray⟩, .bool (Lib.hasPrefix s.data.toList p.data.toList)]) ∧ w' = w := Any.strings_CutPrefix Tryz.lays103 s p w
def Tryz.lays104_ren : Go.Shelf.Ren := ⟨fun | 104 => 238 | 211 => 288 | 207 => 327 | n => n, fun | 9 => 9 | 4 => 4 | 24 => 98 | 3 => 3 | n => n, fun | n => n⟩
theorem Tryz.lays104 : Go.Proofs.Lays.n104 Tryz.prog Tryz.lays104_ren := {
 mixed := by kernel_rfl
 f104 := func238.trans (congrArg some (by kernel_rfl))
 f207 := func327.trans (congrArg some (by kernel_rfl))
 f211 := func288.trans (congrArg some (by kernel_rfl))
 t3 := underlying3
 a3 := isAgg3
 z3 := sizeOf3
 v3 := zeroValue3
 t4 := underlying4
 a4 := isAgg4
 z4 := sizeOf4
 v4 := zeroValue4
 t9 := underlying9
 a9 := isAgg9
 z9 := sizeOf9
 v9 := zeroValue9
 t24 := underlying98
 a24 := isAgg98
 z24 := sizeOf98
 v24 := zeroValue98 }
open Go.RowKit in
theorem Tryz.strings_CutSuffix (s p : ByteArray) (w : World) (hs : s.size ≤ 9223372036854775807) :
  Calls Tryz.prog 238 #[.string s, .string p] w fun e w' => e = .returned (.tuple #[.string ⟨(Lib.trimSuffix s.data.toList p.data.toList).toArray⟩, .bool (Lib.hasSuffix s.data.toList p.data.toList)]) ∧ w' = w := Any.strings_CutSuffix Tryz.lays104 s p w hs
def Tryz.lays129_ren : Go.Shelf.Ren := ⟨fun | 129 => 310 | n => n, fun | 53 => 157 | 3 => 3 | 4 => 4 | 46 => 206 | 5 => 5 | 9 => 9 | n => n, fun | n => n⟩
theorem Tryz.lays129 : Go.Proofs.Lays.n129 Tryz.prog Tryz.lays129_ren := {
 mixed := by kernel_rfl
 f129 := func310.trans (congrArg some (by kernel_rfl))
 t3 := underlying3
 a3 := isAgg3
 z3 := sizeOf3
 v3 := zeroValue3
 t4 := underlying4
 a4 := isAgg4
 z4 := sizeOf4
 v4 := zeroValue4
 t5 := underlying5
 a5 := isAgg5
 z5 := sizeOf5
 v5 := zeroValue5
 t9 := underlying9
 a9 := isAgg9
 z9 := sizeOf9
 v9 := zeroValue9
 t46 := underlying206
 a46 := isAgg206
 z46 := sizeOf206
 v46 := zeroValue206
 t53 := underlying157
 a53 := isAgg157
 z53 := sizeOf157
 v53 := zeroValue157 }
theorem Tryz.bits_Len64 (x : Int) (w : World) (h0 : 0 ≤ x) (h1 : x ≤ 18446744073709551615) :
  Calls Tryz.prog 310 #[.int .u64 x] w fun e w' => e = .returned (.int .i64 (Lib.bitLen x.toNat)) ∧ w' = w := Any.bits_Len64 Tryz.lays129 x w h0 h1
def Tryz.laysC172_ren : Go.Shelf.Ren := ⟨fun | 172 => 96 | 244 => 179 | 245 => 180 | 247 => 254 | 279 => 255 | 280 => 256 | 281 => 257 | 282 => 258 | 287 => 300 | 316 => 301 | 171 => 303 | 205 => 302 | 321 => 331 | 322 => 332 | 243 => 333 | 246 => 351 | 283 => 363 | 284 => 364 | 285 => 365 | 286 => 366 | 129 => 310 | 317 => 369 | 318 => 370 | 319 => 371 | 320 => 372 | 337 => 373 | 338 => 374 | n => n, fun | 9 => 9 | 3 => 3 | 75 => 90 | 76 => 91 | 4 => 4 | 5 => 5 | 167 => 191 | 37 => 106 | 0 => 0 | 85 => 192 | 2 => 2 | 168 => 194 | 53 => 157 | 175 => 198 | 46 => 206 | 210 => 236 | 127 => 253 | 145 => 259 | 143 => 257 | 21 => 21 | 171 => 276 | 173 => 278 | 212 => 281 | 51 => 267 | 20 => 20 | 213 => 282 | 232 => 285 | 233 => 286 | 80 => 217 | n => n, fun | 15 => 4 | 16 => 5 | 17 => 7 | 18 => 8 | 19 => 9 | n => n⟩
theorem Tryz.laysC172 : Go.Proofs.LaysC.n172 Tryz.prog Tryz.laysC172_ren := {
 mixed := by kernel_rfl
 f129 := func310.trans (congrArg some (by kernel_rfl))
 f171 := func303.trans (congrArg some (by kernel_rfl))
 f172 := func96.trans (congrArg some (by kernel_rfl))
 f205 := func302.trans (congrArg some (by kernel_rfl))
 f243 := func333.trans (congrArg some (by kernel_rfl))
 f244 := func179.trans (congrArg some (by kernel_rfl))
 f245 := func180.trans (congrArg some (by kernel_rfl))
 f246 := func351.trans (congrArg some (by kernel_rfl))
 f247 := func254.trans (congrArg some (by kernel_rfl))
 f279 := func255.trans (congrArg some (by kernel_rfl))
 f280 := func256.trans (congrArg some (by kernel_rfl))
 f281 := func257.trans (congrArg some (by kernel_rfl))
 f282 := func258.trans (congrArg some (by kernel_rfl))
 f283 := func363.trans (congrArg some (by kernel_rfl))
 f284 := func364.trans (congrArg some (by kernel_rfl))
 f285 := func365.trans (congrArg some (by kernel_rfl))
 f286 := func366.trans (congrArg some (by kernel_rfl))
 f287 := func300.trans (congrArg some (by kernel_rfl))
 f316 := func301.trans (congrArg some (by kernel_rfl))
 f317 := func369.trans (congrArg some (by kernel_rfl))
 f318 := func370.trans (congrArg some (by kernel_rfl))
 f319 := func371.trans (congrArg some (by kernel_rfl))
 f320 := func372.trans (congrArg some (by kernel_rfl))
 f321 := func331.trans (congrArg some (by kernel_rfl))
 f322 := func332.trans (congrArg some (by kernel_rfl))
 f337 := func373.trans (congrArg some (by kernel_rfl))
 f338 := func374.trans (congrArg some (by kernel_rfl))
 t0 := underlying0
 a0 := isAgg0
 z0 := sizeOf0
 v0 := zeroValue0
 t2 := underlying2
 a2 := isAgg2
 z2 := sizeOf2
 v2 := zeroValue2
 t3 := underlying3
 a3 := isAgg3
 z3 := sizeOf3
 v3 := zeroValue3
 t4 := underlying4
 a4 := isAgg4
 z4 := sizeOf4
 v4 := zeroValue4
 t5 := underlying5
 a5 := isAgg5
 z5 := sizeOf5
 v5 := zeroValue5
 t9 := underlying9
 a9 := isAgg9
 z9 := sizeOf9
 v9 := zeroValue9
 t20 := underlying20
 a20 := isAgg20
 z20 := sizeOf20
 v20 := zeroValue20
 t21 := underlying21
 a21 := isAgg21
 z21 := sizeOf21
 v21 := zeroValue21
 t37 := underlying106
 a37 := isAgg106
 z37 := sizeOf106
 v37 := zeroValue106
 t46 := underlying206
 a46 := isAgg206
 z46 := sizeOf206
 v46 := zeroValue206
 t51 := underlying267
 a51 := isAgg267
 z51 := sizeOf267
 v51 := zeroValue267
 t53 := underlying157
 a53 := isAgg157
 z53 := sizeOf157
 v53 := zeroValue157
 t75 := underlying90
 a75 := isAgg90
 z75 := sizeOf90
 v75 := zeroValue90
 t76 := underlying91
 a76 := isAgg91
 z76 := sizeOf91
 v76 := zeroValue91
 t85 := underlying192
 a85 := isAgg192
 z85 := sizeOf192
 v85 := zeroValue192
 t127 := underlying253
 a127 := isAgg253
 z127 := sizeOf253
 v127 := zeroValue253
 t143 := underlying257
 a143 := isAgg257
 z143 := sizeOf257
 v143 := zeroValue257
 t145 := underlying259
 a145 := isAgg259
 z145 := sizeOf259
 v145 := zeroValue259
 t167 := underlying191
 a167 := isAgg191
 z167 := sizeOf191
 v167 := zeroValue191
 t168 := underlying194
 a168 := isAgg194
 z168 := sizeOf194
 v168 := zeroValue194
 t171 := underlying276
 a171 := isAgg276
 z171 := sizeOf276
 v171 := zeroValue276
 t173 := underlying278
 a173 := isAgg278
 z173 := sizeOf278
 v173 := zeroValue278
 t175 := underlying198
 a175 := isAgg198
 z175 := sizeOf198
 v175 := zeroValue198
 t210 := underlying236
 a210 := isAgg236
 z210 := sizeOf236
 v210 := zeroValue236
 t212 := underlying281
 a212 := isAgg281
 z212 := sizeOf281
 v212 := zeroValue281
 t213 := underlying282
 a213 := isAgg282
 z213 := sizeOf282
 t232 := underlying285
 a232 := isAgg285
 z232 := sizeOf285
 v232 := zeroValue285
 t233 := underlying286
 a233 := isAgg286
 z233 := sizeOf286
 v233 := zeroValue286
 g15 := by kernel_rfl
 g16 := by kernel_rfl
 g17 := by kernel_rfl
 g18 := by kernel_rfl
 g19 := by kernel_rfl
 t80 := underlying217
 a80 := isAgg217
 z80 := sizeOf217
 v80 := zeroValue217
 i0 := by kernel_rfl
 i2 := by kernel_rfl
 i3 := by kernel_rfl
 i4 := by kernel_rfl
 i5 := by kernel_rfl
 i9 := by kernel_rfl
 i20 := by kernel_rfl
 i21 := by kernel_rfl
 i37 := by kernel_rfl
 i46 := by kernel_rfl
 i51 := by kernel_rfl
 i53 := by kernel_rfl
 i75 := by kernel_rfl
 i76 := by kernel_rfl
 i80 := by kernel_rfl
 i85 := by kernel_rfl
 i127 := by kernel_rfl
 i143 := by kernel_rfl
 i145 := by kernel_rfl
 i167 := by kernel_rfl
 i168 := by kernel_rfl
 i171 := by kernel_rfl
 i173 := by kernel_rfl
 i175 := by kernel_rfl
 i210 := by kernel_rfl
 i212 := by kernel_rfl
 i232 := by kernel_rfl
 i233 := by kernel_rfl
 m15 := by kernel_rfl
 m16 := by kernel_rfl
 m17 := by kernel_rfl
 m18 := by kernel_rfl
 m19 := by kernel_rfl
 c0 := by kernel_rfl
 c2 := by kernel_rfl
 c3 := by kernel_rfl
 c4 := by kernel_rfl
 c5 := by kernel_rfl
 c9 := by kernel_rfl
 c20 := by kernel_rfl
 c21 := by kernel_rfl
 c37 := by kernel_rfl
 c46 := by kernel_rfl
 c51 := by kernel_rfl
 c53 := by kernel_rfl
 c75 := by kernel_rfl
 c76 := by kernel_rfl
 c80 := by kernel_rfl
 c85 := by kernel_rfl
 c127 := by kernel_rfl
 c143 := by kernel_rfl
 c145 := by kernel_rfl
 c167 := by kernel_rfl
 c168 := by kernel_rfl
 c171 := by kernel_rfl
 c173 := by kernel_rfl
 c175 := by kernel_rfl
 c210 := by kernel_rfl
 c212 := by kernel_rfl
 c213 := by kernel_rfl
 c232 := by kernel_rfl
 c233 := by kernel_rfl }
open Go.RowKit in
theorem Tryz.strconv_Atoi_ok (s : ByteArray) (hmax : s.size ≤ 9223372036854775806) (v : Int) (h : Lib.atoiAll s.data.toList = .ok v) (w : World) :
  Calls Tryz.prog 96 #[.string s] w fun e w' => e = .returned (.tuple #[.int .i64 v, .nilIface]) ∧ (w' = w ∨ ∃ t, w' = Lib.bytesWorld w 5 t) := Any.strconv_Atoi_ok Tryz.laysC172 s hmax v h w
def Tryz.laysPu14_ren : Go.Shelf.Ren := ⟨fun | 14 => 261 | 16 => 300 | 17 => 180 | 19 => 331 | 20 => 332 | 21 => 255 | 22 => 256 | 23 => 257 | 24 => 258 | 25 => 301 | 27 => 303 | 26 => 302 | 28 => 333 | 29 => 351 | 30 => 363 | 31 => 364 | 32 => 365 | 33 => 366 | 35 => 310 | 34 => 369 | 36 => 370 | 37 => 371 | 38 => 372 | 39 => 373 | 40 => 374 | n => n, fun | 9 => 9 | 3 => 3 | 22 => 157 | 24 => 90 | 25 => 198 | 4 => 4 | 34 => 191 | 5 => 5 | 36 => 206 | 37 => 106 | 0 => 0 | 39 => 194 | 21 => 21 | 44 => 236 | 47 => 253 | 50 => 259 | 48 => 257 | 2 => 2 | 52 => 276 | 55 => 278 | 59 => 281 | 60 => 267 | 20 => 20 | 61 => 282 | 65 => 285 | 66 => 286 | 67 => 217 | n => n, fun | 0 => 4 | 1 => 5 | 2 => 7 | 3 => 8 | 4 => 9 | n => n⟩
theorem Tryz.laysPu14 : Go.Proofs.LaysPu.n14 Tryz.prog Tryz.laysPu14_ren := {
 mixed := by kernel_rfl
 f14 := func261.trans (congrArg some (by kernel_rfl))
 f16 := func300.trans (congrArg some (by kernel_rfl))
 f17 := func180.trans (congrArg some (by kernel_rfl))
 f19 := func331.trans (congrArg some (by kernel_rfl))
 f20 := func332.trans (congrArg some (by kernel_rfl))
 f21 := func255.trans (congrArg some (by kernel_rfl))
 f22 := func256.trans (congrArg some (by kernel_rfl))
 f23 := func257.trans (congrArg some (by kernel_rfl))
 f24 := func258.trans (congrArg some (by kernel_rfl))
 f25 := func301.trans (congrArg some (by kernel_rfl))
 f26 := func302.trans (congrArg some (by kernel_rfl))
 f27 := func303.trans (congrArg some (by kernel_rfl))
 f28 := func333.trans (congrArg some (by kernel_rfl))
 f29 := func351.trans (congrArg some (by kernel_rfl))
 f30 := func363.trans (congrArg some (by kernel_rfl))
 f31 := func364.trans (congrArg some (by kernel_rfl))
 f32 := func365.trans (congrArg some (by kernel_rfl))
 f33 := func366.trans (congrArg some (by kernel_rfl))
 f34 := func369.trans (congrArg some (by kernel_rfl))
 f35 := func310.trans (congrArg some (by kernel_rfl))
 f36 := func370.trans (congrArg some (by kernel_rfl))
 f37 := func371.trans (congrArg some (by kernel_rfl))
 f38 := func372.trans (congrArg some (by kernel_rfl))
 f39 := func373.trans (congrArg some (by kernel_rfl))
 f40 := func374.trans (congrArg some (by kernel_rfl))
 t0 := underlying0
 a0 := isAgg0
 z0 := sizeOf0
 v0 := zeroValue0
 i0 := by kernel_rfl
 t2 := underlying2
 a2 := isAgg2
 z2 := sizeOf2
 v2 := zeroValue2
 i2 := by kernel_rfl
 t3 := underlying3
 a3 := isAgg3
 z3 := sizeOf3
 v3 := zeroValue3
 i3 := by kernel_rfl
 t4 := underlying4
 a4 := isAgg4
 z4 := sizeOf4
 v4 := zeroValue4
 i4 := by kernel_rfl
 t5 := underlying5
 a5 := isAgg5
 z5 := sizeOf5
 v5 := zeroValue5
 i5 := by kernel_rfl
 t9 := underlying9
 a9 := isAgg9
 z9 := sizeOf9
 v9 := zeroValue9
 i9 := by kernel_rfl
 t20 := underlying20
 a20 := isAgg20
 z20 := sizeOf20
 v20 := zeroValue20
 i20 := by kernel_rfl
 t21 := underlying21
 a21 := isAgg21
 z21 := sizeOf21
 v21 := zeroValue21
 i21 := by kernel_rfl
 t22 := underlying157
 a22 := isAgg157
 z22 := sizeOf157
 v22 := zeroValue157
 i22 := by kernel_rfl
 t24 := underlying90
 a24 := isAgg90
 z24 := sizeOf90
 v24 := zeroValue90
 i24 := by kernel_rfl
 t25 := underlying198
 a25 := isAgg198
 z25 := sizeOf198
 v25 := zeroValue198
 i25 := by kernel_rfl
 t34 := underlying191
 a34 := isAgg191
 z34 := sizeOf191
 v34 := zeroValue191
 i34 := by kernel_rfl
 c34 := by kernel_rfl
 t36 := underlying206
 a36 := isAgg206
 z36 := sizeOf206
 v36 := zeroValue206
 i36 := by kernel_rfl
 t37 := underlying106
 a37 := isAgg106
 z37 := sizeOf106
 v37 := zeroValue106
 i37 := by kernel_rfl
 t39 := underlying194
 a39 := isAgg194
 z39 := sizeOf194
 v39 := zeroValue194
 i39 := by kernel_rfl
 t44 := underlying236
 a44 := isAgg236
 z44 := sizeOf236
 v44 := zeroValue236
 i44 := by kernel_rfl
 t47 := underlying253
 a47 := isAgg253
 z47 := sizeOf253
 v47 := zeroValue253
 i47 := by kernel_rfl
 t48 := underlying257
 a48 := isAgg257
 z48 := sizeOf257
 v48 := zeroValue257
 i48 := by kernel_rfl
 t50 := underlying259
 a50 := isAgg259
 z50 := sizeOf259
 v50 := zeroValue259
 i50 := by kernel_rfl
 t52 := underlying276
 a52 := isAgg276
 z52 := sizeOf276
 v52 := zeroValue276
 i52 := by kernel_rfl
 t55 := underlying278
 a55 := isAgg278
 z55 := sizeOf278
 v55 := zeroValue278
 i55 := by kernel_rfl
 t59 := underlying281
 a59 := isAgg281
 z59 := sizeOf281
 v59 := zeroValue281
 i59 := by kernel_rfl
 t60 := underlying267
 a60 := isAgg267
 z60 := sizeOf267
 v60 := zeroValue267
 i60 := by kernel_rfl
 t61 := underlying282
 a61 := isAgg282
 z61 := sizeOf282
 t65 := underlying285
 a65 := isAgg285
 z65 := sizeOf285
 v65 := zeroValue285
 i65 := by kernel_rfl
 t66 := underlying286
 a66 := isAgg286
 z66 := sizeOf286
 v66 := zeroValue286
 i66 := by kernel_rfl
 t67 := underlying217
 a67 := isAgg217
 z67 := sizeOf217
 v67 := zeroValue217
 i67 := by kernel_rfl
 g0 := by kernel_rfl
 m0 := by kernel_rfl
 g1 := by kernel_rfl
 m1 := by kernel_rfl
 g2 := by kernel_rfl
 m2 := by kernel_rfl
 g3 := by kernel_rfl
 m3 := by kernel_rfl
 g4 := by kernel_rfl
 m4 := by kernel_rfl }
def Tryz.lays144_ren : Go.Shelf.Ren := ⟨fun | 144 => 236 | 143 => 247 | 219 => 285 | 217 => 234 | 225 => 324 | 224 => 325 | 267 => 326 | 266 => 286 | 314 => 347 | n => n, fun | 9 => 9 | 4 => 4 | 3 => 3 | 5 => 5 | 46 => 206 | 146 => 268 | 51 => 267 | n => n, fun | 1 => 6 | n => n⟩
theorem Tryz.lays144 : Go.Proofs.Lays.n144 Tryz.prog Tryz.lays144_ren := {
 mixed := by kernel_rfl
 f143 := func247.trans (congrArg some (by kernel_rfl))
 f144 := func236.trans (congrArg some (by kernel_rfl))
 f217 := func234.trans (congrArg some (by kernel_rfl))
 f219 := func285.trans (congrArg some (by kernel_rfl))
 f224 := func325.trans (congrArg some (by kernel_rfl))
 f225 := func324.trans (congrArg some (by kernel_rfl))
 f266 := func286.trans (congrArg some (by kernel_rfl))
 f267 := func326.trans (congrArg some (by kernel_rfl))
 f314 := func347.trans (congrArg some (by kernel_rfl))
 t3 := underlying3
 a3 := isAgg3
 z3 := sizeOf3
 v3 := zeroValue3
 t4 := underlying4
 a4 := isAgg4
 z4 := sizeOf4
 v4 := zeroValue4
 t5 := underlying5
 a5 := isAgg5
 z5 := sizeOf5
 v5 := zeroValue5
 t9 := underlying9
 a9 := isAgg9
 z9 := sizeOf9
 v9 := zeroValue9
 t46 := underlying206
 a46 := isAgg206
 z46 := sizeOf206
 v46 := zeroValue206
 t51 := underlying267
 a51 := isAgg267
 z51 := sizeOf267
 v51 := zeroValue267
 t146 := underlying268
 a146 := isAgg268
 z146 := sizeOf268
 v146 := zeroValue268
 g1 := by kernel_rfl }
open Go.RowKit Go.Lib in
theorem Tryz.strings_Contains_one (s : ByteArray) (c : UInt8) (w : World) :
  Calls Tryz.prog 236 #[.string s, .string ⟨#[c]⟩] w fun e w' => e = .returned (.bool (decide (0 ≤ Lib.indexByte s.data.toList c))) ∧ w' = w := Any.strings_Contains_one Tryz.lays144 s c w
def Tryz.lays145_ren : Go.Shelf.Ren := ⟨fun | 145 => 157 | 220 => 230 | 219 => 285 | 217 => 234 | 225 => 324 | 224 => 325 | 267 => 326 | 266 => 286 | 314 => 347 | n => n, fun | 9 => 9 | 4 => 4 | 59 => 125 | 3 => 3 | 5 => 5 | 46 => 206 | 146 => 268 | 51 => 267 | n => n, fun | 1 => 6 | n => n⟩
theorem Tryz.lays145 : Go.Proofs.Lays.n145 Tryz.prog Tryz.lays145_ren := {
 mixed := by kernel_rfl
 f145 := func157.trans (congrArg some (by kernel_rfl))
 f217 := func234.trans (congrArg some (by kernel_rfl))
 f219 := func285.trans (congrArg some (by kernel_rfl))
 f220 := func230.trans (congrArg some (by kernel_rfl))
 f224 := func325.trans (congrArg some (by kernel_rfl))
 f225 := func324.trans (congrArg some (by kernel_rfl))
 f266 := func286.trans (congrArg some (by kernel_rfl))
 f267 := func326.trans (congrArg some (by kernel_rfl))
 f314 := func347.trans (congrArg some (by kernel_rfl))
 t3 := underlying3
 a3 := isAgg3
 z3 := sizeOf3
 v3 := zeroValue3
 t4 := underlying4
 a4 := isAgg4
 z4 := sizeOf4
 v4 := zeroValue4
 t5 := underlying5
 a5 := isAgg5
 z5 := sizeOf5
 v5 := zeroValue5
 t9 := underlying9
 a9 := isAgg9
 z9 := sizeOf9
 v9 := zeroValue9
 t46 := underlying206
 a46 := isAgg206
 z46 := sizeOf206
 v46 := zeroValue206
 t51 := underlying267
 a51 := isAgg267
 z51 := sizeOf267
 v51 := zeroValue267
 t59 := underlying125
 a59 := isAgg125
 z59 := sizeOf125
 v59 := zeroValue125
 t146 := underlying268
 a146 := isAgg268
 z146 := sizeOf268
 v146 := zeroValue268
 g1 := by kernel_rfl }
open Go.RowKit Go.Lib in
theorem Tryz.strings_Cut (s sep : ByteArray) (m : Int) (w : World) (hs : s.size < 4294967281) (hm : w.cell? ⟨6, 0, none⟩ = some (.int .i64 m)) :
  Calls Tryz.prog 157 #[.string s, .string sep] w fun e w' => e = .returned (.tuple #[.string ⟨(Lib.cut s.data.toList sep.data.toList).1.toArray⟩, .string ⟨(Lib.cut s.data.toList sep.data.toList).2.1.toArray⟩, .bool (Lib.cut s.data.toList sep.data.toList).2.2]) ∧ ∃ n, w' = w.drewN n := Any.strings_Cut Tryz.lays145 s sep m w hs hm
def Tryz.lays149_ren : Go.Shelf.Ren := ⟨fun | 149 => 235 | 222 => 287 | n => n, fun | 9 => 9 | 5 => 5 | 3 => 3 | 4 => 4 | n => n, fun | n => n⟩
theorem Tryz.lays149 : Go.Proofs.Lays.n149 Tryz.prog Tryz.lays149_ren := {
 mixed := by kernel_rfl
 f149 := func235.trans (congrArg some (by kernel_rfl))
 f222 := func287.trans (congrArg some (by kernel_rfl))
 t3 := underlying3
 a3 := isAgg3
 z3 := sizeOf3
 v3 := zeroValue3
 t4 := underlying4
 a4 := isAgg4
 z4 := sizeOf4
 v4 := zeroValue4
 t5 := underlying5
 a5 := isAgg5
 z5 := sizeOf5
 v5 := zeroValue5
 t9 := underlying9
 a9 := isAgg9
 z9 := sizeOf9
 v9 := zeroValue9 }
open Go.RowKit Go.Lib in
theorem Tryz.strings_LastIndexByte (s : ByteArray) (c : Int) (hs : s.size < 4611686018427387904) (w : World) :
  Calls Tryz.prog 235 #[.string s, .int .u8 c] w fun e w' => e = .returned (.int .i64 (Lib.lastIndexByte s c)) ∧ w' = w := Any.strings_LastIndexByte Tryz.lays149 s c hs w
def Tryz.lays99_ren : Go.Shelf.Ren := ⟨fun | 99 => 163 | 206 => 241 | n => n, fun | 9 => 9 | 4 => 4 | 3 => 3 | n => n, fun | n => n⟩
theorem Tryz.lays99 : Go.Proofs.Lays.n99 Tryz.prog Tryz.lays99_ren := {
 mixed := by kernel_rfl
 f99 := func163.trans (congrArg some (by kernel_rfl))
 f206 := func241.trans (congrArg some (by kernel_rfl))
 t3 := underlying3
 a3 := isAgg3
 z3 := sizeOf3
 v3 := zeroValue3
 t4 := underlying4
 a4 := isAgg4
 z4 := sizeOf4
 v4 := zeroValue4
 t9 := underlying9
 a9 := isAgg9
 z9 := sizeOf9
 v9 := zeroValue9 }
open Go.RowKit Go.Lib in
theorem Tryz.strings_HasPrefix (s p : ByteArray) (w : World) :
  Calls Tryz.prog 163 #[.string s, .string p] w fun e w' => e = .returned (.bool (Lib.hasPrefix s.data.toList p.data.toList)) ∧ w' = w := Any.strings_HasPrefix Tryz.lays99 s p w
def Tryz.lays146_ren : Go.Shelf.Ren := ⟨fun | 146 => 91 | 221 => 169 | 268 => 245 | 138 => 246 | 143 => 247 | 195 => 294 | 197 => 251 | 218 => 295 | 219 => 285 | 260 => 297 | 217 => 234 | 225 => 324 | 224 => 325 | 267 => 326 | 266 => 286 | 314 => 347 | n => n, fun | 9 => 9 | 31 => 82 | 3 => 3 | 4 => 4 | 0 => 0 | 105 => 188 | 21 => 21 | 5 => 5 | 46 => 206 | 119 => 220 | 139 => 223 | 138 => 222 | 146 => 268 | 51 => 267 | n => n, fun | 1 => 6 | 3 => 2 | 4 => 3 | n => n⟩
theorem Tryz.lays146 : Go.Proofs.Lays.n146 Tryz.prog Tryz.lays146_ren := {
 mixed := by kernel_rfl
 f138 := func246.trans (congrArg some (by kernel_rfl))
 f143 := func247.trans (congrArg some (by kernel_rfl))
 f146 := func91.trans (congrArg some (by kernel_rfl))
 f195 := func294.trans (congrArg some (by kernel_rfl))
 f197 := func251.trans (congrArg some (by kernel_rfl))
 f217 := func234.trans (congrArg some (by kernel_rfl))
 f218 := func295.trans (congrArg some (by kernel_rfl))
 f219 := func285.trans (congrArg some (by kernel_rfl))
 f221 := func169.trans (congrArg some (by kernel_rfl))
 f224 := func325.trans (congrArg some (by kernel_rfl))
 f225 := func324.trans (congrArg some (by kernel_rfl))
 f260 := func297.trans (congrArg some (by kernel_rfl))
 f266 := func286.trans (congrArg some (by kernel_rfl))
 f267 := func326.trans (congrArg some (by kernel_rfl))
 f268 := func245.trans (congrArg some (by kernel_rfl))
 f314 := func347.trans (congrArg some (by kernel_rfl))
 t0 := underlying0
 a0 := isAgg0
 z0 := sizeOf0
 v0 := zeroValue0
 t3 := underlying3
 a3 := isAgg3
 z3 := sizeOf3
 v3 := zeroValue3
 t4 := underlying4
 a4 := isAgg4
 z4 := sizeOf4
 v4 := zeroValue4
 t5 := underlying5
 a5 := isAgg5
 z5 := sizeOf5
 v5 := zeroValue5
 t9 := underlying9
 a9 := isAgg9
 z9 := sizeOf9
 v9 := zeroValue9
 t21 := underlying21
 a21 := isAgg21
 z21 := sizeOf21
 v21 := zeroValue21
 t31 := underlying82
 a31 := isAgg82
 z31 := sizeOf82
 v31 := zeroValue82
 t46 := underlying206
 a46 := isAgg206
 z46 := sizeOf206
 v46 := zeroValue206
 t51 := underlying267
 a51 := isAgg267
 z51 := sizeOf267
 v51 := zeroValue267
 t105 := underlying188
 a105 := isAgg188
 z105 := sizeOf188
 v105 := zeroValue188
 t119 := underlying220
 a119 := isAgg220
 z119 := sizeOf220
 t138 := underlying222
 a138 := isAgg222
 z138 := sizeOf222
 v138 := zeroValue222
 t139 := underlying223
 a139 := isAgg223
 z139 := sizeOf223
 v139 := zeroValue223
 t146 := underlying268
 a146 := isAgg268
 z146 := sizeOf268
 v146 := zeroValue268
 g1 := by kernel_rfl
 g3 := by kernel_rfl
 g4 := by kernel_rfl }
open Go.RowKit Go.Lib in
theorem Tryz.strings_Split (s sep : ByteArray) (m : Int) (w : World) (hs : s.size < 4294967281) (hm : w.cell? ⟨6, 0, none⟩ = some (.int .i64 m)) (h1 : 1 ≤ sep.size) :
  Calls Tryz.prog 91 #[.string s, .string sep] w fun e w' =>
   e = .returned (.slice (some ⟨w.heap.size, 0, none⟩) (Lib.countB s sep + 1) (Lib.countB s sep + 1)) ∧ w' = w.alloc (.cells ((Lib.splitB sep 0 (Lib.countB s sep) s).map Value.string).toArray 9) := Any.strings_Split Tryz.lays146 (by kernel_rfl) s sep m w hs hm h1
def Tryz.lays197_ren : Go.Shelf.Ren := ⟨fun | 197 => 251 | 260 => 297 | n => n, fun | 9 => 9 | 21 => 21 | 3 => 3 | 4 => 4 | 5 => 5 | 105 => 188 | 119 => 220 | 0 => 0 | 46 => 206 | 139 => 223 | 138 => 222 | n => n, fun | 3 => 2 | 4 => 3 | n => n⟩
theorem Tryz.lays197 : Go.Proofs.Lays.n197 Tryz.prog Tryz.lays197_ren := {
 mixed := by kernel_rfl
 f197 := func251.trans (congrArg some (by kernel_rfl))
 f260 := func297.trans (congrArg some (by kernel_rfl))
 t0 := underlying0
 a0 := isAgg0
 z0 := sizeOf0
 v0 := zeroValue0
 t3 := underlying3
 a3 := isAgg3
 z3 := sizeOf3
 v3 := zeroValue3
 t4 := underlying4
 a4 := isAgg4
 z4 := sizeOf4
 v4 := zeroValue4
 t5 := underlying5
 a5 := isAgg5
 z5 := sizeOf5
 v5 := zeroValue5
 t9 := underlying9
 a9 := isAgg9
 z9 := sizeOf9
 v9 := zeroValue9
 t21 := underlying21
 a21 := isAgg21
 z21 := sizeOf21
 v21 := zeroValue21
 t46 := underlying206
 a46 := isAgg206
 z46 := sizeOf206
 v46 := zeroValue206
 t105 := underlying188
 a105 := isAgg188
 z105 := sizeOf188
 v105 := zeroValue188
 t119 := underlying220
 a119 := isAgg220
 z119 := sizeOf220
 t138 := underlying222
 a138 := isAgg222
 z138 := sizeOf222
 v138 := zeroValue222
 t139 := underlying223
 a139 := isAgg223
 z139 := sizeOf223
 v139 := zeroValue223
 g3 := by kernel_rfl
 g4 := by kernel_rfl }
def Tryz.lays151_ren : Go.Shelf.Ren := ⟨fun | 151 => 252 | 152 => 298 | 137 => 160 | 119 => 330 | 224 => 325 | 225 => 324 | 217 => 234 | 266 => 286 | n => n, fun | 9 => 9 | 21 => 21 | 4 => 4 | 3 => 3 | 5 => 5 | 0 => 0 | 46 => 206 | n => n, fun | n => n⟩
theorem Tryz.lays151 : Go.Proofs.Lays.n151 Tryz.prog Tryz.lays151_ren := {
 mixed := by kernel_rfl
 f119 := func330.trans (congrArg some (by kernel_rfl))
 f137 := func160.trans (congrArg some (by kernel_rfl))
 f151 := func252.trans (congrArg some (by kernel_rfl))
 f152 := func298.trans (congrArg some (by kernel_rfl))
 f217 := func234.trans (congrArg some (by kernel_rfl))
 f224 := func325.trans (congrArg some (by kernel_rfl))
 f225 := func324.trans (congrArg some (by kernel_rfl))
 f266 := func286.trans (congrArg some (by kernel_rfl))
 t0 := underlying0
 a0 := isAgg0
 z0 := sizeOf0
 v0 := zeroValue0
 t3 := underlying3
 a3 := isAgg3
 z3 := sizeOf3
 v3 := zeroValue3
 t4 := underlying4
 a4 := isAgg4
 z4 := sizeOf4
 v4 := zeroValue4
 t5 := underlying5
 a5 := isAgg5
 z5 := sizeOf5
 v5 := zeroValue5
 t9 := underlying9
 a9 := isAgg9
 z9 := sizeOf9
 v9 := zeroValue9
 t21 := underlying21
 a21 := isAgg21
 z21 := sizeOf21
 v21 := zeroValue21
 t46 := underlying206
 a46 := isAgg206
 z46 := sizeOf206
 v46 := zeroValue206 }
open Go.RowKit Go.Lib in
theorem Tryz.strings_ContainsRune_ascii (s : ByteArray) (r : Int) (w : World) (h0 : 0 ≤ r) (h1 : r < 128) :
  Calls Tryz.prog 252 #[.string s, .int .i32 r] w fun e w' => e = .returned (.bool (decide (0 ≤ Lib.indexByte s.data.toList r.toNat.toUInt8))) ∧ w' = w := Any.strings_ContainsRune_ascii Tryz.lays151 s r w h0 h1
def Tryz.lays264_ren : Go.Shelf.Ren := ⟨fun | 264 => 187 | n => n, fun | 53 => 157 | 46 => 206 | n => n, fun | n => n⟩
theorem Tryz.lays264 : Go.Proofs.Lays.n264 Tryz.prog Tryz.lays264_ren := {
 mixed := by kernel_rfl
 f264 := func187.trans (congrArg some (by kernel_rfl))
 t46 := underlying206
 a46 := isAgg206
 z46 := sizeOf206
 v46 := zeroValue206
 t53 := underlying157
 a53 := isAgg157
 z53 := sizeOf157
 v53 := zeroValue157 }
open Go.RowKit Go.Lib in
theorem Tryz.bits_Mul64 (x y : Nat) (hx : x < 18446744073709551616) (hy : y < 18446744073709551616) (w : World) :
  Calls Tryz.prog 187 #[.int .u64 x, .int .u64 y] w fun e w' => e = .returned (.tuple #[.int .u64 ((x * y / 18446744073709551616 : Nat) : Int), .int .u64 ((x * y % 18446744073709551616 : Nat) : Int)]) ∧ w' = w := Any.bits_Mul64 Tryz.lays264 x y hx hy w
open Go.RowKit Go.Lib in
theorem Tryz.utf8_DecodeRuneInString (s : ByteArray) (w : World) (hT : Lib.Utf8Tabs 2 3 w) :
  Calls Tryz.prog 251 #[.string s] w fun e w' => e = .returned (.tuple #[.int .i32 (Lib.decodeGo s).1, .int .i64 (Lib.decodeGo s).2]) ∧ Below w.heap.size w w' := Any.utf8_DecodeRuneInString Tryz.lays197 s w hT
end Go.Proofs

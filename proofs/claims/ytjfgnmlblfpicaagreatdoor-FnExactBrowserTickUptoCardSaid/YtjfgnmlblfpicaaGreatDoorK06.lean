/- Part 6 of the proof of the card of laws.Rows.FnExactBrowserTick: lemmas. No condition. -/
import Derived.Test.YtjfgnmlblfpicaaGreatDoorK05
import Derived.Shelf.Strings.Builder1
import Derived.Shelf.Strings.Builder2
import Derived.Shelf.Strings.OnBuilder
import Derived.Shelf.Small.Utf8
import Derived.Shelf.Small.Bits
import Derived.Shelf.Small.Strs
import Derived.Shelf.Small.Wraps
import Derived.Shelf.Strings.BuilderF
import Derived.Shelf.Strings.BuilderK
import Derived.Shelf.Utf8.RuneCount
import Derived.Shelf.Strings.Builder2Cap
import Derived.Shelf.Strconv.Itoa0
import Derived.Shelf.Strconv.Itoa1
import Derived.Shelf.LaysM
import Derived.Shelf.Strconv.Itoa2
import Derived.Shelf.Strconv.Itoa3
import Derived.Shelf.Strings.Search1
import Derived.Shelf.Strings.Search2
import Derived.Shelf.Strings.Search3
import Derived.Shelf.Strings.Cut
import Derived.Shelf.Strings.Count
import Derived.Shelf.Strings.Shaped
import Derived.Shelf.Sort.Plain
import Derived.Shelf.Strings.LastIndex
import Derived.Shelf.Strings.Prefix
import Derived.Shelf.Strings.Split
import Derived.Shelf.Strings.Replace
import Derived.Shelf.Strings.SplitShaped
import Derived.Shelf.Unicode.Decode
import Derived.Shelf.Strings.Runes
import Derived.Shelf.Strings.RuneCount
import Derived.Shelf.Strings.IndexAny
import Derived.Shelf.Strings.AsciiSet
import Derived.Shelf.Strings.IndexAnyAll
import Derived.Shelf.Strings.Explode
import Derived.Shelf.Unicode.DecodeSlow
import Derived.Shelf.Unicode.DecodeAny
import Derived.Shelf.Strings.BuilderCap
import Derived.Shelf.Slices.Turned
import Derived.Shelf.Slices.Equal
import Derived.Ground.Names2Prog
import Derived.Shelf.Slices.Clone
import Derived.Shelf.Slices.CompactI
import Derived.Shelf.Slices.SearchI
import Derived.Shelf.Slices.Cells
import Derived.Shelf.Slices.In.SortNone
import Derived.Shelf.Slices.Empties2
import Derived.Ground.SlgnProg
import Derived.Shelf.SlicesE.Clone
import Derived.Ground.PaProg
import Derived.Shelf.Path.Small
import Derived.Test.YtjfgnmlblfpicaaGreatDoorProg
import Derived.KernelRfl
import Derived.Lib.AppendIntMem
import Derived.Test.YtjfgnmlblfpicaaGreatDoorK01
import Derived.Test.YtjfgnmlblfpicaaGreatDoorK02
import Derived.Test.YtjfgnmlblfpicaaGreatDoorK03
import Derived.Test.YtjfgnmlblfpicaaGreatDoorK04
set_option linter.unusedVariables false
set_option linter.unusedSimpArgs false
set_option maxRecDepth 100000
open Bool renaming and_eq_true → qr, and_true → p1, eq_iff_iff → pp, false_and → kd, false_eq_true → zm, not_true → y5, or_eq_true → y4, true_and → xf
open Int renaming reduceLE → qi, reduceLT → qh, reduceToNat → qf, toNat_natCast → qp
open List renaming all_cons → lm, all_eq_true → zk, append_assoc → zb, append_nil → zl, cons_append → k9, drop_eq_getElem_cons → qo, drop_eq_nil_of_le → qv, getElem_mem → z8, isPrefixOf → po, length → xb, length_append → qu, length_cons → qt, length_eq_zero_iff → qw, length_map → za, length_nil → qx, length_pos_iff → zo, length_singleton → kf, length_take → zh, map_append → xh, map_cons → zu, map_nil → vt, map_take → p0, mem_append → ja, mem_cons → zp, mem_map → vq, mem_singleton → j2, replicate → z7, set_cons_succ → xu, set_cons_zero → xe, take_append_drop → wn, take_length → zx, take_of_length_le → zc
open Nat renaming add_zero → jk, eq_zero_or_pos → wz, le_refl → zd, lt_or_ge → qm, not_lt → xd, reduceAdd → qb, reduceBEq → qe, reduceLT → qc, reduceLeDiff → qa, reduceMul → qg, reduceSub → qd, sub_self → p2, zero_add → j8
open Option renaming map_eq_some_iff → j7
section
namespace Go.Proofs
open Go.Shelf
def Tryz.lays169_ren : Go.Shelf.Ren := ⟨fun | 169 => 204 | n => n, fun | 70 => 192 | 9 => 9 | 0 => 0 | 72 => 194 | 37 => 112 | 127 => 216 | 3 => 3 | 5 => 5 | n => n, fun | n => n⟩
theorem Tryz.lays169 : Go.Proofs.Lays.n169 Tryz.prog Tryz.lays169_ren := {
  mixed := by kernel_rfl
  f169 := Tryz.func204.trans (congrArg some (by kernel_rfl))
  t0 := Tryz.underlying0
  a0 := Tryz.isAgg0
  z0 := Tryz.sizeOf0
  v0 := Tryz.zeroValue0
  t3 := Tryz.underlying3
  a3 := Tryz.isAgg3
  z3 := Tryz.sizeOf3
  v3 := Tryz.zeroValue3
  t9 := Tryz.underlying9
  a9 := Tryz.isAgg9
  z9 := Tryz.sizeOf9
  v9 := Tryz.zeroValue9
  t37 := Tryz.underlying112
  a37 := Tryz.isAgg112
  z37 := Tryz.sizeOf112
  v37 := Tryz.zeroValue112
  t70 := Tryz.underlying192
  a70 := Tryz.isAgg192
  z70 := Tryz.sizeOf192
  v70 := Tryz.zeroValue192
  t72 := Tryz.underlying194
  a72 := Tryz.isAgg194
  z72 := Tryz.sizeOf194
  v72 := Tryz.zeroValue194
  t127 := Tryz.underlying216
  a127 := Tryz.isAgg216
  z127 := Tryz.sizeOf216
  v127 := Tryz.zeroValue216 }
theorem Tryz.Builder_Extra_169 : Builder.Extra Tryz.prog Tryz.lays169_ren := {
  sizeBuilder := by kernel_rfl
  liesBuilder := by kernel_rfl
  t5 := Tryz.underlying5
  a5 := Tryz.isAgg5
  z5 := Tryz.sizeOf5
  v5 := Tryz.zeroValue5
  infoByte := by kernel_rfl
  cellsByte := by kernel_rfl
  sizeByte := by kernel_rfl
  neB5 := by decide }
def Tryz.lays156_ren : Go.Shelf.Ren := ⟨fun | 156 => 174 | 165 => 211 | 166 => 203 | 169 => 204 | 240 => 231 | 241 => 233 | 276 => 253 | 277 => 254 | n => n, fun | 31 => 26 | 9 => 9 | 3 => 3 | 4 => 4 | 0 => 0 | 20 => 20 | 72 => 194 | 76 => 197 | 70 => 192 | 37 => 112 | 75 => 196 | 127 => 216 | 164 => 233 | 5 => 5 | 80 => 142 | n => n, fun | n => n⟩
theorem Tryz.lays156 : Go.Proofs.Lays.n156 Tryz.prog Tryz.lays156_ren := {
  mixed := by kernel_rfl
  f156 := Tryz.func174.trans (congrArg some (by kernel_rfl))
  f165 := Tryz.func211.trans (congrArg some (by kernel_rfl))
  f166 := Tryz.func203.trans (congrArg some (by kernel_rfl))
  f169 := Tryz.func204.trans (congrArg some (by kernel_rfl))
  f240 := Tryz.func231.trans (congrArg some (by kernel_rfl))
  f241 := Tryz.func233.trans (congrArg some (by kernel_rfl))
  f276 := Tryz.func253.trans (congrArg some (by kernel_rfl))
  f277 := Tryz.func254.trans (congrArg some (by kernel_rfl))
  t0 := Tryz.underlying0
  a0 := Tryz.isAgg0
  z0 := Tryz.sizeOf0
  v0 := Tryz.zeroValue0
  t3 := Tryz.underlying3
  a3 := Tryz.isAgg3
  z3 := Tryz.sizeOf3
  v3 := Tryz.zeroValue3
  t4 := Tryz.underlying4
  a4 := Tryz.isAgg4
  z4 := Tryz.sizeOf4
  v4 := Tryz.zeroValue4
  t9 := Tryz.underlying9
  a9 := Tryz.isAgg9
  z9 := Tryz.sizeOf9
  v9 := Tryz.zeroValue9
  t20 := Tryz.underlying20
  a20 := Tryz.isAgg20
  z20 := Tryz.sizeOf20
  v20 := Tryz.zeroValue20
  t31 := Tryz.underlying26
  a31 := Tryz.isAgg26
  z31 := Tryz.sizeOf26
  v31 := Tryz.zeroValue26
  t37 := Tryz.underlying112
  a37 := Tryz.isAgg112
  z37 := Tryz.sizeOf112
  v37 := Tryz.zeroValue112
  t70 := Tryz.underlying192
  a70 := Tryz.isAgg192
  z70 := Tryz.sizeOf192
  v70 := Tryz.zeroValue192
  t72 := Tryz.underlying194
  a72 := Tryz.isAgg194
  z72 := Tryz.sizeOf194
  v72 := Tryz.zeroValue194
  t75 := Tryz.underlying196
  a75 := Tryz.isAgg196
  z75 := Tryz.sizeOf196
  v75 := Tryz.zeroValue196
  t76 := Tryz.underlying197
  a76 := Tryz.isAgg197
  z76 := Tryz.sizeOf197
  v76 := Tryz.zeroValue197
  t127 := Tryz.underlying216
  a127 := Tryz.isAgg216
  z127 := Tryz.sizeOf216
  v127 := Tryz.zeroValue216
  t164 := Tryz.underlying233
  a164 := Tryz.isAgg233
  z164 := Tryz.sizeOf233
  v164 := Tryz.zeroValue233 }
theorem Tryz.Builder_Extra_156 : Builder.Extra Tryz.prog Tryz.lays156_ren := {
  sizeBuilder := by kernel_rfl
  liesBuilder := by kernel_rfl
  t5 := Tryz.underlying5
  a5 := Tryz.isAgg5
  z5 := Tryz.sizeOf5
  v5 := Tryz.zeroValue5
  infoByte := by kernel_rfl
  cellsByte := by kernel_rfl
  sizeByte := by kernel_rfl
  neB5 := by decide }
open Go.RowKit in
theorem Tryz.strings_Join (bk o c : Nat) (xs : List ByteArray) (sep : ByteArray) (w : World) (hcells : ∀ (j : Nat) x, xs[j]? = some x → w.cell? ⟨bk, o + j, none⟩ = some (.string x)) (hbk : bk < w.heap.size) (hN : xs.length ≤ 140737488355328) (hcap : xs.length ≤ c) (hlen : (Lib.join (xs.map (·.data.toList)) sep.data.toList).length ≤ 140737488355328) :
    Calls Tryz.prog 174 #[.slice (some ⟨bk, o, none⟩) xs.length c, .string sep] w fun e w' => e = .returned (.string ⟨(Lib.join (xs.map (·.data.toList)) sep.data.toList).toArray⟩) ∧ Below w.heap.size w w' := Any.strings_Join Tryz.lays156 Tryz.Builder_Extra_156 bk o c xs sep w hcells hbk hN hcap hlen
def Tryz.lays137_ren : Go.Shelf.Ren := ⟨fun | 137 => 139 | 217 => 175 | 266 => 212 | n => n, fun | 9 => 9 | 5 => 5 | 3 => 3 | n => n, fun | n => n⟩
theorem Tryz.lays137 : Go.Proofs.Lays.n137 Tryz.prog Tryz.lays137_ren := {
  mixed := by kernel_rfl
  f137 := Tryz.func139.trans (congrArg some (by kernel_rfl))
  f217 := Tryz.func175.trans (congrArg some (by kernel_rfl))
  f266 := Tryz.func212.trans (congrArg some (by kernel_rfl))
  t3 := Tryz.underlying3
  a3 := Tryz.isAgg3
  z3 := Tryz.sizeOf3
  v3 := Tryz.zeroValue3
  t5 := Tryz.underlying5
  a5 := Tryz.isAgg5
  z5 := Tryz.sizeOf5
  v5 := Tryz.zeroValue5
  t9 := Tryz.underlying9
  a9 := Tryz.isAgg9
  z9 := Tryz.sizeOf9
  v9 := Tryz.zeroValue9 }
open Go.RowKit in
theorem Tryz.strings_IndexByte (s : ByteArray) (c : Int) (w : World) :
    Calls Tryz.prog 139 #[.string s, .int .u8 c] w fun e w' => e = .returned (.int .i64 (Lib.indexByte s.data.toList c.toNat.toUInt8)) ∧ w' = w := Any.strings_IndexByte Tryz.lays137 s c w
def Tryz.laysM171_ren : Go.Shelf.Ren := ⟨fun | 171 => 159 | 243 => 202 | 246 => 230 | 283 => 249 | 284 => 250 | 285 => 251 | 286 => 252 | 129 => 172 | 317 => 268 | 318 => 269 | 319 => 270 | 320 => 271 | 337 => 276 | 338 => 277 | n => n, fun | 3 => 3 | 9 => 9 | 2 => 2 | 4 => 4 | 171 => 229 | 0 => 0 | 53 => 172 | 37 => 112 | 5 => 5 | 173 => 231 | 212 => 243 | 51 => 170 | 20 => 20 | 213 => 244 | 46 => 146 | 232 => 251 | 233 => 252 | n => n, fun | 17 => 2 | 18 => 5 | 19 => 6 | n => n⟩
theorem Tryz.laysM171 : Go.Proofs.LaysM.n171 Tryz.prog Tryz.laysM171_ren := {
  mixed := by kernel_rfl
  f129 := Tryz.func172.trans (congrArg some (by kernel_rfl))
  f171 := Tryz.func159.trans (congrArg some (by kernel_rfl))
  f243 := Tryz.func202.trans (congrArg some (by kernel_rfl))
  f246 := Tryz.func230.trans (congrArg some (by kernel_rfl))
  f283 := Tryz.func249.trans (congrArg some (by kernel_rfl))
  f284 := Tryz.func250.trans (congrArg some (by kernel_rfl))
  f285 := Tryz.func251.trans (congrArg some (by kernel_rfl))
  f286 := Tryz.func252.trans (congrArg some (by kernel_rfl))
  f317 := Tryz.func268.trans (congrArg some (by kernel_rfl))
  f318 := Tryz.func269.trans (congrArg some (by kernel_rfl))
  f319 := Tryz.func270.trans (congrArg some (by kernel_rfl))
  f320 := Tryz.func271.trans (congrArg some (by kernel_rfl))
  f337 := Tryz.func276.trans (congrArg some (by kernel_rfl))
  f338 := Tryz.func277.trans (congrArg some (by kernel_rfl))
  t0 := Tryz.underlying0
  a0 := Tryz.isAgg0
  z0 := Tryz.sizeOf0
  v0 := Tryz.zeroValue0
  t2 := Tryz.underlying2
  a2 := Tryz.isAgg2
  z2 := Tryz.sizeOf2
  v2 := Tryz.zeroValue2
  t3 := Tryz.underlying3
  a3 := Tryz.isAgg3
  z3 := Tryz.sizeOf3
  v3 := Tryz.zeroValue3
  t4 := Tryz.underlying4
  a4 := Tryz.isAgg4
  z4 := Tryz.sizeOf4
  v4 := Tryz.zeroValue4
  t5 := Tryz.underlying5
  a5 := Tryz.isAgg5
  z5 := Tryz.sizeOf5
  v5 := Tryz.zeroValue5
  t9 := Tryz.underlying9
  a9 := Tryz.isAgg9
  z9 := Tryz.sizeOf9
  v9 := Tryz.zeroValue9
  t20 := Tryz.underlying20
  a20 := Tryz.isAgg20
  z20 := Tryz.sizeOf20
  v20 := Tryz.zeroValue20
  t37 := Tryz.underlying112
  a37 := Tryz.isAgg112
  z37 := Tryz.sizeOf112
  v37 := Tryz.zeroValue112
  t46 := Tryz.underlying146
  a46 := Tryz.isAgg146
  z46 := Tryz.sizeOf146
  v46 := Tryz.zeroValue146
  t51 := Tryz.underlying170
  a51 := Tryz.isAgg170
  z51 := Tryz.sizeOf170
  v51 := Tryz.zeroValue170
  t53 := Tryz.underlying172
  a53 := Tryz.isAgg172
  z53 := Tryz.sizeOf172
  v53 := Tryz.zeroValue172
  t171 := Tryz.underlying229
  a171 := Tryz.isAgg229
  z171 := Tryz.sizeOf229
  v171 := Tryz.zeroValue229
  t173 := Tryz.underlying231
  a173 := Tryz.isAgg231
  z173 := Tryz.sizeOf231
  v173 := Tryz.zeroValue231
  t212 := Tryz.underlying243
  a212 := Tryz.isAgg243
  z212 := Tryz.sizeOf243
  v212 := Tryz.zeroValue243
  t213 := Tryz.underlying244
  a213 := Tryz.isAgg244
  z213 := Tryz.sizeOf244
  t232 := Tryz.underlying251
  a232 := Tryz.isAgg251
  z232 := Tryz.sizeOf251
  v232 := Tryz.zeroValue251
  t233 := Tryz.underlying252
  a233 := Tryz.isAgg252
  z233 := Tryz.sizeOf252
  v233 := Tryz.zeroValue252
  g17 := by kernel_rfl
  g18 := by kernel_rfl
  g19 := by kernel_rfl
  i0 := by kernel_rfl
  i2 := by kernel_rfl
  i3 := by kernel_rfl
  i4 := by kernel_rfl
  i5 := by kernel_rfl
  i9 := by kernel_rfl
  i20 := by kernel_rfl
  i37 := by kernel_rfl
  i46 := by kernel_rfl
  i51 := by kernel_rfl
  i53 := by kernel_rfl
  i171 := by kernel_rfl
  i173 := by kernel_rfl
  i212 := by kernel_rfl
  i232 := by kernel_rfl
  i233 := by kernel_rfl
  m17 := by kernel_rfl
  m18 := by kernel_rfl
  m19 := by kernel_rfl }
open Go.RowKit Go.Sort Go.Lib in
theorem Tryz.strconv_Itoa (n : Int) (h0 : -9223372036854775808 ≤ n) (h1 : n ≤ 9223372036854775807) (w : World) (htab : Lib.TabIs Tryz.prog w "internal/strconv.uint64pow10" .u64 Lib.pow10Tab) :
    Calls Tryz.prog 159 #[.int .i64 n] w fun e w' => e = .returned (.string ⟨(Lib.itoa n).toArray⟩) ∧ ∃ k os, w' = grow (w.drewN k) os := Any.strconv_Itoa Tryz.laysM171 n h0 h1 w htab
def Tryz.lays145_ren : Go.Shelf.Ren := ⟨fun | 145 => 198 | 220 => 227 | 219 => 246 | 217 => 175 | 225 => 265 | 224 => 264 | 267 => 266 | 266 => 212 | 314 => 275 | n => n, fun | 9 => 9 | 4 => 4 | 59 => 178 | 3 => 3 | 5 => 5 | 46 => 146 | 146 => 245 | 51 => 170 | n => n, fun | 1 => 1 | n => n⟩
theorem Tryz.lays145 : Go.Proofs.Lays.n145 Tryz.prog Tryz.lays145_ren := {
  mixed := by kernel_rfl
  f145 := Tryz.func198.trans (congrArg some (by kernel_rfl))
  f217 := Tryz.func175.trans (congrArg some (by kernel_rfl))
  f219 := Tryz.func246.trans (congrArg some (by kernel_rfl))
  f220 := Tryz.func227.trans (congrArg some (by kernel_rfl))
  f224 := Tryz.func264.trans (congrArg some (by kernel_rfl))
  f225 := Tryz.func265.trans (congrArg some (by kernel_rfl))
  f266 := Tryz.func212.trans (congrArg some (by kernel_rfl))
  f267 := Tryz.func266.trans (congrArg some (by kernel_rfl))
  f314 := Tryz.func275.trans (congrArg some (by kernel_rfl))
  t3 := Tryz.underlying3
  a3 := Tryz.isAgg3
  z3 := Tryz.sizeOf3
  v3 := Tryz.zeroValue3
  t4 := Tryz.underlying4
  a4 := Tryz.isAgg4
  z4 := Tryz.sizeOf4
  v4 := Tryz.zeroValue4
  t5 := Tryz.underlying5
  a5 := Tryz.isAgg5
  z5 := Tryz.sizeOf5
  v5 := Tryz.zeroValue5
  t9 := Tryz.underlying9
  a9 := Tryz.isAgg9
  z9 := Tryz.sizeOf9
  v9 := Tryz.zeroValue9
  t46 := Tryz.underlying146
  a46 := Tryz.isAgg146
  z46 := Tryz.sizeOf146
  v46 := Tryz.zeroValue146
  t51 := Tryz.underlying170
  a51 := Tryz.isAgg170
  z51 := Tryz.sizeOf170
  v51 := Tryz.zeroValue170
  t59 := Tryz.underlying178
  a59 := Tryz.isAgg178
  z59 := Tryz.sizeOf178
  v59 := Tryz.zeroValue178
  t146 := Tryz.underlying245
  a146 := Tryz.isAgg245
  z146 := Tryz.sizeOf245
  v146 := Tryz.zeroValue245
  g1 := by kernel_rfl }
open Go.RowKit Go.Lib in
theorem Tryz.strings_Cut (s sep : ByteArray) (m : Int) (w : World) (hs : s.size < 4294967281) (hm : w.cell? ⟨1, 0, none⟩ = some (.int .i64 m)) :
    Calls Tryz.prog 198 #[.string s, .string sep] w fun e w' => e = .returned (.tuple #[.string ⟨(Lib.cut s.data.toList sep.data.toList).1.toArray⟩, .string ⟨(Lib.cut s.data.toList sep.data.toList).2.1.toArray⟩, .bool (Lib.cut s.data.toList sep.data.toList).2.2]) ∧ ∃ n, w' = w.drewN n := Any.strings_Cut Tryz.lays145 s sep m w hs hm
def Tryz.lays189_ren : Go.Shelf.Ren := ⟨fun | 189 => 110 | 125 => 136 | 257 => 135 | 128 => 171 | 129 => 172 | 294 => 162 | 295 => 163 | 296 => 164 | 297 => 165 | 298 => 166 | 299 => 167 | 216 => 168 | 300 => 169 | 301 => 170 | 328 => 205 | 329 => 206 | 330 => 207 | 331 => 208 | 332 => 209 | 215 => 210 | 343 => 232 | n => n, fun | 28 => 105 | 3 => 3 | 46 => 146 | 0 => 0 | 51 => 170 | 53 => 172 | 4 => 4 | 183 => 163 | 182 => 162 | 131 => 135 | 5 => 5 | 9 => 9 | 218 => 199 | 222 => 203 | 228 => 217 | 229 => 218 | n => n, fun | n => n⟩
theorem Tryz.lays189 : Go.Proofs.Lays.n189 Tryz.prog Tryz.lays189_ren := {
  mixed := by kernel_rfl
  f125 := Tryz.func136.trans (congrArg some (by kernel_rfl))
  f128 := Tryz.func171.trans (congrArg some (by kernel_rfl))
  f129 := Tryz.func172.trans (congrArg some (by kernel_rfl))
  f189 := Tryz.func110.trans (congrArg some (by kernel_rfl))
  f215 := Tryz.func210.trans (congrArg some (by kernel_rfl))
  f216 := Tryz.func168.trans (congrArg some (by kernel_rfl))
  f257 := Tryz.func135.trans (congrArg some (by kernel_rfl))
  f294 := Tryz.func162.trans (congrArg some (by kernel_rfl))
  f295 := Tryz.func163.trans (congrArg some (by kernel_rfl))
  f296 := Tryz.func164.trans (congrArg some (by kernel_rfl))
  f297 := Tryz.func165.trans (congrArg some (by kernel_rfl))
  f298 := Tryz.func166.trans (congrArg some (by kernel_rfl))
  f299 := Tryz.func167.trans (congrArg some (by kernel_rfl))
  f300 := Tryz.func169.trans (congrArg some (by kernel_rfl))
  f301 := Tryz.func170.trans (congrArg some (by kernel_rfl))
  f328 := Tryz.func205.trans (congrArg some (by kernel_rfl))
  f329 := Tryz.func206.trans (congrArg some (by kernel_rfl))
  f330 := Tryz.func207.trans (congrArg some (by kernel_rfl))
  f331 := Tryz.func208.trans (congrArg some (by kernel_rfl))
  f332 := Tryz.func209.trans (congrArg some (by kernel_rfl))
  f343 := Tryz.func232.trans (congrArg some (by kernel_rfl))
  t0 := Tryz.underlying0
  a0 := Tryz.isAgg0
  z0 := Tryz.sizeOf0
  v0 := Tryz.zeroValue0
  t3 := Tryz.underlying3
  a3 := Tryz.isAgg3
  z3 := Tryz.sizeOf3
  v3 := Tryz.zeroValue3
  t4 := Tryz.underlying4
  a4 := Tryz.isAgg4
  z4 := Tryz.sizeOf4
  v4 := Tryz.zeroValue4
  t5 := Tryz.underlying5
  a5 := Tryz.isAgg5
  z5 := Tryz.sizeOf5
  v5 := Tryz.zeroValue5
  t9 := Tryz.underlying9
  a9 := Tryz.isAgg9
  z9 := Tryz.sizeOf9
  v9 := Tryz.zeroValue9
  t28 := Tryz.underlying105
  a28 := Tryz.isAgg105
  z28 := Tryz.sizeOf105
  v28 := Tryz.zeroValue105
  t46 := Tryz.underlying146
  a46 := Tryz.isAgg146
  z46 := Tryz.sizeOf146
  v46 := Tryz.zeroValue146
  t51 := Tryz.underlying170
  a51 := Tryz.isAgg170
  z51 := Tryz.sizeOf170
  v51 := Tryz.zeroValue170
  t53 := Tryz.underlying172
  a53 := Tryz.isAgg172
  z53 := Tryz.sizeOf172
  v53 := Tryz.zeroValue172
  t131 := Tryz.underlying135
  a131 := Tryz.isAgg135
  z131 := Tryz.sizeOf135
  v131 := Tryz.zeroValue135
  t182 := Tryz.underlying162
  a182 := Tryz.isAgg162
  z182 := Tryz.sizeOf162
  v182 := Tryz.zeroValue162
  t183 := Tryz.underlying163
  a183 := Tryz.isAgg163
  z183 := Tryz.sizeOf163
  v183 := Tryz.zeroValue163
  t218 := Tryz.underlying199
  a218 := Tryz.isAgg199
  z218 := Tryz.sizeOf199
  v218 := Tryz.zeroValue199
  t222 := Tryz.underlying203
  a222 := Tryz.isAgg203
  z222 := Tryz.sizeOf203
  v222 := Tryz.zeroValue203
  t228 := Tryz.underlying217
  a228 := Tryz.isAgg217
  z228 := Tryz.sizeOf217
  v228 := Tryz.zeroValue217
  t229 := Tryz.underlying218
  a229 := Tryz.isAgg218
  z229 := Tryz.sizeOf218
  v229 := Tryz.zeroValue218 }
open Go.Sort Go.RowKit in
theorem Tryz.slices_Sort_int (blk off cap : Nat) (zs : List Int) (w : World) (hH : Holds (Value.int .i64) w blk off zs.toArray) (hblk : blk < w.heap.size) (hsz : zs.length < 4611686018427387904) :
    Calls Tryz.prog 110 #[.slice (some ⟨blk, off, none⟩) zs.length cap] w fun e w' =>
      e = .returned (.tuple #[]) ∧ ∃ n os, w' = grow (putRow (Value.int .i64) (Sort.ahead w n) blk off (zs.mergeSort fun x y => decide (x ≤ y)).toArray) os := Any.slices_Sort_int Tryz.lays189 blk off cap zs w hH hblk hsz
def Tryz.lays149_ren : Go.Shelf.Ren := ⟨fun | 149 => 197 | 222 => 226 | n => n, fun | 9 => 9 | 5 => 5 | 3 => 3 | 4 => 4 | n => n, fun | n => n⟩
theorem Tryz.lays149 : Go.Proofs.Lays.n149 Tryz.prog Tryz.lays149_ren := {
  mixed := by kernel_rfl
  f149 := Tryz.func197.trans (congrArg some (by kernel_rfl))
  f222 := Tryz.func226.trans (congrArg some (by kernel_rfl))
  t3 := Tryz.underlying3
  a3 := Tryz.isAgg3
  z3 := Tryz.sizeOf3
  v3 := Tryz.zeroValue3
  t4 := Tryz.underlying4
  a4 := Tryz.isAgg4
  z4 := Tryz.sizeOf4
  v4 := Tryz.zeroValue4
  t5 := Tryz.underlying5
  a5 := Tryz.isAgg5
  z5 := Tryz.sizeOf5
  v5 := Tryz.zeroValue5
  t9 := Tryz.underlying9
  a9 := Tryz.isAgg9
  z9 := Tryz.sizeOf9
  v9 := Tryz.zeroValue9 }
open Go.RowKit Go.Lib in
theorem Tryz.strings_LastIndexByte (s : ByteArray) (c : Int) (hs : s.size < 4611686018427387904) (w : World) :
    Calls Tryz.prog 197 #[.string s, .int .u8 c] w fun e w' => e = .returned (.int .i64 (Lib.lastIndexByte s c)) ∧ w' = w := Any.strings_LastIndexByte Tryz.lays149 s c hs w
def Tryz.lays99_ren : Go.Shelf.Ren := ⟨fun | 99 => 140 | 206 => 176 | n => n, fun | 9 => 9 | 4 => 4 | 3 => 3 | n => n, fun | n => n⟩
theorem Tryz.lays99 : Go.Proofs.Lays.n99 Tryz.prog Tryz.lays99_ren := {
  mixed := by kernel_rfl
  f99 := Tryz.func140.trans (congrArg some (by kernel_rfl))
  f206 := Tryz.func176.trans (congrArg some (by kernel_rfl))
  t3 := Tryz.underlying3
  a3 := Tryz.isAgg3
  z3 := Tryz.sizeOf3
  v3 := Tryz.zeroValue3
  t4 := Tryz.underlying4
  a4 := Tryz.isAgg4
  z4 := Tryz.sizeOf4
  v4 := Tryz.zeroValue4
  t9 := Tryz.underlying9
  a9 := Tryz.isAgg9
  z9 := Tryz.sizeOf9
  v9 := Tryz.zeroValue9 }
open Go.RowKit Go.Lib in
theorem Tryz.strings_HasPrefix (s p : ByteArray) (w : World) :
    Calls Tryz.prog 140 #[.string s, .string p] w fun e w' => e = .returned (.bool (Lib.hasPrefix s.data.toList p.data.toList)) ∧ w' = w := Any.strings_HasPrefix Tryz.lays99 s p w
def Tryz.lays146_ren : Go.Shelf.Ren := ⟨fun | 146 => 178 | 221 => 213 | 268 => 234 | 138 => 235 | 143 => 236 | 195 => 255 | 197 => 256 | 218 => 257 | 219 => 246 | 260 => 272 | 217 => 175 | 225 => 265 | 224 => 264 | 267 => 266 | 266 => 212 | 314 => 275 | n => n, fun | 9 => 9 | 31 => 26 | 3 => 3 | 4 => 4 | 0 => 0 | 105 => 236 | 21 => 21 | 5 => 5 | 46 => 146 | 119 => 247 | 139 => 250 | 138 => 249 | 146 => 245 | 51 => 170 | n => n, fun | 1 => 1 | 3 => 3 | 4 => 4 | n => n⟩
theorem Tryz.lays146 : Go.Proofs.Lays.n146 Tryz.prog Tryz.lays146_ren := {
  mixed := by kernel_rfl
  f138 := Tryz.func235.trans (congrArg some (by kernel_rfl))
  f143 := Tryz.func236.trans (congrArg some (by kernel_rfl))
  f146 := Tryz.func178.trans (congrArg some (by kernel_rfl))
  f195 := Tryz.func255.trans (congrArg some (by kernel_rfl))
  f197 := Tryz.func256.trans (congrArg some (by kernel_rfl))
  f217 := Tryz.func175.trans (congrArg some (by kernel_rfl))
  f218 := Tryz.func257.trans (congrArg some (by kernel_rfl))
  f219 := Tryz.func246.trans (congrArg some (by kernel_rfl))
  f221 := Tryz.func213.trans (congrArg some (by kernel_rfl))
  f224 := Tryz.func264.trans (congrArg some (by kernel_rfl))
  f225 := Tryz.func265.trans (congrArg some (by kernel_rfl))
  f260 := Tryz.func272.trans (congrArg some (by kernel_rfl))
  f266 := Tryz.func212.trans (congrArg some (by kernel_rfl))
  f267 := Tryz.func266.trans (congrArg some (by kernel_rfl))
  f268 := Tryz.func234.trans (congrArg some (by kernel_rfl))
  f314 := Tryz.func275.trans (congrArg some (by kernel_rfl))
  t0 := Tryz.underlying0
  a0 := Tryz.isAgg0
  z0 := Tryz.sizeOf0
  v0 := Tryz.zeroValue0
  t3 := Tryz.underlying3
  a3 := Tryz.isAgg3
  z3 := Tryz.sizeOf3
  v3 := Tryz.zeroValue3
  t4 := Tryz.underlying4
  a4 := Tryz.isAgg4
  z4 := Tryz.sizeOf4
  v4 := Tryz.zeroValue4
  t5 := Tryz.underlying5
  a5 := Tryz.isAgg5
  z5 := Tryz.sizeOf5
  v5 := Tryz.zeroValue5
  t9 := Tryz.underlying9
  a9 := Tryz.isAgg9
  z9 := Tryz.sizeOf9
  v9 := Tryz.zeroValue9
  t21 := Tryz.underlying21
  a21 := Tryz.isAgg21
  z21 := Tryz.sizeOf21
  v21 := Tryz.zeroValue21
  t31 := Tryz.underlying26
  a31 := Tryz.isAgg26
  z31 := Tryz.sizeOf26
  v31 := Tryz.zeroValue26
  t46 := Tryz.underlying146
  a46 := Tryz.isAgg146
  z46 := Tryz.sizeOf146
  v46 := Tryz.zeroValue146
  t51 := Tryz.underlying170
  a51 := Tryz.isAgg170
  z51 := Tryz.sizeOf170
  v51 := Tryz.zeroValue170
  t105 := Tryz.underlying236
  a105 := Tryz.isAgg236
  z105 := Tryz.sizeOf236
  v105 := Tryz.zeroValue236
  t119 := Tryz.underlying247
  a119 := Tryz.isAgg247
  z119 := Tryz.sizeOf247
  t138 := Tryz.underlying249
  a138 := Tryz.isAgg249
  z138 := Tryz.sizeOf249
  v138 := Tryz.zeroValue249
  t139 := Tryz.underlying250
  a139 := Tryz.isAgg250
  z139 := Tryz.sizeOf250
  v139 := Tryz.zeroValue250
  t146 := Tryz.underlying245
  a146 := Tryz.isAgg245
  z146 := Tryz.sizeOf245
  v146 := Tryz.zeroValue245
  g1 := by kernel_rfl
  g3 := by kernel_rfl
  g4 := by kernel_rfl }
open Go.RowKit Go.Lib in
theorem Tryz.strings_Split (s sep : ByteArray) (m : Int) (w : World) (hs : s.size < 4294967281) (hm : w.cell? ⟨1, 0, none⟩ = some (.int .i64 m)) (h1 : 1 ≤ sep.size) :
    Calls Tryz.prog 178 #[.string s, .string sep] w fun e w' =>
      e = .returned (.slice (some ⟨w.heap.size, 0, none⟩) (Lib.countB s sep + 1) (Lib.countB s sep + 1)) ∧ w' = w.alloc (.cells ((Lib.splitB sep 0 (Lib.countB s sep) s).map Value.string).toArray 9) := Any.strings_Split Tryz.lays146 (by kernel_rfl) s sep m w hs hm h1
def Tryz.lays155_ren : Go.Shelf.Ren := ⟨fun | 155 => 247 | 154 => 267 | 138 => 235 | 165 => 211 | 143 => 236 | 166 => 203 | 197 => 256 | 169 => 204 | 195 => 255 | 218 => 257 | 240 => 231 | 241 => 233 | 219 => 246 | 260 => 272 | 276 => 253 | 277 => 254 | 217 => 175 | 225 => 265 | 224 => 264 | 267 => 266 | 266 => 212 | 314 => 275 | n => n, fun | 9 => 9 | 3 => 3 | 4 => 4 | 72 => 194 | 0 => 0 | 76 => 197 | 105 => 236 | 21 => 21 | 5 => 5 | 70 => 192 | 20 => 20 | 37 => 112 | 75 => 196 | 127 => 216 | 164 => 233 | 46 => 146 | 119 => 247 | 139 => 250 | 138 => 249 | 146 => 245 | 51 => 170 | 80 => 142 | n => n, fun | 1 => 1 | 3 => 3 | 4 => 4 | n => n⟩
theorem Tryz.lays155 : Go.Proofs.Lays.n155 Tryz.prog Tryz.lays155_ren := {
  mixed := by kernel_rfl
  f138 := Tryz.func235.trans (congrArg some (by kernel_rfl))
  f143 := Tryz.func236.trans (congrArg some (by kernel_rfl))
  f154 := Tryz.func267.trans (congrArg some (by kernel_rfl))
  f155 := Tryz.func247.trans (congrArg some (by kernel_rfl))
  f165 := Tryz.func211.trans (congrArg some (by kernel_rfl))
  f166 := Tryz.func203.trans (congrArg some (by kernel_rfl))
  f169 := Tryz.func204.trans (congrArg some (by kernel_rfl))
  f195 := Tryz.func255.trans (congrArg some (by kernel_rfl))
  f197 := Tryz.func256.trans (congrArg some (by kernel_rfl))
  f217 := Tryz.func175.trans (congrArg some (by kernel_rfl))
  f218 := Tryz.func257.trans (congrArg some (by kernel_rfl))
  f219 := Tryz.func246.trans (congrArg some (by kernel_rfl))
  f224 := Tryz.func264.trans (congrArg some (by kernel_rfl))
  f225 := Tryz.func265.trans (congrArg some (by kernel_rfl))
  f240 := Tryz.func231.trans (congrArg some (by kernel_rfl))
  f241 := Tryz.func233.trans (congrArg some (by kernel_rfl))
  f260 := Tryz.func272.trans (congrArg some (by kernel_rfl))
  f266 := Tryz.func212.trans (congrArg some (by kernel_rfl))
  f267 := Tryz.func266.trans (congrArg some (by kernel_rfl))
  f276 := Tryz.func253.trans (congrArg some (by kernel_rfl))
  f277 := Tryz.func254.trans (congrArg some (by kernel_rfl))
  f314 := Tryz.func275.trans (congrArg some (by kernel_rfl))
  t0 := Tryz.underlying0
  a0 := Tryz.isAgg0
  z0 := Tryz.sizeOf0
  v0 := Tryz.zeroValue0
  t3 := Tryz.underlying3
  a3 := Tryz.isAgg3
  z3 := Tryz.sizeOf3
  v3 := Tryz.zeroValue3
  t4 := Tryz.underlying4
  a4 := Tryz.isAgg4
  z4 := Tryz.sizeOf4
  v4 := Tryz.zeroValue4
  t5 := Tryz.underlying5
  a5 := Tryz.isAgg5
  z5 := Tryz.sizeOf5
  v5 := Tryz.zeroValue5
  t9 := Tryz.underlying9
  a9 := Tryz.isAgg9
  z9 := Tryz.sizeOf9
  v9 := Tryz.zeroValue9
  t20 := Tryz.underlying20
  a20 := Tryz.isAgg20
  z20 := Tryz.sizeOf20
  v20 := Tryz.zeroValue20
  t21 := Tryz.underlying21
  a21 := Tryz.isAgg21
  z21 := Tryz.sizeOf21
  v21 := Tryz.zeroValue21
  t37 := Tryz.underlying112
  a37 := Tryz.isAgg112
  z37 := Tryz.sizeOf112
  v37 := Tryz.zeroValue112
  t46 := Tryz.underlying146
  a46 := Tryz.isAgg146
  z46 := Tryz.sizeOf146
  v46 := Tryz.zeroValue146
  t51 := Tryz.underlying170
  a51 := Tryz.isAgg170
  z51 := Tryz.sizeOf170
  v51 := Tryz.zeroValue170
  t70 := Tryz.underlying192
  a70 := Tryz.isAgg192
  z70 := Tryz.sizeOf192
  v70 := Tryz.zeroValue192
  t72 := Tryz.underlying194
  a72 := Tryz.isAgg194
  z72 := Tryz.sizeOf194
  v72 := Tryz.zeroValue194
  t75 := Tryz.underlying196
  a75 := Tryz.isAgg196
  z75 := Tryz.sizeOf196
  v75 := Tryz.zeroValue196
  t76 := Tryz.underlying197
  a76 := Tryz.isAgg197
  z76 := Tryz.sizeOf197
  v76 := Tryz.zeroValue197
  t105 := Tryz.underlying236
  a105 := Tryz.isAgg236
  z105 := Tryz.sizeOf236
  v105 := Tryz.zeroValue236
  t119 := Tryz.underlying247
  a119 := Tryz.isAgg247
  z119 := Tryz.sizeOf247
  t127 := Tryz.underlying216
  a127 := Tryz.isAgg216
  z127 := Tryz.sizeOf216
  v127 := Tryz.zeroValue216
  t138 := Tryz.underlying249
  a138 := Tryz.isAgg249
  z138 := Tryz.sizeOf249
  v138 := Tryz.zeroValue249
  t139 := Tryz.underlying250
  a139 := Tryz.isAgg250
  z139 := Tryz.sizeOf250
  v139 := Tryz.zeroValue250
  t146 := Tryz.underlying245
  a146 := Tryz.isAgg245
  z146 := Tryz.sizeOf245
  v146 := Tryz.zeroValue245
  t164 := Tryz.underlying233
  a164 := Tryz.isAgg233
  z164 := Tryz.sizeOf233
  v164 := Tryz.zeroValue233
  g1 := by kernel_rfl
  g3 := by kernel_rfl
  g4 := by kernel_rfl }
theorem Tryz.Builder_Extra_155 : Builder.Extra Tryz.prog Tryz.lays155_ren := {
  sizeBuilder := by kernel_rfl
  liesBuilder := by kernel_rfl
  t5 := Tryz.underlying5
  a5 := Tryz.isAgg5
  z5 := Tryz.sizeOf5
  v5 := Tryz.zeroValue5
  infoByte := by kernel_rfl
  cellsByte := by kernel_rfl
  sizeByte := by kernel_rfl
  neB5 := by decide }
open Go.RowKit Go.Lib in
theorem Tryz.strings_ReplaceAll (s old new : ByteArray) (m : Int) (w : World) (hs : s.size < 4294967281) (hm : w.cell? ⟨1, 0, none⟩ = some (.int .i64 m)) (h1 : 1 ≤ old.size) (hlen : s.size + Lib.countB s old * new.size ≤ 140737488355328) :
    Calls Tryz.prog 247 #[.string s, .string old, .string new] w fun e w' =>
      e = .returned (.string ⟨(Lib.replaceAll s.data.toList old.data.toList new.data.toList).toArray⟩) ∧ Below w.heap.size w w' := Any.strings_ReplaceAll Tryz.lays155 Tryz.Builder_Extra_155 s old new m w hs hm h1 hlen
def Tryz.lays153_ren : Go.Shelf.Ren := ⟨fun | 153 => 223 | 152 => 242 | 226 => 243 | 227 => 244 | 228 => 245 | 137 => 139 | 119 => 263 | 224 => 264 | 225 => 265 | 217 => 175 | 266 => 212 | n => n, fun | 9 => 9 | 3 => 3 | 4 => 4 | 5 => 5 | 21 => 21 | 117 => 226 | 116 => 225 | 0 => 0 | 46 => 146 | 124 => 240 | n => n, fun | n => n⟩
theorem Tryz.lays153 : Go.Proofs.Lays.n153 Tryz.prog Tryz.lays153_ren := {
  mixed := by kernel_rfl
  f119 := Tryz.func263.trans (congrArg some (by kernel_rfl))
  f137 := Tryz.func139.trans (congrArg some (by kernel_rfl))
  f152 := Tryz.func242.trans (congrArg some (by kernel_rfl))
  f153 := Tryz.func223.trans (congrArg some (by kernel_rfl))
  f217 := Tryz.func175.trans (congrArg some (by kernel_rfl))
  f224 := Tryz.func264.trans (congrArg some (by kernel_rfl))
  f225 := Tryz.func265.trans (congrArg some (by kernel_rfl))
  f226 := Tryz.func243.trans (congrArg some (by kernel_rfl))
  f227 := Tryz.func244.trans (congrArg some (by kernel_rfl))
  f228 := Tryz.func245.trans (congrArg some (by kernel_rfl))
  f266 := Tryz.func212.trans (congrArg some (by kernel_rfl))
  t0 := Tryz.underlying0
  a0 := Tryz.isAgg0
  z0 := Tryz.sizeOf0
  v0 := Tryz.zeroValue0
  t3 := Tryz.underlying3
  a3 := Tryz.isAgg3
  z3 := Tryz.sizeOf3
  v3 := Tryz.zeroValue3
  t4 := Tryz.underlying4
  a4 := Tryz.isAgg4
  z4 := Tryz.sizeOf4
  v4 := Tryz.zeroValue4
  t5 := Tryz.underlying5
  a5 := Tryz.isAgg5
  z5 := Tryz.sizeOf5
  v5 := Tryz.zeroValue5
  t9 := Tryz.underlying9
  a9 := Tryz.isAgg9
  z9 := Tryz.sizeOf9
  v9 := Tryz.zeroValue9
  t21 := Tryz.underlying21
  a21 := Tryz.isAgg21
  z21 := Tryz.sizeOf21
  v21 := Tryz.zeroValue21
  t46 := Tryz.underlying146
  a46 := Tryz.isAgg146
  z46 := Tryz.sizeOf146
  v46 := Tryz.zeroValue146
  t116 := Tryz.underlying225
  a116 := Tryz.isAgg225
  z116 := Tryz.sizeOf225
  t117 := Tryz.underlying226
  a117 := Tryz.isAgg226
  z117 := Tryz.sizeOf226
  v117 := Tryz.zeroValue226
  t124 := Tryz.underlying240
  a124 := Tryz.isAgg240
  z124 := Tryz.sizeOf240
  v124 := Tryz.zeroValue240 }
def Tryz.laysNm220_ren : Go.Shelf.Ren := ⟨fun | 20 => 112 | n => n, fun | 22 => 105 | 3 => 3 | 4 => 4 | 0 => 0 | n => n, fun | n => n⟩
theorem Tryz.laysNm220 : Go.Proofs.Lays2.n20 Tryz.prog Tryz.laysNm220_ren := {
  mixed := by kernel_rfl
  f20 := Tryz.func112.trans (congrArg some (by kernel_rfl))
  t0 := Tryz.underlying0
  a0 := Tryz.isAgg0
  z0 := Tryz.sizeOf0
  v0 := Tryz.zeroValue0
  t3 := Tryz.underlying3
  a3 := Tryz.isAgg3
  z3 := Tryz.sizeOf3
  v3 := Tryz.zeroValue3
  t4 := Tryz.underlying4
  a4 := Tryz.isAgg4
  z4 := Tryz.sizeOf4
  v4 := Tryz.zeroValue4
  t22 := Tryz.underlying105
  a22 := Tryz.isAgg105
  z22 := Tryz.sizeOf105
  v22 := Tryz.zeroValue105
  i3 := by kernel_rfl }
open Go.RowKit Go.Lib Go.Sort in
theorem Tryz.slices_Compact_int (blk off cap : Nat) (zs : List Int) (w : World) (hH : Holds (Value.int .i64) w blk off zs.toArray) (hsz : zs.length ≤ 9223372036854775807) (hcap : zs.length ≤ cap) :
    Calls Tryz.prog 112 #[.slice (some ⟨blk, off, none⟩) zs.length cap] w fun e w' => e = .returned (.slice (some ⟨blk, off, none⟩) (Lib.compact zs).length cap) ∧ ∃ q, w' = putRow (Value.int .i64) (Sort.ahead w q) blk off (Lib.compact zs ++ z7 (zs.length - (Lib.compact zs).length) 0).toArray := Any.slices_Compact_int Tryz.laysNm220 blk off cap zs w hH hsz hcap
open Go.RowKit Go.Lib Go.Sort in
theorem Tryz.slices_Compact_int_empty (a : Option Addr) (cap : Nat) (w : World) :
    Calls Tryz.prog 112 #[.slice a 0 cap] w fun e w' => e = .returned (.slice a 0 cap) ∧ w' = w := Any.slices_Compact_int_empty Tryz.laysNm220 a cap w
open Go.RowKit Go.Sort in
theorem Tryz.slices_Sort_int_none (p : Option Addr) (cap : Nat) (w : World) :
    Calls Tryz.prog 110 #[.slice p 0 cap] w fun e w' => e = .returned (.tuple #[]) ∧ w' = w := Any.slices_Sort_int_none Tryz.lays189 p cap w
end Go.Proofs
end
section
namespace Go.Gx
open Go.Proofs
open Go.RowKit
theorem m3 {w w' : World} (h : Below w.heap.size w w') : Later w w' := ⟨fun b hb => h.block b hb, h.size, h.os, h.tape, h.output⟩
theorem later_drewN (w : World) (n : Nat) : Later w (w.drewN n) := ⟨fun _ _ => rfl, zd _, rfl, rfl, rfl⟩
theorem ias1 {St : Snap} {a : AV} {vs : List Value} (h : yn St [a] vs) : ∃ x, vs = [x] ∧ p5 St a x := by
  obtain ⟨hl, h⟩ := h
  match vs, hl with
  | [x], _ =>
    obtain ⟨v, hv, hr⟩ := h 0 a rfl
    simp at hv; subst hv
    exact ⟨_, rfl, hr⟩
theorem ias2 {St : Snap} {a b : AV} {vs : List Value} (h : yn St [a, b] vs) : ∃ x y, vs = [x, y] ∧ p5 St a x ∧ p5 St b y := by
  obtain ⟨hl, h⟩ := h
  match vs, hl with
  | [x, y], _ =>
    obtain ⟨v, hv, hr⟩ := h 0 a rfl
    obtain ⟨u, hu, hs⟩ := h 1 b rfl
    simp at hv hu; subst hv hu
    exact ⟨_, _, rfl, hr, hs⟩
theorem ias3 {St : Snap} {a b c : AV} {vs : List Value} (h : yn St [a, b, c] vs) : ∃ x y z, vs = [x, y, z] ∧ p5 St a x ∧ p5 St b y ∧ p5 St c z := by
  obtain ⟨hl, h⟩ := h
  match vs, hl with
  | [x, y, z], _ =>
    obtain ⟨v, hv, hr⟩ := h 0 a rfl
    obtain ⟨u, hu, hs⟩ := h 1 b rfl
    obtain ⟨t, ht, hk⟩ := h 2 c rfl
    simp at hv hu ht; subst hv hu ht
    exact ⟨_, _, _, rfl, hr, hs, hk⟩
theorem ur {St : Snap} {s : Str} {v : Value} (h : p5 St (tStr.enc s) v) : v = .string ⟨s.toArray⟩ ∧ Fit s.length := by
  obtain ⟨c, hc, h⟩ := h
  injection hc with hc _; subst hc
  cases h with | str h => exact ⟨rfl, h⟩
theorem ia_int {St : Snap} {n : Int} {v : Value} (h : p5 St (tInt.enc n) v) : v = .int .i64 n ∧ R64 n := by
  obtain ⟨c, hc, h⟩ := h
  injection hc with hc _; subst hc
  cases h with | int h => exact ⟨rfl, l8 h⟩
theorem ia_byte {St : Snap} {n : UInt8} {v : Value} (h : p5 St (yc.enc n) v) : v = .int .u8 n.toNat := by
  obtain ⟨c, hc, h⟩ := h
  injection hc with hc _; subst hc
  cases h with | int h => rfl
theorem oa_str {w : World} {s : Str} (h : Fit s.length) : bc w (tStr.enc s) (.string ⟨s.toArray⟩) (fun _ => False) := ⟨_, rfl, .str h⟩
theorem oa_int {w : World} {n : Int} (h : R64 n) : bc w (tInt.enc n) (.int .i64 n) (fun _ => False) := ⟨_, rfl, .int (wt h)⟩
theorem oa_bool {w : World} {b : Bool} : bc w (xa.enc b) (.bool b) (fun _ => False) := ⟨_, rfl, .bool⟩
theorem wl (s : Str) : (⟨s.toArray⟩ : ByteArray).size = s.length := by simp [ByteArray.size]
theorem m1 {w : World} (hG : GOk Gl (km w)) : ∃ m, w.cell? ⟨1, 0, none⟩ = some (.int .i64 m) := by
  obtain ⟨cur, T, fr, h1, _, h2⟩ := hG 1 (by simp [GlobOk, Env.glob, Gl, look])
  obtain ⟨x, hx, hr⟩ := h2 0 (.ex fun v => ∃ m, v = .int .i64 m) rfl
  cases hr with
  | ex h _ =>
    obtain ⟨m, rfl⟩ := h
    have h1 : w.heap[1]? = some (.cells cur T fr) := h1
    exact ⟨m, by simp [World.cell?, h1, hx]⟩
theorem cq (any : Str) (c : UInt8) (r : Str) : qy any (c :: r) = if c ∈ any then 0 else qy any r + 1 := rfl
theorem iq (c : UInt8) : ∀ s : Str, Lib.indexByte s c = if qy [c] s < s.length then (qy [c] s : Int) else -1
  | [] => rfl
  | b :: l => by
    have ih := iq c l
    have hle := jt [c] l
    have hu : Lib.indexByte (b :: l) c = if b == c then 0 else if Lib.indexByte l c == -1 then -1 else Lib.indexByte l c + 1 := rfl
    rw [hu, cq]
    by_cases h : b = c
    · subst h; simp
    · have hb : (b == c) = false := by simpa using h
      rw [hb, ih]
      simp only [j2, h, if_false, qt, zm]
      by_cases h2 : qy [c] l < l.length
      · have : (((qy [c] l : Nat) : Int) == -1) = false := by simp
        rw [if_pos h2, if_pos (show qy [c] l + 1 < l.length + 1 by omega), this]; simp
      · rw [if_neg h2, if_neg (show ¬ qy [c] l + 1 < l.length + 1 by omega)]; rfl
def ct139 : Ct := .scal (dom2 tStr yc fun _ _ => True) (fn2 tStr yc fun s c => [tInt.enc (if qy [c] s < s.length then (qy [c] s : Int) else -1)])
attribute [go_sem] ct139
theorem ok139 : CtOk Tryz.prog Gl 139 ct139 := fun w cs vs hG ha hd => by
  obtain ⟨s, c, rfl, _⟩ := uw hd
  obtain ⟨x, y, rfl, h1, h2⟩ := ias2 ha
  obtain ⟨rfl, hf⟩ := ur h1
  obtain rfl := ia_byte h2
  refine ⟨⟨_, _, Tryz.func139, rfl, by kernel_rfl⟩, (Tryz.strings_IndexByte ⟨s.toArray⟩ c.toNat w).mono ?_⟩
  rintro e w' ⟨rfl, rfl⟩
  refine ⟨_, rfl, Later.refl _, fun _ => False, ?_, fun _ h => h.elim⟩
  simp only [fn2, Ty.de]
  have e1 : Nat.toUInt8 ((c.toNat : Int)).toNat = c := by simp
  rw [e1, iq]
  have hle := jt [c] s
  refine oa_int ?_
  split <;> omega
theorem index1 (b : UInt8) (s : Str) : Lib.index s [b] = if qy [b] s < s.length then (qy [b] s : Int) else -1 := by
  rw [Lib.index_one, iq]
theorem v8.weaken {w : World} {cs : RV} {vs : List Value} {fp fp' : Nat → Prop} (h : v8 w cs vs fp) (hf : ∀ x, fp x → fp' x) : v8 w cs vs fp' := by
  obtain ⟨h1, f, h2, h3, h4⟩ := h
  exact ⟨h1, f, h2, h3, fun k x hk hx => hf x (h4 k x hk hx)⟩
theorem oas2 {w : World} {a b : AV} {x y : Value} (h1 : bc w a x (fun _ => False)) (h2 : bc w b y (fun _ => False)) : v8 w [a, b] [x, y] (fun _ => False) :=
  v8.weaken (v8.cons h1 (v8.cons h2 (.nil (fp := fun _ => False)) fun _ h => h.elim) fun _ h => h.elim) fun _ h => by simp at h
theorem oas3 {w : World} {a b c : AV} {x y z : Value} (h1 : bc w a x (fun _ => False)) (h2 : bc w b y (fun _ => False)) (h3 : bc w c z (fun _ => False)) : v8 w [a, b, c] [x, y, z] (fun _ => False) :=
  v8.weaken (v8.cons h1 (oas2 h2 h3) fun _ h => h.elim) fun _ h => by simp at h
theorem splitG_at (b : UInt8) : ∀ s cur : Str, vf b cur s = if qy [b] s < s.length then (cur ++ s.take (qy [b] s)) :: splitB b (s.drop (qy [b] s + 1)) else [cur ++ s]
  | [], cur => by simp [vf]
  | c :: r, cur => by
    have ih := splitG_at b r
    rw [vf, cq]
    by_cases h : c = b
    · subst h; simp [splitB]
    · simp only [j2, h, if_false, qt, ih, Nat.add_lt_add_iff_right]
      split <;> simp
theorem splitB_at (b : UInt8) (s : Str) : splitB b s = if qy [b] s < s.length then s.take (qy [b] s) :: splitB b (s.drop (qy [b] s + 1)) else [s] := by
  rw [splitB, splitG_at]; simp
theorem splitK_eq (b : UInt8) : ∀ (k : Nat) (s : Str), Lib.count s [b] = k → Lib.splitK [b] 0 k s = splitB b s
  | 0, s, h => by
    rw [splitB_at]
    have hi := index1 b s
    split
    · rename_i h2
      rw [if_pos h2] at hi
      rw [Lib.count_hit (by simp) hi] at h; omega
    · rfl
  | k + 1, s, h => by
    have hi := index1 b s
    rw [splitB_at, Lib.splitK]
    split at hi
    · rename_i h2
      rw [Lib.count_hit (by simp) hi] at h
      have e : ((qy [b] s : Nat) : Int).toNat = qy [b] s := by simp
      have e2 : (((qy [b] s : Nat) : Int) == -1) = false := by simp
      rw [hi, e2, if_pos h2, e]
      simp only [zm, if_false, jk, kf] at h ⊢
      rw [splitK_eq b k _ (by omega)]
    · rename_i h2
      rw [Lib.count_miss hi] at h; omega
theorem row_strs (w : World) (xs : List ByteArray) (T : Nat) (hl : Fit xs.length) (he : ∀ x ∈ xs, Fit x.data.toList.length) :
    RepO (w.alloc (.cells (xs.map Value.string).toArray T)) (.sl 1 ((xs.map (·.data.toList)).map rStr.enc)) (.slice (some ⟨w.heap.size, 0, none⟩) xs.length xs.length) (fun x => x = w.heap.size) := by
  have hb : (w.alloc (.cells (xs.map Value.string).toArray T)).heap[w.heap.size]? = some (.cells (xs.map Value.string).toArray T (0, 0)) := by simp only [World.alloc]; simp
  have hlen : ((xs.map (·.data.toList)).map rStr.enc).length = xs.length := by simp
  have hg : ∀ i, (h : i < xs.length) → ((xs.map (·.data.toList)).map rStr.enc).getD i [] = [.str xs[i].data.toList] := fun i h => by
    rw [List.getD_eq_getElem?_getD, List.getElem?_eq_getElem (by simpa using h)]; simp [rStr]
  have key := RepO.sl (w := w.alloc (.cells (xs.map Value.string).toArray T)) (sz := 1) (es := (xs.map (·.data.toList)).map rStr.enc) (b := w.heap.size) (o := 0) (c := xs.length) (fun i _ => .string (xs.getD i ByteArray.empty)) (fun _ _ _ => False)
    (by rw [hlen]; exact hl) (fun i hi => by rw [hg i (by omega)]; rfl) hb (by rw [hlen]; exact zd _) (by simp) (fun x _ _ => by omega)
    (fun i j hi hj => by
      rw [hlen] at hi
      obtain rfl : j = 0 := by omega
      simp [hi])
    (fun i j hi hj => by
      rw [hlen] at hi
      obtain rfl : j = 0 := by omega
      unfold getC
      rw [hg i hi, xj hi]
      have := RepO.str (w := w.alloc (.cells (xs.map Value.string).toArray T)) (l := xs[i].data.toList) (he _ (z8 hi))
      simpa using this)
    (fun _ _ _ _ h => h) (fun _ _ _ _ _ _ _ _ _ h => h.elim)
  have e2 : (fun x => x = w.heap.size ∨ ∃ i j : Nat, i < ((xs.map (·.data.toList)).map rStr.enc).length ∧ j < 1 ∧ False) = (fun x => x = w.heap.size) := by funext x; simp
  rw [e2, hlen] at key
  exact key
def ct178 : Ct := .pure (dom2 tStr tStr fun s p => s.length ≤ 1073741824 ∧ p.length = 1) (fn2 tStr tStr fun s p => [jm.enc (splitB (p.headD 0) s)])
attribute [go_sem] ct178
theorem ok178 : CtOk Tryz.prog Gl 178 ct178 := fun w cs vs hG ha hd => by
  obtain ⟨s, p, rfl, hs, hp1⟩ := uw hd
  obtain ⟨b, rfl⟩ := List.length_eq_one_iff.1 hp1
  obtain ⟨x, y, rfl, h1, h2⟩ := ias2 ha
  obtain ⟨rfl, hf⟩ := ur h1
  obtain ⟨rfl, _⟩ := ur h2
  obtain ⟨m, hm⟩ := m1 hG
  refine ⟨⟨_, _, Tryz.func178, rfl, by kernel_rfl⟩, (Tryz.strings_Split ⟨s.toArray⟩ ⟨[b].toArray⟩ m w (by rw [wl]; omega) hm (by simp [ByteArray.size])).mono ?_⟩
  have hc : Lib.splitB ⟨[b].toArray⟩ 0 (Lib.countB ⟨s.toArray⟩ ⟨[b].toArray⟩) ⟨s.toArray⟩ = Lib.splitB ⟨[b].toArray⟩ 0 (Lib.countB ⟨s.toArray⟩ ⟨[b].toArray⟩) ⟨s.toArray⟩ := rfl
  have hmap := Lib.splitB_data ⟨[b].toArray⟩ 0 (Lib.countB ⟨s.toArray⟩ ⟨[b].toArray⟩) ⟨s.toArray⟩
  have hk := splitK_eq b (Lib.countB ⟨s.toArray⟩ ⟨[b].toArray⟩) s rfl
  have hlen := Lib.splitB_all ⟨[b].toArray⟩ (by simp [ByteArray.size]) 0 (Lib.countB ⟨s.toArray⟩ ⟨[b].toArray⟩) ⟨s.toArray⟩ rfl
  generalize Lib.splitB ⟨[b].toArray⟩ 0 (Lib.countB ⟨s.toArray⟩ ⟨[b].toArray⟩) ⟨s.toArray⟩ = xs at hmap hlen ⊢
  have hmap : xs.map (·.data.toList) = splitB b s := by rw [hmap]; exact hk
  rw [← hlen]
  rintro e w' ⟨rfl, rfl⟩
  have h3 := kq b s []
  have h4 := bx b s []
  refine ⟨_, rfl, Later.alloc _ _, fun x => x = w.heap.size, ?_, fun x h => by subst h; simp [World.size_alloc]⟩
  simp only [fn2, Ty.de, List.headD_cons]
  refine ⟨_, rfl, ?_⟩
  rw [← hmap]
  have hxl : xs.length = (splitB b s).length := by rw [← hmap]; simp
  refine row_strs w xs _ (by rw [hxl]; simp only [splitB]; omega) fun x hx => ?_
  have : x.data.toList ∈ splitB b s := by rw [← hmap]; exact vq.2 ⟨x, hx, rfl⟩
  have := h4 _ this
  simp only [qx] at this; omega
def ct198 : Ct := .scal (dom2 tStr tStr fun s p => s.length ≤ 1073741824 ∧ p.length = 1) (fn2 tStr tStr fun s p => let k := qy [p.headD 0] s; [tStr.enc (s.take k), tStr.enc (s.drop (k + 1)), xa.enc (decide (k < s.length))])
attribute [go_sem] ct198
theorem ok198 : CtOk Tryz.prog Gl 198 ct198 := fun w cs vs hG ha hd => by
  obtain ⟨s, p, rfl, hs, hp1⟩ := uw hd
  obtain ⟨b, rfl⟩ := List.length_eq_one_iff.1 hp1
  obtain ⟨x, y, rfl, h1, h2⟩ := ias2 ha
  obtain ⟨rfl, hf⟩ := ur h1
  obtain ⟨rfl, _⟩ := ur h2
  obtain ⟨m, hm⟩ := m1 hG
  refine ⟨⟨_, _, Tryz.func198, rfl, by kernel_rfl⟩, (Tryz.strings_Cut ⟨s.toArray⟩ ⟨[b].toArray⟩ m w (by rw [wl]; omega) hm).mono ?_⟩
  rintro e w' ⟨rfl, n, rfl⟩
  refine ⟨_, rfl, later_drewN _ _, fun _ => False, ?_, fun _ h => h.elim⟩
  simp only [fn2, Ty.de, List.headD_cons]
  have hle := jt [b] s
  have hcut : Lib.cut s [b] = (s.take (qy [b] s), s.drop (qy [b] s + 1), decide (qy [b] s < s.length)) := by
    unfold Lib.cut
    rw [index1]
    split
    · rename_i h; simp [h]
    · rename_i h
      have : qy [b] s = s.length := by omega
      simp only [h, if_false]
      rw [this]; simp
  refine ⟨[_, _, _], rfl, ?_⟩
  simp only [hcut]
  exact oas3 (oa_str (by simp; omega)) (oa_str (by simp; omega)) oa_bool
def ct140 : Ct := .scal (dom2 tStr tStr fun _ _ => True) (fn2 tStr tStr fun s p => [xa.enc (p.isPrefixOf s)])
attribute [go_sem] ct140
theorem ok140 : CtOk Tryz.prog Gl 140 ct140 := fun w cs vs hG ha hd => by
  obtain ⟨s, c, rfl, _⟩ := uw hd
  obtain ⟨x, y, rfl, h1, h2⟩ := ias2 ha
  obtain ⟨rfl, hf⟩ := ur h1
  obtain ⟨rfl, _⟩ := ur h2
  refine ⟨⟨_, _, Tryz.func140, rfl, by kernel_rfl⟩, (Tryz.strings_HasPrefix ⟨s.toArray⟩ ⟨c.toArray⟩ w).mono ?_⟩
  rintro e w' ⟨rfl, rfl⟩
  exact ⟨_, rfl, Later.refl _, fun _ => False, oa_bool, fun _ h => h.elim⟩
theorem lastF_snoc (b : UInt8) : ∀ (s : Str) (i : Nat) (p : Int) (c : UInt8), ku b i p (s ++ [c]) = if c = b then ((i + s.length : Nat) : Int) else ku b i p s
  | [], i, p, c => by simp [ku]
  | x :: s, i, p, c => by
    rw [k9, ku, lastF_snoc b s (i + 1), ku]
    simp only [qt]
    split <;> simp; omega
theorem lastIdx_eq (s : Str) (c : UInt8) : ∀ k, k ≤ s.length → Lib.lastIdx ⟨s.toArray⟩ c.toNat k = ku c 0 (-1) (s.take k)
  | 0, _ => by simp [Lib.lastIdx, ku]
  | k + 1, h => by
    have hlt : k < s.length := by omega
    rw [Lib.lastIdx, lastIdx_eq s c k (by omega), zr hlt, lastF_snoc]
    have e : (⟨s.toArray⟩ : ByteArray).data[k]! = s[k] := by simp [hlt]
    rw [e]
    have e2 : (((s[k].toNat : Nat) : Int) = (c.toNat : Int)) ↔ s[k] = c := by rw [Int.ofNat_inj, UInt8.toNat_inj]
    simp only [e2]
    congr 1
    simp; omega
def ct197 : Ct := .scal (dom2 tStr yc fun _ _ => True) (fn2 tStr yc fun s c => [tInt.enc (ku c 0 (-1) s)])
attribute [go_sem] ct197
theorem ok197 : CtOk Tryz.prog Gl 197 ct197 := fun w cs vs hG ha hd => by
  obtain ⟨s, c, rfl, _⟩ := uw hd
  obtain ⟨x, y, rfl, h1, h2⟩ := ias2 ha
  obtain ⟨rfl, hf⟩ := ur h1
  obtain rfl := ia_byte h2
  refine ⟨⟨_, _, Tryz.func197, rfl, by kernel_rfl⟩, (Tryz.strings_LastIndexByte ⟨s.toArray⟩ c.toNat (by rw [wl]; omega) w).mono ?_⟩
  rintro e w' ⟨rfl, rfl⟩
  refine ⟨_, rfl, Later.refl _, fun _ => False, ?_, fun _ h => h.elim⟩
  simp only [fn2, Ty.de]
  have h3 := lastF_rng c s 0 (-1) (by omega) (by omega)
  have e : Lib.lastIndexByte ⟨s.toArray⟩ c.toNat = ku c 0 (-1) s := by
    have := lastIdx_eq s c s.length (zd _)
    rw [zx] at this
    rw [← this]
    simp [Lib.lastIndexByte, ByteArray.size]
  rw [e]
  refine oa_int ?_
  omega
end Go.Gx
end
section
namespace Go.Gx
open Go.Proofs
structure Entry where
  Step : Int
  Url : Url
  Doc : Int
  Key : Int
  State : Str
  deriving DecidableEq, Inhabited
def Entry.cv (u : Entry) : List CV := [.int .i64 u.Step, .str u.Url.Scheme, .str u.Url.User, .str u.Url.Pass, .int .i64 u.Url.Host.Kind, .str u.Url.Host.Name, .int .i64 u.Url.Host.Addr, .int .i64 u.Url.Port, .sl 1 (u.Url.Path.map rStr.enc), .str u.Url.Opaque, .bool u.Url.HasQuery, .str u.Url.Query, .bool u.Url.HasFrag, .str u.Url.Frag, .int .i64 u.Doc, .int .i64 u.Key, .str u.State]
def Entry.de (c : List CV) : Entry := match c with
  | [.int _ x0, .str x1, .str x2, .str x3, .int _ x4, .str x5, .int _ x6, .int _ x7, .sl _ x8, .str x9, .bool x10, .str x11, .bool x12, .str x13, .int _ x14, .int _ x15, .str x16] => ⟨x0, ⟨x1, x2, x3, ⟨x4, x5, x6⟩, x7, x8.map rStr.dec, x9, x10, x11, x12, x13⟩, x14, x15, x16⟩
  | _ => default
def Entry.sh (c : List CV) : Prop := match c with
  | [.int .i64 _, .str _, .str _, .str _, .int .i64 _, .str _, .int .i64 _, .int .i64 _, .sl zx8 ex8, .str _, .bool _, .str _, .bool _, .str _, .int .i64 _, .int .i64 _, .str _] => zx8 = 1 ∧ (∃ l : List Str, ex8 = l.map rStr.enc)
  | _ => False
theorem Entry.sh_eq {c : List CV} (h : Entry.sh c) : c = (Entry.de c).cv := by
  unfold Entry.sh at h; split at h
  · obtain ⟨rfl, ⟨lx8, rfl⟩⟩ := h
    simp only [Entry.de, Entry.cv, Rw.map_dec]
  · exact h.elim
theorem Entry.de_cv (u : Entry) : Entry.de u.cv = u := by simp only [Entry.de, Entry.cv, Rw.map_dec]
def wo : Ty Entry where
  enc u := (true, u.cv)
  dec v := Entry.de v.2
  ok v := v.1 = true ∧ Entry.sh v.2
  law v h := by obtain ⟨b, c⟩ := v; obtain ⟨rfl, h⟩ := h; simp only; rw [← Entry.sh_eq h]
  de u := Entry.de_cv u
def zw : Rw Entry := ⟨17, Entry.cv, Entry.de, Entry.de_cv⟩
def jy : Ty (List Entry) := dz zw
theorem tEntry_enc {u : Entry} : wo.enc u = (true, [.int .i64 u.Step, .str u.Url.Scheme, .str u.Url.User, .str u.Url.Pass, .int .i64 u.Url.Host.Kind, .str u.Url.Host.Name, .int .i64 u.Url.Host.Addr, .int .i64 u.Url.Port, .sl 1 (u.Url.Path.map rStr.enc), .str u.Url.Opaque, .bool u.Url.HasQuery, .str u.Url.Query, .bool u.Url.HasFrag, .str u.Url.Frag, .int .i64 u.Doc, .int .i64 u.Key, .str u.State]) := rfl
theorem tEntry_dec {b : Bool} {x0 : Int} {x1 : Str} {x2 : Str} {x3 : Str} {x4 : Int} {x5 : Str} {x6 : Int} {x7 : Int} {x8 : List (List CV)} {x9 : Str} {x10 : Bool} {x11 : Str} {x12 : Bool} {x13 : Str} {x14 : Int} {x15 : Int} {x16 : Str} {kx0 : IntKind} {kx4 : IntKind} {kx6 : IntKind} {kx7 : IntKind} {kx14 : IntKind} {kx15 : IntKind} {zx8 : Nat} : wo.dec (b, [.int kx0 x0, .str x1, .str x2, .str x3, .int kx4 x4, .str x5, .int kx6 x6, .int kx7 x7, .sl zx8 x8, .str x9, .bool x10, .str x11, .bool x12, .str x13, .int kx14 x14, .int kx15 x15, .str x16]) = ⟨x0, ⟨x1, x2, x3, ⟨x4, x5, x6⟩, x7, x8.map rStr.dec, x9, x10, x11, x12, x13⟩, x14, x15, x16⟩ := rfl
theorem tEntry_ok {x0 : Int} {x1 : Str} {x2 : Str} {x3 : Str} {x4 : Int} {x5 : Str} {x6 : Int} {x7 : Int} {x8 : List (List CV)} {x9 : Str} {x10 : Bool} {x11 : Str} {x12 : Bool} {x13 : Str} {x14 : Int} {x15 : Int} {x16 : Str} {zx8 : Nat} : wo.ok (true, [.int .i64 x0, .str x1, .str x2, .str x3, .int .i64 x4, .str x5, .int .i64 x6, .int .i64 x7, .sl zx8 x8, .str x9, .bool x10, .str x11, .bool x12, .str x13, .int .i64 x14, .int .i64 x15, .str x16]) = (true = true ∧ zx8 = 1 ∧ (∃ l : List Str, x8 = l.map rStr.enc)) := rfl
theorem jd {u : Entry} : zw.enc u = [.int .i64 u.Step, .str u.Url.Scheme, .str u.Url.User, .str u.Url.Pass, .int .i64 u.Url.Host.Kind, .str u.Url.Host.Name, .int .i64 u.Url.Host.Addr, .int .i64 u.Url.Port, .sl 1 (u.Url.Path.map rStr.enc), .str u.Url.Opaque, .bool u.Url.HasQuery, .str u.Url.Query, .bool u.Url.HasFrag, .str u.Url.Frag, .int .i64 u.Doc, .int .i64 u.Key, .str u.State] := rfl
theorem Entry_eta (u : Entry) : (⟨u.Step, u.Url, u.Doc, u.Key, u.State⟩ : Entry) = u := rfl
theorem tEntryS_enc {l : List Entry} : jy.enc l = (false, [.sl 17 (l.map zw.enc)]) := rfl
theorem tEntryS_dec {b : Bool} {n : Nat} {es : List (List CV)} : jy.dec (b, [.sl n es]) = es.map zw.dec := rfl
theorem tEntryS_ok {n : Nat} {es : List (List CV)} : jy.ok (false, [.sl n es]) = (n = 17 ∧ ∃ l : List Entry, es = l.map zw.enc) := rfl
attribute [go_sem] tEntryS_enc tEntryS_dec tEntryS_ok
theorem rEntry_sz : zw.sz = 17 := rfl
attribute [go_sem] rEntry_sz
attribute [go_sem] Entry_eta tEntry_enc tEntry_dec tEntry_ok
structure EntryFit (u : Entry) : Prop where
  Step : R64 u.Step
  Url_Scheme : Fit u.Url.Scheme.length
  Url_User : Fit u.Url.User.length
  Url_Pass : Fit u.Url.Pass.length
  Url_Host_Kind : R64 u.Url.Host.Kind
  Url_Host_Name : Fit u.Url.Host.Name.length
  Url_Host_Addr : R64 u.Url.Host.Addr
  Url_Port : R64 u.Url.Port
  Url_Path : Fit u.Url.Path.length ∧ ∀ s ∈ u.Url.Path, ∀ c ∈ rStr.enc s, ∀ d, fitD d c
  Url_Opaque : Fit u.Url.Opaque.length
  Url_HasQuery : True
  Url_Query : Fit u.Url.Query.length
  Url_HasFrag : True
  Url_Frag : Fit u.Url.Frag.length
  Doc : R64 u.Doc
  Key : R64 u.Key
  State : Fit u.State.length
theorem EntryFit_of {u : Entry} (f : ∀ c ∈ Entry.cv u, ∀ d, fitD d c) : EntryFit u where
  Step := f (.int .i64 u.Step) (by simp [Entry.cv]) 0
  Url_Scheme := f (.str u.Url.Scheme) (by simp [Entry.cv]) 0
  Url_User := f (.str u.Url.User) (by simp [Entry.cv]) 0
  Url_Pass := f (.str u.Url.Pass) (by simp [Entry.cv]) 0
  Url_Host_Kind := f (.int .i64 u.Url.Host.Kind) (by simp [Entry.cv]) 0
  Url_Host_Name := f (.str u.Url.Host.Name) (by simp [Entry.cv]) 0
  Url_Host_Addr := f (.int .i64 u.Url.Host.Addr) (by simp [Entry.cv]) 0
  Url_Port := f (.int .i64 u.Url.Port) (by simp [Entry.cv]) 0
  Url_Path := ir (f (.sl 1 (u.Url.Path.map rStr.enc)) (by simp [Entry.cv]))
  Url_Opaque := f (.str u.Url.Opaque) (by simp [Entry.cv]) 0
  Url_HasQuery := trivial
  Url_Query := f (.str u.Url.Query) (by simp [Entry.cv]) 0
  Url_HasFrag := trivial
  Url_Frag := f (.str u.Url.Frag) (by simp [Entry.cv]) 0
  Doc := f (.int .i64 u.Doc) (by simp [Entry.cv]) 0
  Key := f (.int .i64 u.Key) (by simp [Entry.cv]) 0
  State := f (.str u.State) (by simp [Entry.cv]) 0
theorem pg {u : Entry} (f : fitA (wo.enc u)) : EntryFit u := EntryFit_of f
structure Frame where
  Within : Int
  Name : Str
  Hist : List Entry
  Asks : Bool
  deriving DecidableEq, Inhabited
def Frame.cv (u : Frame) : List CV := [.int .i64 u.Within, .str u.Name, .sl 17 (u.Hist.map zw.enc), .bool u.Asks]
def Frame.de (c : List CV) : Frame := match c with
  | [.int _ x0, .str x1, .sl _ x2, .bool x3] => ⟨x0, x1, x2.map zw.dec, x3⟩
  | _ => default
def Frame.sh (c : List CV) : Prop := match c with
  | [.int .i64 _, .str _, .sl zx2 ex2, .bool _] => zx2 = 17 ∧ (∃ l : List Entry, ex2 = l.map zw.enc)
  | _ => False
theorem Frame.sh_eq {c : List CV} (h : Frame.sh c) : c = (Frame.de c).cv := by
  unfold Frame.sh at h; split at h
  · obtain ⟨rfl, ⟨lx2, rfl⟩⟩ := h
    simp only [Frame.de, Frame.cv, Rw.map_dec]
  · exact h.elim
theorem Frame.de_cv (u : Frame) : Frame.de u.cv = u := by simp only [Frame.de, Frame.cv, Rw.map_dec]
def p9 : Ty Frame where
  enc u := (true, u.cv)
  dec v := Frame.de v.2
  ok v := v.1 = true ∧ Frame.sh v.2
  law v h := by obtain ⟨b, c⟩ := v; obtain ⟨rfl, h⟩ := h; simp only; rw [← Frame.sh_eq h]
  de u := Frame.de_cv u
def zj : Rw Frame := ⟨4, Frame.cv, Frame.de, Frame.de_cv⟩
def yo : Ty (List Frame) := dz zj
theorem tFrame_enc {u : Frame} : p9.enc u = (true, [.int .i64 u.Within, .str u.Name, .sl 17 (u.Hist.map zw.enc), .bool u.Asks]) := rfl
theorem tFrame_dec {b : Bool} {x0 : Int} {x1 : Str} {x2 : List (List CV)} {x3 : Bool} {kx0 : IntKind} {zx2 : Nat} : p9.dec (b, [.int kx0 x0, .str x1, .sl zx2 x2, .bool x3]) = ⟨x0, x1, x2.map zw.dec, x3⟩ := rfl
theorem tFrame_ok {x0 : Int} {x1 : Str} {x2 : List (List CV)} {x3 : Bool} {zx2 : Nat} : p9.ok (true, [.int .i64 x0, .str x1, .sl zx2 x2, .bool x3]) = (true = true ∧ zx2 = 17 ∧ (∃ l : List Entry, x2 = l.map zw.enc)) := rfl
theorem xi {u : Frame} : zj.enc u = [.int .i64 u.Within, .str u.Name, .sl 17 (u.Hist.map zw.enc), .bool u.Asks] := rfl
theorem Frame_eta (u : Frame) : (⟨u.Within, u.Name, u.Hist, u.Asks⟩ : Frame) = u := rfl
theorem tFrameS_enc {l : List Frame} : yo.enc l = (false, [.sl 4 (l.map zj.enc)]) := rfl
theorem tFrameS_dec {b : Bool} {n : Nat} {es : List (List CV)} : yo.dec (b, [.sl n es]) = es.map zj.dec := rfl
theorem tFrameS_ok {n : Nat} {es : List (List CV)} : yo.ok (false, [.sl n es]) = (n = 4 ∧ ∃ l : List Frame, es = l.map zj.enc) := rfl
attribute [go_sem] tFrameS_enc tFrameS_dec tFrameS_ok
theorem rFrame_sz : zj.sz = 4 := rfl
attribute [go_sem] rFrame_sz
attribute [go_sem] Frame_eta tFrame_enc tFrame_dec tFrame_ok
structure FrameFit (u : Frame) : Prop where
  Within : R64 u.Within
  Name : Fit u.Name.length
  Hist : Fit u.Hist.length ∧ ∀ s ∈ u.Hist, ∀ c ∈ zw.enc s, ∀ d, fitD d c
  Asks : True
theorem FrameFit_of {u : Frame} (f : ∀ c ∈ Frame.cv u, ∀ d, fitD d c) : FrameFit u where
  Within := f (.int .i64 u.Within) (by simp [Frame.cv]) 0
  Name := f (.str u.Name) (by simp [Frame.cv]) 0
  Hist := ir (f (.sl 17 (u.Hist.map zw.enc)) (by simp [Frame.cv]))
  Asks := trivial
theorem n6 {u : Frame} (f : fitA (p9.enc u)) : FrameFit u := FrameFit_of f
theorem y3 {l : List Frame} (f : ∀ s ∈ l, ∀ c ∈ zj.enc s, ∀ d, fitD d c) {s : Frame} (h : s ∈ l) : FrameFit s := FrameFit_of (f s h)
structure Window where
  Frames : List Frame
  Step : Int
  NextDoc : Int
  NextKey : Int
  deriving DecidableEq, Inhabited
def Window.cv (u : Window) : List CV := [.sl 4 (u.Frames.map zj.enc), .int .i64 u.Step, .int .i64 u.NextDoc, .int .i64 u.NextKey]
def Window.de (c : List CV) : Window := match c with
  | [.sl _ x0, .int _ x1, .int _ x2, .int _ x3] => ⟨x0.map zj.dec, x1, x2, x3⟩
  | _ => default
def Window.sh (c : List CV) : Prop := match c with
  | [.sl zx0 ex0, .int .i64 _, .int .i64 _, .int .i64 _] => zx0 = 4 ∧ (∃ l : List Frame, ex0 = l.map zj.enc)
  | _ => False
theorem Window.sh_eq {c : List CV} (h : Window.sh c) : c = (Window.de c).cv := by
  unfold Window.sh at h; split at h
  · obtain ⟨rfl, ⟨lx0, rfl⟩⟩ := h
    simp only [Window.de, Window.cv, Rw.map_dec]
  · exact h.elim
theorem Window.de_cv (u : Window) : Window.de u.cv = u := by simp only [Window.de, Window.cv, Rw.map_dec]
def xy : Ty Window where
  enc u := (true, u.cv)
  dec v := Window.de v.2
  ok v := v.1 = true ∧ Window.sh v.2
  law v h := by obtain ⟨b, c⟩ := v; obtain ⟨rfl, h⟩ := h; simp only; rw [← Window.sh_eq h]
  de u := Window.de_cv u
def rWindow : Rw Window := ⟨4, Window.cv, Window.de, Window.de_cv⟩
def tWindowS : Ty (List Window) := dz rWindow
theorem tWindow_enc {u : Window} : xy.enc u = (true, [.sl 4 (u.Frames.map zj.enc), .int .i64 u.Step, .int .i64 u.NextDoc, .int .i64 u.NextKey]) := rfl
theorem tWindow_dec {b : Bool} {x0 : List (List CV)} {x1 : Int} {x2 : Int} {x3 : Int} {kx1 : IntKind} {kx2 : IntKind} {kx3 : IntKind} {zx0 : Nat} : xy.dec (b, [.sl zx0 x0, .int kx1 x1, .int kx2 x2, .int kx3 x3]) = ⟨x0.map zj.dec, x1, x2, x3⟩ := rfl
theorem tWindow_ok {x0 : List (List CV)} {x1 : Int} {x2 : Int} {x3 : Int} {zx0 : Nat} : xy.ok (true, [.sl zx0 x0, .int .i64 x1, .int .i64 x2, .int .i64 x3]) = (true = true ∧ zx0 = 4 ∧ (∃ l : List Frame, x0 = l.map zj.enc)) := rfl
theorem Window_eta (u : Window) : (⟨u.Frames, u.Step, u.NextDoc, u.NextKey⟩ : Window) = u := rfl
theorem tWindowS_enc {l : List Window} : tWindowS.enc l = (false, [.sl 4 (l.map rWindow.enc)]) := rfl
theorem tWindowS_dec {b : Bool} {n : Nat} {es : List (List CV)} : tWindowS.dec (b, [.sl n es]) = es.map rWindow.dec := rfl
theorem tWindowS_ok {n : Nat} {es : List (List CV)} : tWindowS.ok (false, [.sl n es]) = (n = 4 ∧ ∃ l : List Window, es = l.map rWindow.enc) := rfl
attribute [go_sem] tWindowS_enc tWindowS_dec tWindowS_ok
theorem rWindow_sz : rWindow.sz = 4 := rfl
attribute [go_sem] rWindow_sz
attribute [go_sem] Window_eta tWindow_enc tWindow_dec tWindow_ok
structure WindowFit (u : Window) : Prop where
  Frames : Fit u.Frames.length ∧ ∀ s ∈ u.Frames, ∀ c ∈ zj.enc s, ∀ d, fitD d c
  Step : R64 u.Step
  NextDoc : R64 u.NextDoc
  NextKey : R64 u.NextKey
theorem WindowFit_of {u : Window} (f : ∀ c ∈ Window.cv u, ∀ d, fitD d c) : WindowFit u where
  Frames := ir (f (.sl 4 (u.Frames.map zj.enc)) (by simp [Window.cv]))
  Step := f (.int .i64 u.Step) (by simp [Window.cv]) 0
  NextDoc := f (.int .i64 u.NextDoc) (by simp [Window.cv]) 0
  NextKey := f (.int .i64 u.NextKey) (by simp [Window.cv]) 0
theorem zv {u : Window} (f : fitA (xy.enc u)) : WindowFit u := WindowFit_of f
structure Cookie where
  Name : Str
  Value : Str
  Domain : Str
  Alone : Bool
  Path : Str
  Until : Int
  Safe : Bool
  Same : Int
  Made : Int
  deriving DecidableEq, Inhabited
def Cookie.cv (u : Cookie) : List CV := [.str u.Name, .str u.Value, .str u.Domain, .bool u.Alone, .str u.Path, .int .i64 u.Until, .bool u.Safe, .int .i64 u.Same, .int .i64 u.Made]
def Cookie.de (c : List CV) : Cookie := match c with
  | [.str x0, .str x1, .str x2, .bool x3, .str x4, .int _ x5, .bool x6, .int _ x7, .int _ x8] => ⟨x0, x1, x2, x3, x4, x5, x6, x7, x8⟩
  | _ => default
def Cookie.sh (c : List CV) : Prop := match c with
  | [.str _, .str _, .str _, .bool _, .str _, .int .i64 _, .bool _, .int .i64 _, .int .i64 _] => True
  | _ => False
theorem Cookie.sh_eq {c : List CV} (h : Cookie.sh c) : c = (Cookie.de c).cv := by
  unfold Cookie.sh at h; split at h
  · rfl
  · exact h.elim
theorem Cookie.de_cv (u : Cookie) : Cookie.de u.cv = u := by rfl
def jp : Ty Cookie where
  enc u := (true, u.cv)
  dec v := Cookie.de v.2
  ok v := v.1 = true ∧ Cookie.sh v.2
  law v h := by obtain ⟨b, c⟩ := v; obtain ⟨rfl, h⟩ := h; simp only; rw [← Cookie.sh_eq h]
  de u := Cookie.de_cv u
def zi : Rw Cookie := ⟨9, Cookie.cv, Cookie.de, Cookie.de_cv⟩
def jc : Ty (List Cookie) := dz zi
theorem tCookie_enc {u : Cookie} : jp.enc u = (true, [.str u.Name, .str u.Value, .str u.Domain, .bool u.Alone, .str u.Path, .int .i64 u.Until, .bool u.Safe, .int .i64 u.Same, .int .i64 u.Made]) := rfl
theorem tCookie_dec {b : Bool} {x0 : Str} {x1 : Str} {x2 : Str} {x3 : Bool} {x4 : Str} {x5 : Int} {x6 : Bool} {x7 : Int} {x8 : Int} {kx5 : IntKind} {kx7 : IntKind} {kx8 : IntKind}  : jp.dec (b, [.str x0, .str x1, .str x2, .bool x3, .str x4, .int kx5 x5, .bool x6, .int kx7 x7, .int kx8 x8]) = ⟨x0, x1, x2, x3, x4, x5, x6, x7, x8⟩ := rfl
theorem tCookie_ok {x0 : Str} {x1 : Str} {x2 : Str} {x3 : Bool} {x4 : Str} {x5 : Int} {x6 : Bool} {x7 : Int} {x8 : Int}  : jp.ok (true, [.str x0, .str x1, .str x2, .bool x3, .str x4, .int .i64 x5, .bool x6, .int .i64 x7, .int .i64 x8]) = (true = true ∧ True) := rfl
theorem jn {u : Cookie} : zi.enc u = [.str u.Name, .str u.Value, .str u.Domain, .bool u.Alone, .str u.Path, .int .i64 u.Until, .bool u.Safe, .int .i64 u.Same, .int .i64 u.Made] := rfl
theorem Cookie_eta (u : Cookie) : (⟨u.Name, u.Value, u.Domain, u.Alone, u.Path, u.Until, u.Safe, u.Same, u.Made⟩ : Cookie) = u := rfl
theorem tCookieS_enc {l : List Cookie} : jc.enc l = (false, [.sl 9 (l.map zi.enc)]) := rfl
theorem tCookieS_dec {b : Bool} {n : Nat} {es : List (List CV)} : jc.dec (b, [.sl n es]) = es.map zi.dec := rfl
theorem tCookieS_ok {n : Nat} {es : List (List CV)} : jc.ok (false, [.sl n es]) = (n = 9 ∧ ∃ l : List Cookie, es = l.map zi.enc) := rfl
attribute [go_sem] tCookieS_enc tCookieS_dec tCookieS_ok
theorem rCookie_sz : zi.sz = 9 := rfl
attribute [go_sem] rCookie_sz
attribute [go_sem] Cookie_eta tCookie_enc tCookie_dec tCookie_ok
structure CookieFit (u : Cookie) : Prop where
  Name : Fit u.Name.length
  Value : Fit u.Value.length
  Domain : Fit u.Domain.length
  Alone : True
  Path : Fit u.Path.length
  Until : R64 u.Until
  Safe : True
  Same : R64 u.Same
  Made : R64 u.Made
theorem CookieFit_of {u : Cookie} (f : ∀ c ∈ Cookie.cv u, ∀ d, fitD d c) : CookieFit u where
  Name := f (.str u.Name) (by simp [Cookie.cv]) 0
  Value := f (.str u.Value) (by simp [Cookie.cv]) 0
  Domain := f (.str u.Domain) (by simp [Cookie.cv]) 0
  Alone := trivial
  Path := f (.str u.Path) (by simp [Cookie.cv]) 0
  Until := f (.int .i64 u.Until) (by simp [Cookie.cv]) 0
  Safe := trivial
  Same := f (.int .i64 u.Same) (by simp [Cookie.cv]) 0
  Made := f (.int .i64 u.Made) (by simp [Cookie.cv]) 0
theorem w6 {u : Cookie} (f : fitA (jp.enc u)) : CookieFit u := CookieFit_of f
structure Sure where
  Hosts : List Str
  deriving DecidableEq, Inhabited
def Sure.cv (u : Sure) : List CV := [.sl 1 (u.Hosts.map rStr.enc)]
def Sure.de (c : List CV) : Sure := match c with
  | [.sl _ x0] => ⟨x0.map rStr.dec⟩
  | _ => default
def Sure.sh (c : List CV) : Prop := match c with
  | [.sl zx0 ex0] => zx0 = 1 ∧ (∃ l : List Str, ex0 = l.map rStr.enc)
  | _ => False
theorem Sure.sh_eq {c : List CV} (h : Sure.sh c) : c = (Sure.de c).cv := by
  unfold Sure.sh at h; split at h
  · obtain ⟨rfl, ⟨lx0, rfl⟩⟩ := h
    simp only [Sure.de, Sure.cv, Rw.map_dec]
  · exact h.elim
theorem Sure.de_cv (u : Sure) : Sure.de u.cv = u := by simp only [Sure.de, Sure.cv, Rw.map_dec]
def pr : Ty Sure where
  enc u := (true, u.cv)
  dec v := Sure.de v.2
  ok v := v.1 = true ∧ Sure.sh v.2
  law v h := by obtain ⟨b, c⟩ := v; obtain ⟨rfl, h⟩ := h; simp only; rw [← Sure.sh_eq h]
  de u := Sure.de_cv u
def rSure : Rw Sure := ⟨1, Sure.cv, Sure.de, Sure.de_cv⟩
def tSureS : Ty (List Sure) := dz rSure
theorem tSure_enc {u : Sure} : pr.enc u = (true, [.sl 1 (u.Hosts.map rStr.enc)]) := rfl
theorem tSure_dec {b : Bool} {x0 : List (List CV)}  {zx0 : Nat} : pr.dec (b, [.sl zx0 x0]) = ⟨x0.map rStr.dec⟩ := rfl
theorem tSure_ok {x0 : List (List CV)} {zx0 : Nat} : pr.ok (true, [.sl zx0 x0]) = (true = true ∧ zx0 = 1 ∧ (∃ l : List Str, x0 = l.map rStr.enc)) := rfl
theorem Sure_eta (u : Sure) : (⟨u.Hosts⟩ : Sure) = u := rfl
theorem tSureS_enc {l : List Sure} : tSureS.enc l = (false, [.sl 1 (l.map rSure.enc)]) := rfl
theorem tSureS_dec {b : Bool} {n : Nat} {es : List (List CV)} : tSureS.dec (b, [.sl n es]) = es.map rSure.dec := rfl
theorem tSureS_ok {n : Nat} {es : List (List CV)} : tSureS.ok (false, [.sl n es]) = (n = 1 ∧ ∃ l : List Sure, es = l.map rSure.enc) := rfl
attribute [go_sem] tSureS_enc tSureS_dec tSureS_ok
theorem rSure_sz : rSure.sz = 1 := rfl
attribute [go_sem] rSure_sz
attribute [go_sem] Sure_eta tSure_enc tSure_dec tSure_ok
structure SureFit (u : Sure) : Prop where
  Hosts : Fit u.Hosts.length ∧ ∀ s ∈ u.Hosts, ∀ c ∈ rStr.enc s, ∀ d, fitD d c
theorem SureFit_of {u : Sure} (f : ∀ c ∈ Sure.cv u, ∀ d, fitD d c) : SureFit u where
  Hosts := ir (f (.sl 1 (u.Hosts.map rStr.enc)) (by simp [Sure.cv]))
theorem px {u : Sure} (f : fitA (pr.enc u)) : SureFit u := SureFit_of f
structure Browser where
  Window : Window
  Jar : List Cookie
  Sure : Sure
  Now : Int
  deriving DecidableEq, Inhabited
def Browser.cv (u : Browser) : List CV := [.sl 4 (u.Window.Frames.map zj.enc), .int .i64 u.Window.Step, .int .i64 u.Window.NextDoc, .int .i64 u.Window.NextKey, .sl 9 (u.Jar.map zi.enc), .sl 1 (u.Sure.Hosts.map rStr.enc), .int .i64 u.Now]
def Browser.de (c : List CV) : Browser := match c with
  | [.sl _ x0, .int _ x1, .int _ x2, .int _ x3, .sl _ x4, .sl _ x5, .int _ x6] => ⟨⟨x0.map zj.dec, x1, x2, x3⟩, x4.map zi.dec, ⟨x5.map rStr.dec⟩, x6⟩
  | _ => default
def Browser.sh (c : List CV) : Prop := match c with
  | [.sl zx0 ex0, .int .i64 _, .int .i64 _, .int .i64 _, .sl zx4 ex4, .sl zx5 ex5, .int .i64 _] => zx0 = 4 ∧ (∃ l : List Frame, ex0 = l.map zj.enc) ∧ zx4 = 9 ∧ (∃ l : List Cookie, ex4 = l.map zi.enc) ∧ zx5 = 1 ∧ (∃ l : List Str, ex5 = l.map rStr.enc)
  | _ => False
theorem Browser.sh_eq {c : List CV} (h : Browser.sh c) : c = (Browser.de c).cv := by
  unfold Browser.sh at h; split at h
  · obtain ⟨rfl, ⟨lx0, rfl⟩, rfl, ⟨lx4, rfl⟩, rfl, ⟨lx5, rfl⟩⟩ := h
    simp only [Browser.de, Browser.cv, Rw.map_dec]
  · exact h.elim
theorem Browser.de_cv (u : Browser) : Browser.de u.cv = u := by simp only [Browser.de, Browser.cv, Rw.map_dec]
def xr : Ty Browser where
  enc u := (true, u.cv)
  dec v := Browser.de v.2
  ok v := v.1 = true ∧ Browser.sh v.2
  law v h := by obtain ⟨b, c⟩ := v; obtain ⟨rfl, h⟩ := h; simp only; rw [← Browser.sh_eq h]
  de u := Browser.de_cv u
def lu : Rw Browser := ⟨7, Browser.cv, Browser.de, Browser.de_cv⟩
def tBrowserS : Ty (List Browser) := dz lu
theorem tBrowser_enc {u : Browser} : xr.enc u = (true, [.sl 4 (u.Window.Frames.map zj.enc), .int .i64 u.Window.Step, .int .i64 u.Window.NextDoc, .int .i64 u.Window.NextKey, .sl 9 (u.Jar.map zi.enc), .sl 1 (u.Sure.Hosts.map rStr.enc), .int .i64 u.Now]) := rfl
theorem tBrowser_dec {b : Bool} {x0 : List (List CV)} {x1 : Int} {x2 : Int} {x3 : Int} {x4 : List (List CV)} {x5 : List (List CV)} {x6 : Int} {kx1 : IntKind} {kx2 : IntKind} {kx3 : IntKind} {kx6 : IntKind} {zx0 : Nat} {zx4 : Nat} {zx5 : Nat} : xr.dec (b, [.sl zx0 x0, .int kx1 x1, .int kx2 x2, .int kx3 x3, .sl zx4 x4, .sl zx5 x5, .int kx6 x6]) = ⟨⟨x0.map zj.dec, x1, x2, x3⟩, x4.map zi.dec, ⟨x5.map rStr.dec⟩, x6⟩ := rfl
theorem tBrowser_ok {x0 : List (List CV)} {x1 : Int} {x2 : Int} {x3 : Int} {x4 : List (List CV)} {x5 : List (List CV)} {x6 : Int} {zx0 : Nat} {zx4 : Nat} {zx5 : Nat} : xr.ok (true, [.sl zx0 x0, .int .i64 x1, .int .i64 x2, .int .i64 x3, .sl zx4 x4, .sl zx5 x5, .int .i64 x6]) = (true = true ∧ zx0 = 4 ∧ (∃ l : List Frame, x0 = l.map zj.enc) ∧ zx4 = 9 ∧ (∃ l : List Cookie, x4 = l.map zi.enc) ∧ zx5 = 1 ∧ (∃ l : List Str, x5 = l.map rStr.enc)) := rfl
theorem Browser_eta (u : Browser) : (⟨u.Window, u.Jar, u.Sure, u.Now⟩ : Browser) = u := rfl
theorem tBrowserS_enc {l : List Browser} : tBrowserS.enc l = (false, [.sl 7 (l.map lu.enc)]) := rfl
theorem tBrowserS_dec {b : Bool} {n : Nat} {es : List (List CV)} : tBrowserS.dec (b, [.sl n es]) = es.map lu.dec := rfl
theorem tBrowserS_ok {n : Nat} {es : List (List CV)} : tBrowserS.ok (false, [.sl n es]) = (n = 7 ∧ ∃ l : List Browser, es = l.map lu.enc) := rfl
attribute [go_sem] tBrowserS_enc tBrowserS_dec tBrowserS_ok
theorem rBrowser_sz : lu.sz = 7 := rfl
attribute [go_sem] rBrowser_sz
attribute [go_sem] Browser_eta tBrowser_enc tBrowser_dec tBrowser_ok
structure BrowserFit (u : Browser) : Prop where
  Window_Frames : Fit u.Window.Frames.length ∧ ∀ s ∈ u.Window.Frames, ∀ c ∈ zj.enc s, ∀ d, fitD d c
  Window_Step : R64 u.Window.Step
  Window_NextDoc : R64 u.Window.NextDoc
  Window_NextKey : R64 u.Window.NextKey
  Jar : Fit u.Jar.length ∧ ∀ s ∈ u.Jar, ∀ c ∈ zi.enc s, ∀ d, fitD d c
  Sure_Hosts : Fit u.Sure.Hosts.length ∧ ∀ s ∈ u.Sure.Hosts, ∀ c ∈ rStr.enc s, ∀ d, fitD d c
  Now : R64 u.Now
theorem BrowserFit_of {u : Browser} (f : ∀ c ∈ Browser.cv u, ∀ d, fitD d c) : BrowserFit u where
  Window_Frames := ir (f (.sl 4 (u.Window.Frames.map zj.enc)) (by simp [Browser.cv]))
  Window_Step := f (.int .i64 u.Window.Step) (by simp [Browser.cv]) 0
  Window_NextDoc := f (.int .i64 u.Window.NextDoc) (by simp [Browser.cv]) 0
  Window_NextKey := f (.int .i64 u.Window.NextKey) (by simp [Browser.cv]) 0
  Jar := ir (f (.sl 9 (u.Jar.map zi.enc)) (by simp [Browser.cv]))
  Sure_Hosts := ir (f (.sl 1 (u.Sure.Hosts.map rStr.enc)) (by simp [Browser.cv]))
  Now := f (.int .i64 u.Now) (by simp [Browser.cv]) 0
theorem v7 {u : Browser} (f : fitA (xr.enc u)) : BrowserFit u := BrowserFit_of f
end Go.Gx
end
section
namespace Go.Gx
open Go.Proofs
def pn (u : Url) (s : Str) : Url × Bool :=
  let k := qy [47, 92, 63, 35] s
  let a := ni u (s.take k)
  if a.2 then
    let s1 := s.drop k
    let k1 := qy [63, 35] s1
    (pq { a.1 with Path := wc (s1.take k1) } (s1.drop k1), true)
  else (url0, false)
def E219 : Env := { T := Tz.tab, G := Gl, C := [(216, ct216), (240, ct240), (241, ct241), (218, ct218)], alt := [(2, some (.op 0 (.op 1 (.op 2 (.op 3 (.op 4 (.op 5 (.op 6 (.alt (.op 7 (.op 8 (.op 9 .done))) (.op 8 (.op 7 (.op 9 .done))))))))))))], live := [(0, [1, 2, 4]), (1, [1, 2, 4, 6]), (2, [1, 2, 4, 6, 7]), (3, [1, 2, 4, 6, 19]), (4, [4, 5]), (5, [1, 2, 4]), (6, [1, 2, 4, 6]), (7, [1, 2, 4, 6]), (8, [4, 5])] }
def ct219 : Ct := .im (dom2 tUrl tStr (fun u s => True)) (fn2 tUrl tStr fun u s => [tUrl.enc (pn u s).1, xa.enc (pn u s).2])
attribute [go_sem] E219 ct219 Go.Proofs.Tryz.f219
set_option maxHeartbeats 1000000 in
theorem ok219 : CtOk Tryz.prog Gl 219 ct219 := okI2 (E := E219) (qq Tz.tab_ok Tz.mixed (qj.cons ok216 (qj.cons ok240 (qj.cons ok241 (qj.cons ok218 qj.nil))))) rfl Tryz.func219 (by kernel_rfl) fun u s fu fs hp => by
  have gu := fu
  have fu := k5 fu
  have fs := zt fs
  refine qn rfl rfl (by kernel_rfl) rfl ?_
  have hk := jt [47, 92, 63, 35] s
  have hk1 := jt [63, 35] (s.drop (qy [47, 92, 63, 35] s))
  repeat (dsimp +instances only [go_sem, qe, qb, qd, qc, qa]; try simp only [bb, qb, qf, qi, qh, qc, qg, qa])
  repeat (dsimp +instances only [wk, p4, bp, yf, pw, xe, xu]; repeat (dsimp +instances only [go_sem, qe, qb, qd, qc, qa]; try simp only [bb, qb, qf, qi, qh, qc, qg, qa]))
  try simp only [nn, reduceCtorEq]
  cases hb : (ni u (s.take (qy [47, 92, 63, 35] s))).2
  all_goals
    simp only [pn, hb, if_true, if_false, zm, true_implies, false_implies, reduceCtorEq, and_true, true_and]
  all_goals (repeat' (first | refine And.intro ?_ ?_ | intro _)) <;> try first | omega | trivial
def vj (c : UInt8) : Bool := decide (c.toNat = 47 ∨ c.toNat = 92)
def ed (scheme : Str) (rest : Str) : Url × Bool :=
  let u : Url := { url0 with Scheme := scheme, Port := -1 }
  if ownN scheme < 0 then
    let k := qy [63, 35] rest
    (pq { u with Opaque := jg 5 (rest.take k) } (rest.drop k), true)
  else pn u (rest.dropWhile vj)
def E184 : Env := { T := Tz.tab, G := Gl, C := [(186, ct186), (216, ct216), (217, ct217), (218, ct218), (219, ct219)], live := [(0, [0, 1, 4]), (1, [0, 1, 4, 6]), (2, [1, 4, 6, 12]), (3, [1, 4, 6, 7]), (4, [1, 4, 6, 7]), (5, [4, 5]), (6, [1, 4, 6, 37]), (7, [1, 4, 6]), (8, [4, 5])] }
def ct184 : Ct := .im (dom2 tStr tStr (fun scheme rest => True)) (fn2 tStr tStr fun scheme rest => [tUrl.enc (ed scheme rest).1, xa.enc (ed scheme rest).2])
attribute [go_sem] E184 ct184 Go.Proofs.Tryz.f184
set_option maxHeartbeats 1000000 in
theorem ok184 : CtOk Tryz.prog Gl 184 ct184 := okI2 (E := E184) (qq Tz.tab_ok Tz.mixed (qj.cons ok186 (qj.cons ok216 (qj.cons ok217 (qj.cons ok218 (qj.cons ok219 qj.nil)))))) rfl Tryz.func184 (by kernel_rfl) fun scheme rest fscheme frest hp => by
  have fscheme := zt fscheme
  have frest := zt frest
  refine qn rfl rfl (by kernel_rfl) rfl ?_
  have hk := jt [63, 35] rest
  repeat (dsimp +instances only [go_sem, qe, qb, qd, qc, qa]; try simp only [bb, qb, qf, qi, qh, qc, qg, qa])
  repeat (dsimp +instances only [wk, p4, bp, yf, pw, xe, xu]; repeat (dsimp +instances only [go_sem, qe, qb, qd, qc, qa]; try simp only [bb, qb, qf, qi, qh, qc, qg, qa]))
  try simp only [nn, reduceCtorEq]
  by_cases h1 : ownN scheme < 0
  · simp only [h1, decide_true, if_true, true_implies, false_implies, reduceCtorEq, and_true, true_and, ed]
    (repeat' (first | refine And.intro ?_ ?_ | intro _)) <;> try first | omega | trivial
    all_goals rfl
  · simp only [h1, decide_false, if_false, true_implies, false_implies, reduceCtorEq, and_true, true_and, ed]
    rw [not_false_eq_true, forall_const]
    have hR : ed scheme rest = pn { url0 with Scheme := scheme, Port := -1 } (rest.dropWhile vj) := by simp only [ed, if_neg h1]
    simp only [← hR]
    refine qz [1, 4, 6] (fun (x : Str) => x.dropWhile vj = rest.dropWhile vj ∧ x.length ≤ rest.length) (fun x => [.cv (.str x), .ptr 0 13 0 0, .ptr 1 13 0 0]) (fun _ => [.boxT 0 [.cv (.str []), .cv (.str []), .cv (.str []), .cv (.int .i64 0), .cv (.str []), .cv (.int .i64 0), .cv (.int .i64 0), .nil 1, .cv (.str []), .cv (.bool false), .cv (.str []), .cv (.bool false), .cv (.str [])], .boxT 0 [.cv (.str scheme), .cv (.str []), .cv (.str []), .cv (.int .i64 0), .cv (.str []), .cv (.int .i64 0), .cv (.int .i64 (-1)), .nil 1, .cv (.str []), .cv (.bool false), .cv (.str []), .cv (.bool false), .cv (.str [])]]) (fun x => x.length) rest (by simp) ⟨rfl, rfl⟩ ?_
    rintro x ⟨hx, hl⟩
    rw [hR, ← hx]
    clear hx hR hk
    cases x with
    | nil =>
      repeat (dsimp +instances only [go_sem, qe, qb, qd, qc, qa]; try simp only [bb, qb, qf, qi, qh, qc, qg, qa])
      repeat (dsimp +instances only [wk, p4, bp, yf, pw, xe, xu]; repeat (dsimp +instances only [go_sem, qe, qb, qd, qc, qa]; try simp only [bb, qb, qf, qi, qh, qc, qg, qa]))
      try simp only [nn, reduceCtorEq]
      (repeat' (first | refine And.intro ?_ ?_ | intro _)) <;> try first | omega | trivial
      all_goals rfl
    | cons c r =>
      rw [List.dropWhile_cons]
      by_cases hc : vj c = true
      · have hc2 : c.toNat = 47 ∨ c.toNat = 92 := by simpa [vj] using hc
        rw [if_pos hc]
        repeat (dsimp +instances only [go_sem, qe, qb, qd, qc, qa]; try simp only [bb, qb, qf, qi, qh, qc, qg, qa])
        repeat (dsimp +instances only [wk, p4, bp, yf, pw, xe, xu]; repeat (dsimp +instances only [go_sem, qe, qb, qd, qc, qa]; try simp only [bb, qb, qf, qi, qh, qc, qg, qa]))
        try simp only [nn, reduceCtorEq]
        (repeat' (first | refine And.intro ?_ ?_ | intro _)) <;> try first | omega | trivial
        all_goals exact ql r ⟨rfl, by simp at hl; omega⟩ (by omega) rfl rfl
      · have hc2 : ¬ (c.toNat = 47 ∨ c.toNat = 92) := by simpa [vj] using hc
        rw [if_neg hc]
        repeat (dsimp +instances only [go_sem, qe, qb, qd, qc, qa]; try simp only [bb, qb, qf, qi, qh, qc, qg, qa])
        repeat (dsimp +instances only [wk, p4, bp, yf, pw, xe, xu]; repeat (dsimp +instances only [go_sem, qe, qb, qd, qc, qa]; try simp only [bb, qb, qf, qi, qh, qc, qg, qa]))
        try simp only [nn, reduceCtorEq]
        (repeat' (first | refine And.intro ?_ ?_ | intro _)) <;> try first | omega | trivial
def uk (u : Url) : Nat := u.Scheme.length + u.User.length + u.Pass.length + u.Host.Name.length + (xx u.Path).length + u.Opaque.length + u.Query.length + u.Frag.length
def putH (u : Url) : Str :=
  [47, 47] ++ (if u.User = [] ∧ u.Pass = [] then [] else u.User ++ (if u.Pass = [] then [] else [58] ++ u.Pass) ++ [64]) ++ ut u.Host ++ (if 0 ≤ u.Port then [58] ++ decN u.Port.toNat else []) ++ xx u.Path
def putU (u : Url) : Str := u.Scheme ++ [58] ++ (if ownN u.Scheme < 0 then u.Opaque else putH u) ++ (if u.HasQuery = true then [63] ++ u.Query else []) ++ (if u.HasFrag = true then [35] ++ u.Frag else [])
theorem fourT_len (a : Nat) (h : a < 4294967296) : (fourT a).length ≤ 15 := by
  have l1 := yi (a / 16777216) 2 (by omega)
  have l2 := yi (a / 65536 % 256) 2 (by omega)
  have l3 := yi (a / 256 % 256) 2 (by omega)
  have l4 := yi (a % 256) 2 (by omega)
  simp only [fourT, qu, qt, qx]; omega
theorem hostPut_len (h : Host) : (ut h).length ≤ h.Name.length + 15 := by
  unfold ut; split
  · rename_i ho
    split
    · rename_i hk
      have := fourT_len h.Addr.toNat (by simp [cm, hk] at ho; omega)
      omega
    · omega
  · simp
theorem o5 (n : Int) (h : R64 n) : (decN n.toNat).length ≤ 19 := yi n.toNat 18 (by have := h.2; omega)
def E149 : Env := { T := Tz.tab, G := Gl, C := [(186, ct186), (125, ct125), (187, ct187), (188, ct188)], live := [(0, [1]), (1, [1, 3]), (2, [1, 3, 10]), (3, [1, 3]), (4, [1, 3]), (5, [1, 3, 24]), (6, [1, 3]), (7, [1, 3, 31]), (8, [1, 3]), (9, [1, 3]), (10, [1, 3]), (11, [1, 3, 46]), (12, [1, 3]), (13, [1, 3]), (14, [1, 3, 59]), (15, [1, 3]), (16, [1, 3, 66]), (17, [3]), (18, [2])] }
def ct149 : Ct := .scal (dom1 tUrl (fun u => uk u ≤ 16777216)) (fn1 tUrl fun u => [tStr.enc (putU u)])
attribute [go_sem] E149 ct149 Go.Proofs.Tryz.f149
set_option maxHeartbeats 1000000 in
theorem ok149 : CtOk Tryz.prog Gl 149 ct149 := okA1 (E := E149) (qq Tz.tab_ok Tz.mixed (qj.cons ok186 (qj.cons ok125 (qj.cons ok187 (qj.cons ok188 qj.nil))))) rfl Tryz.func149 (by kernel_rfl) fun u fu hp => by
  have gu := fu
  have fu := k5 fu
  refine qn rfl rfl (by kernel_rfl) rfl ?_
  have hp1 := hp
  simp only [uk] at hp1
  have h1 := hostPut_len u.Host
  have hf := k5 gu
  have h2 := o5 u.Port hf.port
  repeat (dsimp +instances only [go_sem, qe, qb, qd, qc, qa]; try simp only [bb, qb, qf, qi, qh, qc, qg, qa])
  try simp only [nn, reduceCtorEq]
  by_cases a1 : ownN u.Scheme < 0
  all_goals simp only [a1, putU, putH, if_true, if_false, decide_true, decide_false, true_implies, false_implies, reduceCtorEq, true_and, and_true]
  all_goals (repeat' (first | refine And.intro ?_ ?_ | intro _)) <;> try first | omega | trivial
  all_goals simp_all
end Go.Gx
end
section
namespace Go.Gx
open Go.Proofs
structure Small (u : Url) (n : Nat) : Prop where
  scheme : u.Scheme.length ≤ n
  user : u.User.length ≤ 600
  pass : u.Pass.length ≤ 600
  name : u.Host.Name.length ≤ 600
  path : (xx u.Path).length ≤ 200000
  opq : u.Opaque.length ≤ 600
  query : u.Query.length ≤ 600
  frag : u.Frag.length ≤ 600
theorem Small.sz {u : Url} {n : Nat} (h : Small u n) : uk u ≤ n + 203600 := by
  have := h.scheme; have := h.user; have := h.pass; have := h.name; have := h.path; have := h.opq; have := h.query; have := h.frag
  unfold uk; omega
theorem small0 (s : Str) (p : Int) : Small { url0 with Scheme := s, Port := p } s.length := ⟨by simp, by simp [url0], by simp [url0], by simp [url0], by simp [url0, xx], by simp [url0], by simp [url0], by simp [url0]⟩
theorem Small.tail {u : Url} {n : Nat} (h : Small u n) (s : Str) : Small (pq u s) n := by
  have h1 := pj 3 (s.drop (qy [35] s + 1))
  have h2 := pj 2 ((s.take (qy [35] s)).drop 1)
  unfold pq
  dsimp only
  (repeat' split) <;> exact ⟨h.scheme, h.user, h.pass, h.name, h.path, h.opq, by first | exact h.query | assumption, by first | exact h.frag | assumption⟩
theorem Small.who {u : Url} {n : Nat} (h : Small u n) (s : Str) : Small (fy u s) n := by
  have h1 := pj 4 (s.take (qy [58] s))
  have h2 := pj 4 (s.drop (qy [58] s + 1))
  unfold fy
  dsimp only
  (repeat' split) <;> exact ⟨h.scheme, h1, by first | exact h2 | exact h.pass, h.name, h.path, h.opq, h.query, h.frag⟩
theorem nj (t : Str) : (yb t).1.Name.length ≤ 600 := by
  have h1 := oh t
  have h2 := pb (pk t)
  unfold yb; dsimp only; (repeat' split) <;> simp <;> omega
theorem Small.auth {u : Url} {n : Nat} (h : Small u n) (s : Str) : Small (ni u s).1 n := by
  have hh := nj ((s.drop (ku 64 0 (-1) s + 1).toNat).take (qy [58] (s.drop (ku 64 0 (-1) s + 1).toNat)))
  unfold ni
  simp only
  split
  · have h := h.who (s.take (ku 64 0 (-1) s).toNat); exact ⟨h.scheme, h.user, h.pass, hh, h.path, h.opq, h.query, h.frag⟩
  · exact ⟨h.scheme, h.user, h.pass, hh, h.path, h.opq, h.query, h.frag⟩
theorem walkS_put (out : List Str) (x : Str) (l : Bool) : (xx (yy out x l)).length ≤ (xx out).length + 601 := by
  have h1 := pj 1 x
  have h2 : (xx out.dropLast).length ≤ (xx out).length := by
    rcases List.eq_nil_or_concat out with rfl | ⟨a, b, rfl⟩
    · simp
    · simp [w8]
  unfold yy
  dsimp only
  (repeat' split) <;> try simp only [w8, xx, qu, qt, qx]
  all_goals omega
theorem walkL_put : ∀ (ps out : List Str), (xx (ve out ps)).length ≤ (xx out).length + 601 * ps.length
  | [], out => by simp [ve]
  | x :: r, out => by
    rw [yr]
    have h1 := walkS_put out x (decide (r = []))
    have h2 := walkL_put r (yy out x (decide (r = [])))
    simp only [qt]; omega
theorem walk_put (x : Str) (hl : x.length ≤ 200) : (xx (ve [] (gt x))).length ≤ 200000 := by
  have h1 := walkL_put (gt x) []
  have h2 := kq 47 (x.map wd) []
  simp only [gt, splitB, za, xx, qx] at h1 h2
  have h1 : (xx (ve [] (gt x))).length ≤ 601 * 201 := by simp only [gt, splitB]; omega
  exact Nat.le_trans h1 (by omega)
theorem mo (t : Str) : (xx (wc t)).length ≤ 200000 := by
  unfold wc
  split
  · simp [xx]
  · rename_i h
    refine walk_put _ ?_
    split
    · split <;> simp at * <;> omega
    · simp
theorem Small.hosted {u : Url} {n : Nat} (h : Small u n) (s : Str) : Small (pn u s).1 n := by
  unfold pn
  simp only
  split
  · have h := h.auth (s.take (qy [47, 92, 63, 35] s))
    refine Small.tail (u := { (ni u (s.take (qy [47, 92, 63, 35] s))).1 with Path := _ }) ?_ _
    exact ⟨h.scheme, h.user, h.pass, h.name, mo _, h.opq, h.query, h.frag⟩
  · exact ⟨by simp [url0], by simp [url0], by simp [url0], by simp [url0], by simp [url0, xx], by simp [url0], by simp [url0], by simp [url0]⟩
theorem readN_small (sc rest : Str) : Small (ed sc rest).1 sc.length := by
  unfold ed
  simp only
  split
  · refine Small.tail (u := { url0 with Scheme := sc, Port := -1, Opaque := _ }) ?_ _
    have h := small0 sc (-1)
    exact ⟨h.scheme, h.user, h.pass, h.name, h.path, pj 5 _, h.query, h.frag⟩
  · exact (small0 sc (-1)).hosted _
theorem schA_len : ∀ (s acc : Str), (schA acc s).1.1.length + (schA acc s).1.2.length ≤ acc.length + s.length
  | [], acc => by simp [schA]
  | c :: r, acc => by
    unfold schA
    split
    · simp [pb]; try omega
    · split
      · have := schA_len r (acc ++ [c]); simp at this ⊢; omega
      · simp
def fitsN (u : Url) : Bool := decide (u.Path.length ≤ 12 ∧ (putU u).length ≤ 600)
def E185 : Env := { T := Tz.tab, G := Gl, C := [(149, ct149)], live := [(0, [1]), (1, [2])] }
def ct185 : Ct := .scal (dom1 tUrl (fun u => uk u ≤ 16777216)) (fn1 tUrl fun u => [xa.enc (fitsN u)])
attribute [go_sem] E185 ct185 Go.Proofs.Tryz.f185
theorem ok185 : CtOk Tryz.prog Gl 185 ct185 := okA1 (E := E185) (qq Tz.tab_ok Tz.mixed (qj.cons ok149 qj.nil)) rfl Tryz.func185 (by kernel_rfl) fun u fu hp => by
  have gu := fu
  have fu := k5 fu
  refine qn rfl rfl (by kernel_rfl) rfl ?_
  repeat (dsimp +instances only [go_sem, qe, qb, qd, qc, qa]; try simp only [bb, qb, qf, qi, qh, qc, qg, qa])
  try simp only [nn, reduceCtorEq]
  (repeat' (first | refine And.intro ?_ ?_ | intro _)) <;> try first | omega | trivial
  all_goals grind (splits := 20) [fitsN]
def ym (s : Str) : Url × Bool :=
  if 200 < s.length then (url0, false) else
  let t := schA [] (jx s)
  let r := ed t.1.1 t.1.2
  if t.2 = true ∧ r.2 = true ∧ fitsN r.1 = true then (r.1, true) else (url0, false)
def E148 : Env := { T := Tz.tab, G := Gl, C := [(183, ct183), (182, ct182), (184, ct184), (185, ct185)], live := [(0, [0, 2]), (1, [0, 2, 11]), (2, [2, 3]), (3, [2, 4, 5, 6]), (4, [2, 4, 5, 21]), (5, [2, 3]), (6, [2, 7, 8]), (7, [2, 7, 35]), (8, [2, 3]), (9, [2, 3])] }
def ct148 : Ct := .im (dom1 tStr (fun text => True)) (fn1 tStr fun text => [tUrl.enc (ym text).1, xa.enc (ym text).2])
attribute [go_sem] E148 ct148 Go.Proofs.Tryz.f148
set_option maxHeartbeats 1000000 in
theorem ok148 : CtOk Tryz.prog Gl 148 ct148 := okI1 (E := E148) (qq Tz.tab_ok Tz.mixed (qj.cons ok183 (qj.cons ok182 (qj.cons ok184 (qj.cons ok185 qj.nil))))) rfl Tryz.func148 (by kernel_rfl) fun text ftext hp => by
  have ftext := zt ftext
  refine qn rfl rfl (by kernel_rfl) rfl ?_
  have h1 := mq text
  have h2 := schA_len (jx text) []
  have h3 := (readN_small (schA [] (jx text)).1.1 (schA [] (jx text)).1.2).sz
  simp only [qx] at h2
  repeat (dsimp +instances only [go_sem, qe, qb, qd, qc, qa]; try simp only [bb, qb, qf, qi, qh, qc, qg, qa])
  repeat (dsimp +instances only [wk, p4, bp, yf, pw, xe, xu]; repeat (dsimp +instances only [go_sem, qe, qb, qd, qc, qa]; try simp only [bb, qb, qf, qi, qh, qc, qg, qa]))
  try simp only [nn, reduceCtorEq]
  by_cases a : 200 < text.length
  · simp only [ym, if_pos a]
    (repeat' (first | refine And.intro ?_ ?_ | intro _)) <;> try first | omega | trivial
    all_goals first
    | (simp_all [url0]; done)
    | (rename_i h; rcases h with h | h <;> simp_all [url0])
  · simp only [ym, if_neg a]
    (repeat' (first | refine And.intro ?_ ?_ | intro _)) <;> try first | omega | trivial
    all_goals first
    | (simp_all [url0]; done)
    | (rename_i h; rcases h with h | h <;> simp_all [url0])
def E150 : Env := { T := Tz.tab, G := Gl, C := [], live := [(0, [2, 3]), (1, [2, 3, 82]), (2, [4]), (3, [2, 3, 5]), (4, [2, 3, 5, 87]), (5, [2, 3, 5]), (6, [2, 3, 5, 100]), (7, [4]), (8, [4])] }
def ct150 : Ct := .scal (dom2 tUrl tUrl (fun a b => True)) (fn2 tUrl tUrl fun a b => [xa.enc (decide (a = b))])
attribute [go_sem] E150 ct150 Go.Proofs.Tryz.f150
set_option maxHeartbeats 1000000 in
theorem ok150 : CtOk Tryz.prog Gl 150 ct150 := okA2 (E := E150) (qq Tz.tab_ok Tz.mixed qj.nil) rfl Tryz.func150 (by kernel_rfl) fun a b fa fb hp => by
  have ga := fa
  have fa := k5 fa
  have gb := fb
  have fb := k5 fb
  refine qn rfl rfl (by kernel_rfl) rfl ?_
  have hpf := (k5 ga).path
  have hne : a.Path.length = b.Path.length → (∀ i, i < a.Path.length → a.Path.getD i [] = b.Path.getD i []) → a.Path = b.Path := fun h1 h2 => by
    refine List.ext_getElem h1 fun i h3 h4 => ?_
    have := h2 i h3
    rwa [xj h3, xj h4] at this
  have he : a = b ↔ (a.Scheme = b.Scheme ∧ a.User = b.User ∧ a.Pass = b.Pass ∧ (a.Host.Kind = b.Host.Kind ∧ a.Host.Name = b.Host.Name ∧ a.Host.Addr = b.Host.Addr) ∧ a.Port = b.Port ∧ a.Path = b.Path ∧ a.Opaque = b.Opaque ∧ a.HasQuery = b.HasQuery ∧ a.Query = b.Query ∧ a.HasFrag = b.HasFrag ∧ a.Frag = b.Frag) := by
    constructor
    · rintro rfl; simp
    · rintro ⟨h1, h2, h3, ⟨h4, h5, h6⟩, h7, h8, h9, h10, h11, h12, h13⟩
      obtain ⟨_, _, _, ⟨_, _, _⟩, _, _, _, _, _, _, _⟩ := a
      obtain ⟨_, _, _, ⟨_, _, _⟩, _, _, _, _, _, _, _⟩ := b
      simp_all
  repeat (dsimp +instances only [go_sem, qe, qb, qd, qc, qa]; try simp only [bb, qb, qf, qi, qh, qc, qg, qa])
  try simp only [nn, reduceCtorEq]
  refine ⟨fun _ => rfl, fun h => ?_, fun h => ?_⟩
  · rw [eq_comm, decide_eq_false_iff_not, he]
    clear he hne ga gb fa fb
    grind
  have hq : (a.HasQuery = b.HasQuery) ∧ (a.HasFrag = b.HasFrag) := by
    have h1 := h.1.1.1.2
    have h2 := h.1.2
    simp only [bne_eq_false_iff_eq] at h1 h2
    exact ⟨h1, h2⟩
  have hpl : a.Path.length = b.Path.length := h.1.1.1.1.1.1.1.1.1.1
  have he : a = b ↔ a.Path = b.Path := by
    rw [he]
    clear he hne ga gb fa fb
    grind
  clear h hq
  refine qz [2, 3, 5] (fun (i : Nat) => i ≤ a.Path.length ∧ ∀ j, j < i → a.Path.getD j [] = b.Path.getD j []) (fun i => [.ptr 0 13 0 0, .ptr 1 13 0 0, .cv (.int .i64 i)]) (fun _ => [.boxT 0 [.cv (.str a.Scheme), .cv (.str a.User), .cv (.str a.Pass), .cv (.int .i64 a.Host.Kind), .cv (.str a.Host.Name), .cv (.int .i64 a.Host.Addr), .cv (.int .i64 a.Port), .cv (.sl 1 (a.Path.map rStr.enc)), .cv (.str a.Opaque), .cv (.bool a.HasQuery), .cv (.str a.Query), .cv (.bool a.HasFrag), .cv (.str a.Frag)], .boxT 0 [.cv (.str b.Scheme), .cv (.str b.User), .cv (.str b.Pass), .cv (.int .i64 b.Host.Kind), .cv (.str b.Host.Name), .cv (.int .i64 b.Host.Addr), .cv (.int .i64 b.Port), .cv (.sl 1 (b.Path.map rStr.enc)), .cv (.str b.Opaque), .cv (.bool b.HasQuery), .cv (.str b.Query), .cv (.bool b.HasFrag), .cv (.str b.Frag)]]) (fun i => a.Path.length - i) 0 (by simp) ⟨rfl, rfl⟩ ?_
  rintro i ⟨hi, hj⟩
  rcases qm i a.Path.length with hlt | hge
  · have hg := zf rStr hlt
    have hg2 := zf rStr (L := b.Path) (i := i) (by omega)
    try dsimp +instances only [go_sem, qe, qb, qd, qc, qa]
    repeat (simp only [hg, hg2, ji, qp, bb, qb, qf, qi, qh, qc, qg, qa]; try dsimp +instances only [go_sem, qe, qb, qd, qc, qa])
    try simp only [nn, reduceCtorEq, hlt, decide_true]
    (repeat' (first | refine And.intro ?_ ?_ | intro _)) <;> try first | omega | trivial
    all_goals first
    | (refine ql (i + 1) ⟨by omega, fun j hj2 => ?_⟩ (by omega) rfl rfl
       rcases qm j i with h3 | h3
       · exact hj j h3
       · obtain rfl : j = i := by omega
         rw [xj hlt, xj (by omega)]; assumption)
    | (rw [eq_comm, decide_eq_false_iff_not, he]
       intro h2
       rename_i h
       exact h (List.getElem_of_eq h2 _))
  · repeat (dsimp +instances only [go_sem, qe, qb, qd, qc, qa]; try simp only [bb, qb, qf, qi, qh, qc, qg, qa])
    try simp only [nn, reduceCtorEq, xd.2 hge, decide_false]
    (repeat' (first | refine And.intro ?_ ?_ | intro _)) <;> try first | omega | trivial
    rw [eq_comm, decide_eq_true_eq, he]
    exact hne hpl fun j h => hj j (by omega)
def urlOk (u : Url) : Bool := (ym (putU u)).2 && decide ((ym (putU u)).1 = u)
def E123 : Env := { T := Tz.tab, G := Gl, C := [(149, ct149), (148, ct148), (150, ct150)], live := [(0, [1]), (1, [1, 3, 4]), (2, [2])] }
def ct123 : Ct := .scal (dom1 tUrl (fun u => uk u ≤ 16777216)) (fn1 tUrl fun u => [xa.enc (urlOk u)])
attribute [go_sem] E123 ct123 Go.Proofs.Tryz.f123
theorem ok123 : CtOk Tryz.prog Gl 123 ct123 := okA1 (E := E123) (qq Tz.tab_ok Tz.mixed (qj.cons ok149 (qj.cons ok148 (qj.cons ok150 qj.nil)))) rfl Tryz.func123 (by kernel_rfl) fun u fu hp => by
  have gu := fu
  have fu := k5 fu
  refine qn rfl rfl (by kernel_rfl) rfl ?_
  repeat (dsimp +instances only [go_sem, qe, qb, qd, qc, qa]; try simp only [bb, qb, qf, qi, qh, qc, qg, qa])
  repeat (dsimp +instances only [wk, p4, bp, yf, pw, xe, xu]; repeat (dsimp +instances only [go_sem, qe, qb, qd, qc, qa]; try simp only [bb, qb, qf, qi, qh, qc, qg, qa]))
  try simp only [nn, reduceCtorEq]
  (repeat' (first | refine And.intro ?_ ?_ | intro _)) <;> try first | omega | trivial
def E128 : Env := { T := Tz.tab, G := Gl, C := [], live := [(0, [1, 2]), (1, [1, 2, 6]), (2, [1, 2]), (3, [1, 2]), (4, [2])] }
def ct128 : Ct := .pure (dom1 tUrl (fun u => True)) (fn1 tUrl fun u => [tUrl.enc u])
attribute [go_sem] E128 ct128 Go.Proofs.Tryz.f128
theorem ok128 : CtOk Tryz.prog Gl 128 ct128 := okA1 (E := E128) (qq Tz.tab_ok Tz.mixed qj.nil) rfl Tryz.func128 (by kernel_rfl) fun u fu hp => by
  have gu := fu
  have fu := k5 fu
  refine qn rfl rfl (by kernel_rfl) rfl ?_
  have hf := (k5 gu).path
  repeat (dsimp +instances only [go_sem, qe, qb, qd, qc, qa]; try simp only [bb, qb, qf, qi, qh, qc, qg, qa])
  try simp only [nn, reduceCtorEq]
  (repeat' (first | refine And.intro ?_ ?_ | intro _)) <;> try first | omega | trivial
  rw [qw.1 (show u.Path.length = 0 by omega)]
  rfl
end Go.Gx
end
section
namespace Go.Gx
open Go.Proofs
def E177 : Env := { T := Tz.tab, G := Gl, C := [], live := [(0, [0, 1]), (1, [0, 1, 7, 8]), (2, [0, 1, 7, 8, 9]), (3, [0, 1, 5, 7, 8]), (4, [0, 1, 5, 7, 8, 16]), (5, [4]), (6, [0, 1, 7, 8]), (7, [4])] }
def ct177 : Ct := .scal (dom2 jm tStr (fun s v => True)) (fn2 jm tStr fun s v => [tInt.enc (if v ∈ s then (s.idxOf v : Int) else -1)])
attribute [go_sem] E177 ct177 Go.Proofs.Tryz.f177
theorem ok177 : CtOk Tryz.prog Gl 177 ct177 := okA2 (E := E177) (qq Tz.tab_ok Tz.mixed qj.nil) rfl Tryz.func177 (by kernel_rfl) fun s v fs fv hp => by
  have gs := fs
  have fs := xc fs
  have fv := zt fv
  refine qn rfl rfl (by kernel_rfl) rfl ?_
  repeat (dsimp +instances only [go_sem, qe, qb, qd, qc, qa]; try simp only [bb, qb, qf, qi, qh, qc, qg, qa])
  refine qz [0, 1, 7, 8] (fun (i : Nat) => i ≤ s.length ∧ v ∉ s.take i) (fun i => [.cv (.sl 1 (s.map rStr.enc)), .cv (.str v), .cv (.int .i64 s.length), .cv (.int .i64 i)]) (fun _ => []) (fun i => s.length - i) 0 (by simp) ⟨rfl, rfl⟩ ?_
  rintro i ⟨hi, hn⟩
  rcases qm i s.length with hlt | hge
  · have hg := zf rStr hlt
    try dsimp +instances only [go_sem, qe, qb, qd, qc, qa]
    repeat (simp only [hg, ji, qp, bb, qb, qf, qi, qh, qc, qg, qa]; try dsimp +instances only [go_sem, qe, qb, qd, qc, qa])
    try simp only [nn, reduceCtorEq, hlt, decide_true]
    have ht := zr hlt
    (repeat' (first | refine And.intro ?_ ?_ | intro _)) <;> try first | omega | trivial
    · rename_i h
      rw [if_pos (h ▸ z8 hlt)]
      have hd : s = s.take i ++ s[i] :: s.drop (i + 1) := by rw [← qo hlt, wn]
      have : s.idxOf v = i := by
        rw [hd, List.idxOf_append, if_neg hn, ← h, List.idxOf_cons_self]; simp; omega
      rw [this]
    · exact ql (i + 1) ⟨by omega, by rw [ht, ja, j2, not_or]; exact ⟨hn, by assumption⟩⟩ (by omega) rfl rfl
  · rw [zc hge] at hn
    repeat (dsimp +instances only [go_sem, qe, qb, qd, qc, qa]; try simp only [bb, qb, qf, qi, qh, qc, qg, qa])
    try simp only [nn, reduceCtorEq, xd.2 hge, decide_false]
    (repeat' (first | refine And.intro ?_ ?_ | intro _)) <;> try first | omega | trivial
    rw [if_neg hn]
def E142 : Env := { T := Tz.tab, G := Gl, C := [(177, ct177)], live := [(0, [0, 1]), (1, [4])] }
def ct142 : Ct := .scal (dom2 jm tStr (fun s v => True)) (fn2 jm tStr fun s v => [xa.enc (decide (v ∈ s))])
attribute [go_sem] E142 ct142 Go.Proofs.Tryz.f142
theorem ok142 : CtOk Tryz.prog Gl 142 ct142 := okA2 (E := E142) (qq Tz.tab_ok Tz.mixed (qj.cons ok177 qj.nil)) rfl Tryz.func142 (by kernel_rfl) fun s v fs fv hp => by
  have gs := fs
  have fs := xc fs
  have fv := zt fv
  refine qn rfl rfl (by kernel_rfl) rfl ?_
  repeat (dsimp +instances only [go_sem, qe, qb, qd, qc, qa]; try simp only [bb, qb, qf, qi, qh, qc, qg, qa])
  try simp only [nn, reduceCtorEq]
  split <;> simp [*]
def E88 : Env := { T := Tz.tab, G := Gl, C := [], live := [(0, [0]), (1, [0, 4]), (2, [2]), (3, [2])] }
def ct88 : Ct := .pure (dom1 jm (fun s => True)) (fn1 jm fun s => [jm.enc s])
attribute [go_sem] E88 ct88 Go.Proofs.Tryz.f88
theorem ok88 : CtOk Tryz.prog Gl 88 ct88 := okA1 (E := E88) (qq Tz.tab_ok Tz.mixed qj.nil) rfl Tryz.func88 (by kernel_rfl) fun s fs hp => by
  have gs := fs
  have fs := xc fs
  refine qn rfl rfl (by kernel_rfl) rfl ?_
  repeat (dsimp +instances only [go_sem, qe, qb, qd, qc, qa]; try simp only [bb, qb, qf, qi, qh, qc, qg, qa])
  try simp only [nn, reduceCtorEq]
  (repeat' (first | refine And.intro ?_ ?_ | intro _)) <;> try first | omega | trivial
  rename_i h
  rw [h]
def E87 : Env := { T := Tz.tab, G := Gl, C := [], live := [(0, [0]), (1, [2])] }
def ct87 : Ct := inlK E87 Go.Proofs.Tryz.f87 #[ResultVar.tmp 2] 1
attribute [go_sem] E87 ct87 Go.Proofs.Tryz.f87
theorem ok87 : CtOk Tryz.prog Gl 87 ct87 := ju (E := E87) (qq Tz.tab_ok Tz.mixed qj.nil) Tryz.func87 (by kernel_rfl) rfl rfl rfl (fun pin => by kernel_rfl)
def E50 : Env := { T := Tz.tab, G := Gl, C := [(88, ct88), (87, ct87)], live := [(0, [0]), (1, [2])] }
def ct50 : Ct := .pure (dom1 jm (fun list => True)) (fn1 jm fun list => [jm.enc list])
attribute [go_sem] E50 ct50 Go.Proofs.Tryz.f50
theorem ok50 : CtOk Tryz.prog Gl 50 ct50 := okA1 (E := E50) (qq Tz.tab_ok Tz.mixed (qj.cons ok88 (qj.cons ok87 qj.nil))) rfl Tryz.func50 (by kernel_rfl) fun list flist hp => by
  have glist := flist
  have flist := xc flist
  refine qn rfl rfl (by kernel_rfl) rfl ?_
  repeat (dsimp +instances only [go_sem, qe, qb, qd, qc, qa]; try simp only [bb, qb, qf, qi, qh, qc, qg, qa])
  try simp only [nn, reduceCtorEq]
  (repeat' (first | refine And.intro ?_ ?_ | intro _)) <;> try first | omega | trivial
def E161 : Env := { T := Tz.tab, G := Gl, C := [], live := [(0, [0, 1]), (1, [0, 1, 10]), (2, [4]), (3, [0, 1, 12, 13]), (4, [0, 1, 12, 13, 14]), (5, [0, 1, 5, 12, 13]), (6, [0, 1, 12, 13, 24]), (7, [4]), (8, [0, 1, 12, 13]), (9, [4])] }
def ct161 : Ct := .scal (dom2 jm jm (fun a b => True)) (fn2 jm jm fun a b => [xa.enc (decide (a = b))])
attribute [go_sem] E161 ct161 Go.Proofs.Tryz.f161
theorem ok161 : CtOk Tryz.prog Gl 161 ct161 := okA2 (E := E161) (qq Tz.tab_ok Tz.mixed qj.nil) rfl Tryz.func161 (by kernel_rfl) fun a b fa fb hp => by
  have ga := fa
  have fa := xc fa
  have gb := fb
  have fb := xc fb
  refine qn rfl rfl (by kernel_rfl) rfl ?_
  repeat (dsimp +instances only [go_sem, qe, qb, qd, qc, qa]; try simp only [bb, qb, qf, qi, qh, qc, qg, qa])
  try simp only [nn, reduceCtorEq]
  refine ⟨fun h => ?_, fun h => ?_⟩
  · rw [eq_comm, decide_eq_false_iff_not]
    intro e; exact h (by rw [e])
  refine qz [0, 1, 12, 13] (fun (i : Nat) => i ≤ a.length ∧ ∀ j, j < i → a.getD j [] = b.getD j []) (fun i => [.cv (.sl 1 (a.map rStr.enc)), .cv (.sl 1 (b.map rStr.enc)), .cv (.int .i64 a.length), .cv (.int .i64 i)]) (fun _ => []) (fun i => a.length - i) 0 (by simp) ⟨rfl, rfl⟩ ?_
  rintro i ⟨hi, hj⟩
  rcases qm i a.length with hlt | hge
  · have hg := zf rStr hlt
    have hg2 := zf rStr (L := b) (i := i) (by omega)
    try dsimp +instances only [go_sem, qe, qb, qd, qc, qa]
    repeat (simp only [hg, hg2, ji, qp, bb, qb, qf, qi, qh, qc, qg, qa]; try dsimp +instances only [go_sem, qe, qb, qd, qc, qa])
    try simp only [nn, reduceCtorEq, hlt, decide_true]
    (repeat' (first | refine And.intro ?_ ?_ | intro _)) <;> try first | omega | trivial
    all_goals first
    | (refine ql (i + 1) ⟨by omega, fun j hj2 => ?_⟩ (by omega) rfl rfl
       rcases qm j i with h3 | h3
       · exact hj j h3
       · obtain rfl : j = i := by omega
         rw [xj hlt, xj (by omega)]; assumption)
    | (rw [eq_comm, decide_eq_false_iff_not]
       intro h2
       rename_i h
       exact h (List.getElem_of_eq h2 _))
  · repeat (dsimp +instances only [go_sem, qe, qb, qd, qc, qa]; try simp only [bb, qb, qf, qi, qh, qc, qg, qa])
    try simp only [nn, reduceCtorEq, xd.2 hge, decide_false]
    (repeat' (first | refine And.intro ?_ ?_ | intro _)) <;> try first | omega | trivial
    rw [eq_comm, decide_eq_true_eq]
    refine List.ext_getElem h fun i h3 h4 => ?_
    have := hj i (by omega)
    rwa [xj h3, xj h4] at this
theorem decN_eq : ∀ n : Nat, Lib.decDigits n = decN n := by
  intro n
  induction n using Nat.strongRecOn with
  | _ n ih =>
    rw [Lib.decDigits, decN]
    split
    · rfl
    · rw [ih (n / 10) (by omega)]
theorem tab_pow10 {w : World} (hG : GOk Gl (km w)) : Lib.TabIs Tryz.prog w "internal/strconv.uint64pow10" .u64 Lib.pow10Tab := by
  obtain ⟨cur, T, fr, h1, hz, h2⟩ := hG 2 (by simp [GlobOk, Env.glob, Gl, look])
  have h1 : w.heap[2]? = some (.cells cur T fr) := h1
  have hg : ({ T := [], G := Gl, C := [] } : Env).glob 2 = Lib.pow10Tab.map fun z => CV.int .u64 z := by kernel_rfl
  rw [hg] at hz h2
  unfold Lib.TabIs World.var?
  rw [show Tryz.prog.globalNamed "internal/strconv.uint64pow10" = some 2 by kernel_rfl]
  simp only [Option.bind_some, h1]
  congr 1
  rw [za] at hz
  refine Array.ext (by simpa using hz) fun i hi1 hi2 => ?_
  have hi : i < Lib.pow10Tab.length := by omega
  obtain ⟨x, hx, hr⟩ := h2 i (.int .u64 Lib.pow10Tab[i]) (by rw [List.getElem?_map, List.getElem?_eq_getElem hi]; rfl)
  rw [Array.getElem?_eq_getElem hi1] at hx
  injection hx with hx; subst hx
  generalize cur[i] = u at hr
  cases hr
  simp
def ct159 : Ct := .scal (dom1 tInt fun n => 0 ≤ n) (fn1 tInt fun n => [tStr.enc (decN n.toNat)])
attribute [go_sem] ct159
theorem ok159 : CtOk Tryz.prog Gl 159 ct159 := fun w cs vs hG ha hd => by
  obtain ⟨n, rfl, h0⟩ := mb hd
  obtain ⟨x, rfl, h1⟩ := ias1 ha
  obtain ⟨rfl, hn⟩ := ia_int h1
  refine ⟨⟨_, _, Tryz.func159, rfl, by kernel_rfl⟩, (Tryz.strconv_Itoa n hn.1 hn.2 w (tab_pow10 hG)).mono ?_⟩
  rintro e w' ⟨rfl, k, os, rfl⟩
  refine ⟨_, rfl, ⟨fun b hb => ?_, ?_, rfl, rfl, rfl⟩, fun _ => False, ?_, fun _ h => h.elim⟩
  · exact Lib.heap_grow_old w k os b hb
  · exact Lib.size_grow w k os
  · simp only [fn1, Ty.de]
    have e : Lib.itoa n = decN n.toNat := by rw [Lib.itoa, if_neg (by omega), decN_eq]
    rw [e]
    have := o5 n hn
    exact oa_str (by omega)
theorem strs_cells {w : World} {l : List Str} {v : Value} (h : RepI (km w) (.sl 1 (l.map rStr.enc)) v) (hne : l ≠ []) :
    ∃ b o c, v = .slice (some ⟨b, o, none⟩) l.length c ∧ l.length ≤ c ∧ b < w.heap.size ∧ Fit l.length ∧ ∀ j x, l[j]? = some x → w.cell? ⟨b, o + j, none⟩ = some (.string ⟨x.toArray⟩) := by
  generalize hes : l.map rStr.enc = es at h
  cases h with
  | nil => simp at hes; exact absurd hes hne
  | sl vals h1 h2 h3 h4 h5 h6 =>
    rename_i b o c cur T fr
    have hl : es.length = l.length := by rw [← hes]; simp
    rw [hl] at h1 h4 ⊢
    have h3 : w.heap[b]? = some (.cells cur T fr) := h3
    refine ⟨b, o, c, rfl, h4, (Array.getElem?_eq_some_iff.1 h3).1, h1, fun j x hx => ?_⟩
    have hj : j < l.length := (List.getElem?_eq_some_iff.1 hx).1
    have hc := h5 j 0 (by omega) (by omega)
    have hr := h6 j 0 (by omega) (by omega)
    have hg : getC es j 0 = .str x := by
      unfold getC
      rw [← hes, zf rStr hj]
      have : l[j] = x := by rw [List.getElem?_eq_getElem hj] at hx; injection hx
      rw [this]; rfl
    rw [hg] at hr
    generalize vals j 0 = u at hc hr
    cases hr
    simp only [Nat.mul_one, jk] at hc
    simp [World.cell?, h3, hc]
def ct174 : Ct := .scal (dom2 jm tStr fun l p => l ≠ [] ∧ (Lib.join l p).length ≤ 16777216) (fn2 jm tStr fun l p => [tStr.enc (Lib.join l p)])
attribute [go_sem] ct174
theorem ok174 : CtOk Tryz.prog Gl 174 ct174 := fun w cs vs hG ha hd => by
  obtain ⟨l, p, rfl, hne, hlen⟩ := uw hd
  obtain ⟨x, y, rfl, h1, h2⟩ := ias2 ha
  obtain ⟨rfl, hf⟩ := ur h2
  obtain ⟨c0, hc0, h1⟩ := h1
  injection hc0 with hc0 _; subst hc0
  obtain ⟨b, o, c, rfl, hc, hb, hfl, hcell⟩ := strs_cells h1 hne
  have hm : (l.map fun s => (⟨s.toArray⟩ : ByteArray)).map (fun x => x.data.toList) = l := by
    rw [List.map_map]
    conv => rhs; rw [← List.map_id l]
    exact List.map_congr_left fun a _ => rfl
  have := Tryz.strings_Join b o c (l.map fun s => ⟨s.toArray⟩) ⟨p.toArray⟩ w (fun j x hx => by
      rw [List.getElem?_map, j7] at hx
      obtain ⟨s, hs, rfl⟩ := hx
      exact hcell j s hs) hb (by simp; omega) (by simpa using hc) (by rw [hm]; simp; omega)
  rw [hm, za] at this
  refine ⟨⟨_, _, Tryz.func174, rfl, by kernel_rfl⟩, this.mono ?_⟩
  rintro e w' ⟨rfl, hw⟩
  refine ⟨_, rfl, m3 hw, fun _ => False, ?_, fun _ h => h.elim⟩
  simp only [fn2, Ty.de]
  exact oa_str (by omega)
theorem count_le1 (s p : Str) (h : p ≠ []) : Lib.count s p ≤ s.length := by
  have := Lib.countB_le ⟨p.toArray⟩ (by simp [ByteArray.size]; exact zo.2 h) s.length ⟨s.toArray⟩ (by simp [ByteArray.size])
  simpa [Lib.countB, ByteArray.size] using this
def ct247 : Ct := .scal (dom3 tStr tStr tStr fun s o n => s.length ≤ 1073741824 ∧ o ≠ [] ∧ n.length ≤ 1 ∧ (Lib.replaceAll s o n).length ≤ 1073741824) (fn3 tStr tStr tStr fun s o n => [tStr.enc (Lib.replaceAll s o n)])
attribute [go_sem] ct247
theorem ok247 : CtOk Tryz.prog Gl 247 ct247 := fun w cs vs hG ha hd => by
  obtain ⟨s, o, n, rfl, hs, ho, hn, hr⟩ := dom3_inv hd
  obtain ⟨x, y, z, rfl, h1, h2, h3⟩ := ias3 ha
  obtain ⟨rfl, hf⟩ := ur h1
  obtain ⟨rfl, _⟩ := ur h2
  obtain ⟨rfl, _⟩ := ur h3
  obtain ⟨m, hm⟩ := m1 hG
  have hc := count_le1 s o ho
  have ho1 : 1 ≤ o.length := zo.2 ho
  refine ⟨⟨_, _, Tryz.func247, rfl, by kernel_rfl⟩, (Tryz.strings_ReplaceAll ⟨s.toArray⟩ ⟨o.toArray⟩ ⟨n.toArray⟩ m w (by rw [wl]; omega) hm (by rw [wl]; omega) ?_).mono ?_⟩
  · rw [wl, wl]
    have : Lib.countB ⟨s.toArray⟩ ⟨o.toArray⟩ * n.length ≤ s.length * 1 := Nat.mul_le_mul hc hn
    omega
  rintro e w' ⟨rfl, hw⟩
  refine ⟨_, rfl, m3 hw, fun _ => False, ?_, fun _ h => h.elim⟩
  simp only [fn3, Ty.de]
  exact oa_str (by omega)
end Go.Gx
end
section
namespace Go.Gx
open Go.Proofs
def E23 : Env := { T := Tz.tab, G := Gl, C := [], live := [(0, [0, 1, 2]), (1, [6])] }
def ct23 : Ct := .scal (dom3 tInt tInt tInt (fun n lo hi => True)) (fn3 tInt tInt tInt fun n lo hi => [xa.enc (decide (lo ≤ n ∧ n ≤ hi))])
attribute [go_sem] E23 ct23 Go.Proofs.Tryz.f23
theorem ok23 : CtOk Tryz.prog Gl 23 ct23 := okA3 (E := E23) (qq Tz.tab_ok Tz.mixed qj.nil) rfl Tryz.func23 (by kernel_rfl) fun n lo hi fn flo fhi hp => by
  have fn := xn fn
  have flo := xn flo
  have fhi := xn fhi
  refine qn rfl rfl (by kernel_rfl) rfl ?_
  try dsimp +instances only [go_sem, qe, qb, qd, qc, qa]
  try simp only [bb, qb, qf, qi, qh, qc, qg, qa]
  grind
def E179 : Env := { T := Tz.tab, G := Gl, C := [], live := [(0, [0]), (1, [0, 3]), (2, [2]), (3, [0, 13]), (4, [2]), (5, [0, 24]), (6, [2]), (7, [2])] }
def ct179 : Ct := .scal (dom1 yc (fun c => True)) (fn1 yc fun c => [tInt.enc (hexv c)])
attribute [go_sem] E179 ct179 Go.Proofs.Tryz.f179
theorem ok179 : CtOk Tryz.prog Gl 179 ct179 := okA1 (E := E179) (qq Tz.tab_ok Tz.mixed qj.nil) rfl Tryz.func179 (by kernel_rfl) fun c fc hp => by
  refine qn rfl rfl (by kernel_rfl) rfl ?_
  try dsimp +instances only [go_sem, qe, qb, qd, qc, qa]
  try simp only [bb, qb, qf, qi, qh, qc, qg, qa]
  (repeat' (first | refine And.intro ?_ ?_ | intro _)) <;> try first | omega | trivial
  all_goals grind [hexv]
def E141 : Env := { T := Tz.tab, G := Gl, C := [], live := [(0, [0]), (1, [2])] }
def ct141 : Ct := .scal (dom1 yc (fun c => True)) (fn1 yc fun c => [xa.enc (decide (48 ≤ c.toNat ∧ c.toNat ≤ 57))])
attribute [go_sem] E141 ct141 Go.Proofs.Tryz.f141
theorem ok141 : CtOk Tryz.prog Gl 141 ct141 := okA1 (E := E141) (qq Tz.tab_ok Tz.mixed qj.nil) rfl Tryz.func141 (by kernel_rfl) fun c fc hp => by
  refine qn rfl rfl (by kernel_rfl) rfl ?_
  try dsimp +instances only [go_sem, qe, qb, qd, qc, qa]
  try simp only [bb, qb, qf, qi, qh, qc, qg, qa]
  grind
def E221 : Env := { T := Tz.tab, G := Gl, C := [], live := [(0, [0]), (1, [2])] }
def ct221 : Ct := .scal (dom1 yc (fun c => True)) (fn1 yc fun c => [xa.enc (decide ((97 ≤ c.toNat ∧ c.toNat ≤ 122) ∨ (65 ≤ c.toNat ∧ c.toNat ≤ 90)))])
attribute [go_sem] E221 ct221 Go.Proofs.Tryz.f221
theorem ok221 : CtOk Tryz.prog Gl 221 ct221 := okA1 (E := E221) (qq Tz.tab_ok Tz.mixed qj.nil) rfl Tryz.func221 (by kernel_rfl) fun c fc hp => by
  refine qn rfl rfl (by kernel_rfl) rfl ?_
  try dsimp +instances only [go_sem, qe, qb, qd, qc, qa]
  try simp only [bb, qb, qf, qi, qh, qc, qg, qa]
  grind
def E196 : Env := { T := Tz.tab, G := Gl, C := [], live := [(0, [0]), (1, [2])] }
def ct196 : Ct := .scal (dom1 yc (fun c => True)) (fn1 yc fun c => [xa.enc (vj c)])
attribute [go_sem] E196 ct196 Go.Proofs.Tryz.f196
theorem ok196 : CtOk Tryz.prog Gl 196 ct196 := okA1 (E := E196) (qq Tz.tab_ok Tz.mixed qj.nil) rfl Tryz.func196 (by kernel_rfl) fun c fc hp => by
  refine qn rfl rfl (by kernel_rfl) rfl ?_
  try dsimp +instances only [go_sem, qe, qb, qd, qc, qa]
  try simp only [bb, qb, qf, qi, qh, qc, qg, qa]
  grind [vj]
def E157 : Env := { T := Tz.tab, G := Gl, C := [], live := [(0, [0]), (1, [4]), (2, [4, 5]), (3, [2, 3]), (4, [7]), (5, [2, 3]), (6, [2, 3])] }
def ct157 : Ct := .scal (dom1 tStr (fun scheme => True)) (fn1 tStr fun scheme => [tInt.enc (ownN scheme), xa.enc (decide (0 ≤ ownN scheme))])
attribute [go_sem] E157 ct157 Go.Proofs.Tryz.f157
theorem ok157 : CtOk Tryz.prog Gl 157 ct157 := okA1 (E := E157) (qq Tz.tab_ok Tz.mixed qj.nil) rfl Tryz.func157 (by kernel_rfl) fun scheme fscheme hp => by
  have fscheme := zt fscheme
  refine qn rfl rfl (by kernel_rfl) rfl ?_
  repeat (dsimp +instances only [go_sem, qe, qb, qd, qc, qa]; try simp only [bb, qb, qf, qi, qh, qc, qg, qa])
  try simp only [nn, reduceCtorEq]
  (repeat' (first | refine And.intro ?_ ?_ | intro _)) <;> try first | omega | trivial
  all_goals grind (splits := 20) [ownN]
theorem low_step {s : Str} {i : Nat} (h : i < s.length) : kr (s.take (i + 1)) ++ s.drop (i + 1) = (kr (s.take i) ++ s.drop i).set i (lowB s[i]) := by
  rw [zr h, qo h, kr, xh, List.set_append_right _ _ (by simp [kr]; omega)]
  rw [kr, za, zh, Nat.min_eq_left (Nat.le_of_lt h), p2]
  simp only [zu, vt, zb, List.singleton_append, xe]
def E222 : Env := { T := Tz.tab, G := Gl, C := [], live := [(0, [0]), (1, [3]), (2, [3, 8, 9, 10]), (3, [3, 8, 9, 10, 11]), (4, [3, 4, 5, 8, 9, 10]), (5, [3, 4, 5, 8, 9, 10, 20]), (6, [3, 8, 9, 10]), (7, [3, 8, 9, 10]), (8, [2])] }
def ct222 : Ct := .scal (dom1 tStr (fun text => True)) (fn1 tStr fun text => [tStr.enc (kr text)])
attribute [go_sem] E222 ct222 Go.Proofs.Tryz.f222
theorem ok222 : CtOk Tryz.prog Gl 222 ct222 := okA1 (E := E222) (qq Tz.tab_ok Tz.mixed qj.nil) rfl Tryz.func222 (by kernel_rfl) fun text ftext hp => by
  have ftext := zt ftext
  refine qn rfl rfl (by kernel_rfl) rfl ?_
  repeat (dsimp +instances only [go_sem, qe, qb, qd, qc, qa]; try simp only [bb, qb, qf, qi, qh, qc, qg, qa])
  refine ⟨by omega, by omega, ?_⟩
  refine qz [3, 8, 9, 10] (fun (i : Nat) => i ≤ text.length) (fun i => [.pth 0 1 0 text.length, .pth 0 1 0 text.length, .cv (.int .i64 text.length), .cv (.int .i64 i)]) (fun i => [.byt (kr (text.take i) ++ text.drop i)]) (fun i => text.length - i) 0 (by simp) ⟨rfl, by simp [kr]; rfl⟩ ?_
  intro i hi
  rcases qm i text.length with hlt | hge
  · have hg : (kr (text.take i) ++ text.drop i).getD i 0 = text[i] := by
      rw [xj (by simp [kr]; omega), List.getElem_append_right (by simp [kr]; omega)]; simp [kr, Nat.min_eq_left (Nat.le_of_lt hlt)]
    have hln : (kr (text.take i)).length + (text.drop i).length = text.length := by simp [kr]; omega
    have hst := low_step hlt
    have hset : (kr (text.take i) ++ text.drop i).set i text[i] = kr (text.take i) ++ text.drop i := by
      conv => lhs; arg 3; rw [← hg]
      rw [xj (by simp [kr]; omega)]; exact List.set_getElem_self (by simp [kr]; omega)
    repeat (dsimp +instances only [go_sem, qe, qb, qd, qc, qa]; try simp only [bb, qb, qf, qi, qh, qc, qg, qa])
    try simp only [nn, reduceCtorEq, hlt, decide_true]
    simp only [hg, hln]
    (repeat' (first | refine And.intro ?_ ?_ | intro _)) <;> try first | omega | trivial
    all_goals first
    | (refine ql (i + 1) (by omega) (by omega) rfl ?_
       rw [hst, u8_eq (c := lowB text[i]) (by rw [il]; split <;> omega)])
    | (refine ql (i + 1) (by omega) (by omega) rfl ?_
       rw [hst, show lowB text[i] = text[i] by (apply UInt8.toNat_inj.1; rw [il, if_neg (by omega)]), hset])
  · have hm : kr (text.take i) ++ text.drop i = kr text := by rw [qv hge, zc hge, zl]
    have hm2 := pb text
    simp only [hm]
    repeat (dsimp +instances only [go_sem, qe, qb, qd, qc, qa]; try simp only [bb, qb, qf, qi, qh, qc, qg, qa])
    try simp only [nn, reduceCtorEq, xd.2 hge, decide_false]
    (repeat' (first | refine And.intro ?_ ?_ | intro _)) <;> try first | omega | trivial
    rw [zc (by omega)]
def E143 : Env := { T := Tz.tab, G := Gl, C := [(178, ct178)], live := [(0, [0]), (1, [3]), (2, [3, 4]), (3, [3, 4, 18]), (4, [3]), (5, [2])] }
def ct143 : Ct := .pure (dom1 tStr (fun text => text.length ≤ 1073741823)) (fn1 tStr fun text => [jm.enc (j1 text)])
attribute [go_sem] E143 ct143 Go.Proofs.Tryz.f143
theorem ok143 : CtOk Tryz.prog Gl 143 ct143 := okA1 (E := E143) (qq Tz.tab_ok Tz.mixed (qj.cons ok178 qj.nil)) rfl Tryz.func143 (by kernel_rfl) fun text ftext hp => by
  have ftext := zt ftext
  refine qn rfl rfl (by kernel_rfl) rfl ?_
  have hne : splitB 46 text ≠ [] := eb _ _ _
  have hlen := kq 46 text []
  have hg := n5 hne
  repeat (dsimp +instances only [go_sem, qe, qb, qd, qc, qa]; try simp only [bb, qb, qf, qi, qh, qc, qg, qa])
  try simp only [nn, reduceCtorEq]
  have hlen' : 0 < (splitB 46 text).length := zo.2 hne
  have hlen'' : (splitB 46 text).length ≤ text.length + 1 := hlen
  simp only [hg]
  repeat (dsimp +instances only [go_sem, qe, qb, qd, qc, qa]; try simp only [bb, qb, qf, qi, qh, qc, qg, qa])
  try simp only [nn, reduceCtorEq]
  have hgl : (splitB 46 text).getLast?.getD [] = [] ↔ (splitB 46 text).getLast? = some [] := by
    cases h : (splitB 46 text).getLast? with
    | none => rw [List.getLast?_eq_none_iff] at h; exact absurd h hne
    | some x => simp
  (repeat' (first | refine And.intro ?_ ?_ | intro _)) <;> try first | omega | trivial
  · rename_i h
    simp only [j1]
    rw [if_pos ⟨by omega, hgl.1 h.2⟩, List.dropLast_eq_take, p0]
  · rename_i h
    simp only [j1]
    rw [if_neg]
    rintro ⟨h1, h2⟩
    rw [← hgl] at h2
    grind
end Go.Gx
end
section
namespace Go.Gx
open Go.Proofs
def labN (s : Str) : Int × Bool := if 0 ≤ vu s then (vu s, true) else (0, false)
def E144 : Env := { T := Tz.tab, G := Gl, C := [(140, ct140), (179, ct179)], live := [(0, [0]), (1, [0, 4]), (2, [0, 4, 8]), (3, [2, 3]), (4, [0, 4, 11]), (5, [0, 4]), (6, [0, 4, 20]), (7, [0, 4]), (8, [0, 4, 5]), (9, [0, 4, 5, 32, 33]), (10, [0, 4, 5, 32, 33, 34]), (11, [0, 4, 5, 6, 32, 33]), (12, [0, 4, 5, 7, 32, 33]), (13, [0, 4, 5, 7, 32, 33, 50]), (14, [2, 3]), (15, [0, 4, 5, 32, 33]), (16, [0, 4, 5, 32, 33]), (17, [2, 3])] }
def ct144 : Ct := .scal (dom1 tStr (fun s => True)) (fn1 tStr fun s => [tInt.enc (labN s).1, xa.enc (labN s).2])
attribute [go_sem] E144 ct144 Go.Proofs.Tryz.f144
set_option maxHeartbeats 1000000 in
theorem ok144 : CtOk Tryz.prog Gl 144 ct144 := okA1 (E := E144) (qq Tz.tab_ok Tz.mixed (qj.cons ok140 (qj.cons ok179 qj.nil))) rfl Tryz.func144 (by kernel_rfl) fun s fs hp => by
  have fs := zt fs
  rcases hs : s with _ | ⟨a, _ | ⟨b, r⟩⟩ <;> subst hs
  · skip
    refine qn rfl rfl (by kernel_rfl) rfl ?_
    try dsimp +instances only [go_sem, qe, qb, qd, qc, qa]
    try simp only [bb, qb, qf, qi, qh, qc, qg, qa]
    repeat (dsimp +instances only [go_sem, qe, qb, qd, qc, qa]; try simp only [bb, qb, qf, qi, qh, qc, qg, qa])
    try simp only [nn, reduceCtorEq]
    (repeat' (first | refine And.intro ?_ ?_ | intro _)) <;> try first | omega | trivial
    all_goals grind (splits := 20) [labN, vu]
  · skip
    refine qn rfl rfl (by kernel_rfl) rfl ?_
    try dsimp +instances only [go_sem, qe, qb, qd, qc, qa]
    try simp only [bb, qb, qf, qi, qh, qc, qg, qa]
    repeat (dsimp +instances only [go_sem, qe, qb, qd, qc, qa]; try simp only [bb, qb, qf, qi, qh, qc, qg, qa])
    try simp only [nn, reduceCtorEq]
    simp only [po, Bool.and_false, kd]
    try simp only [nn, reduceCtorEq]
    (repeat' (first | refine And.intro ?_ ?_ | intro _)) <;> try first | omega | trivial
    have hP : vu ([a]) = digs 10 0 ([a]) := by rfl
    have hL : labN ([a]) = if 0 ≤ digs 10 0 ([a]) then (digs 10 0 ([a]), true) else (0, false) := by rw [labN, hP]
    rw [hL]
    clear hL hP
    have hl : (([a]) : Str).length = 1 := rfl
    have hft : Fit (([a]) : Str).length := by simp only [qt, qx, Fit] at *; omega
    generalize (([a]) : Str) = t at hl hft
    refine qz [0, 4, 5, 32, 33] (fun (x : Nat × Int) => x.1 ≤ t.length ∧ 0 ≤ x.2 ∧ x.2 ≤ 137438953472 ∧ digs 10 x.2 (t.drop x.1) = digs 10 0 t) (fun x => [.cv (.str t), .cv (.int .i64 10), .cv (.int .i64 x.2), .cv (.int .i64 ((1 : Nat) : Int)), .cv (.int .i64 x.1)]) (fun _ => []) (fun x => t.length - x.1) (0, 0) (by simp) ⟨rfl, rfl⟩ ?_
    rintro ⟨i, n⟩ ⟨hi, h0, h1, he⟩
    simp only at hi h0 h1 he
    rcases qm i t.length with hlt | hge
    · have hx := uu t[i]
      have hlt2 : i < 1 := by omega
      rw [qo hlt, digs] at he
      repeat (dsimp +instances only [go_sem, qe, qb, qd, qc, qa]; try simp only [bb, qb, qf, qi, qh, qc, qg, qa])
      try simp only [nn, reduceCtorEq, hlt2, hlt, decide_true]
      by_cases hc : hexv t[i] < 0 ∨ 10 ≤ hexv t[i] ∨ 4294967295 < n
      · rw [if_pos hc] at he
        rw [← he]
        (repeat' (first | refine And.intro ?_ ?_ | intro _)) <;> try first | omega | trivial
        all_goals try grind
      · rw [if_neg hc] at he
        have hm : 10 * n = n * 10 := Int.mul_comm _ _
        (repeat' (first | refine And.intro ?_ ?_ | intro _)) <;> try first | omega | trivial
        all_goals first
        | (refine ql (i + 1, n * 10 + hexv t[i]) ⟨by simp only; omega, by simp only; omega, by simp only; omega, he⟩ (by simp only; omega) ?_ rfl
           rw [hm]; rfl)
        | grind
    · rw [qv hge, digs] at he
      have hlt2 : ¬ i < 1 := by omega
      rw [← he, if_pos h0]
      repeat (dsimp +instances only [go_sem, qe, qb, qd, qc, qa]; try simp only [bb, qb, qf, qi, qh, qc, qg, qa])
      try simp only [nn, reduceCtorEq, hlt2, decide_false]
      all_goals ((repeat' (first | refine And.intro ?_ ?_ | intro _)) <;> try first | omega | trivial)
  · have e48 : ((48 : UInt8) == a) = decide (a.toNat = 48) := by
      rw [pp, beq_iff_eq, decide_eq_true_eq, eq_comm, ← UInt8.toNat_inj]; rfl
    have e120 : ((120 : UInt8) == b) = decide (b.toNat = 120) := by
      rw [pp, beq_iff_eq, decide_eq_true_eq, eq_comm, ← UInt8.toNat_inj]; rfl
    have e88 : ((88 : UInt8) == b) = decide (b.toNat = 88) := by
      rw [pp, beq_iff_eq, decide_eq_true_eq, eq_comm, ← UInt8.toNat_inj]; rfl
    have fs' := fs
    refine qn rfl rfl (by kernel_rfl) rfl ?_
    try dsimp +instances only [go_sem, qe, qb, qd, qc, qa]
    try simp only [bb, qb, qf, qi, qh, qc, qg, qa]
    repeat (dsimp +instances only [go_sem, qe, qb, qd, qc, qa]; try simp only [bb, qb, qf, qi, qh, qc, qg, qa])
    try simp only [nn, reduceCtorEq]
    simp only [po, p1, e48, e120, e88]
    try simp only [nn, reduceCtorEq]
    (repeat' (first | refine And.intro ?_ ?_ | intro _)) <;> try first | omega | trivial
    · rename_i q
      have q1 : a.toNat = 48 ∧ (b.toNat = 120 ∨ b.toNat = 88) := by omega
      have hP : vu (a :: b :: r) = digs 16 0 (r) := by simp only [vu]; rw [if_pos q1]
      have hL : labN (a :: b :: r) = if 0 ≤ digs 16 0 (r) then (digs 16 0 (r), true) else (0, false) := by rw [labN, hP]
      rw [hL]
      clear hL hP
      have hft : Fit ((r) : Str).length := by simp only [qt, qx, Fit] at *; omega
      obtain ⟨t, rfl⟩ : ∃ t, t = r := ⟨_, rfl⟩
      refine qz [0, 4, 5, 32, 33] (fun (x : Nat × Int) => x.1 ≤ t.length ∧ 0 ≤ x.2 ∧ x.2 ≤ 137438953472 ∧ digs 16 x.2 (t.drop x.1) = digs 16 0 t) (fun x => [.cv (.str t), .cv (.int .i64 16), .cv (.int .i64 x.2), .cv (.int .i64 ((t.length : Nat) : Int)), .cv (.int .i64 x.1)]) (fun _ => []) (fun x => t.length - x.1) (0, 0) (by simp) ⟨rfl, rfl⟩ ?_
      rintro ⟨i, n⟩ ⟨hi, h0, h1, he⟩
      simp only at hi h0 h1 he
      rcases qm i t.length with hlt | hge
      · have hx := uu t[i]
        have hlt2 : i < t.length := by omega
        rw [qo hlt, digs] at he
        repeat (dsimp +instances only [go_sem, qe, qb, qd, qc, qa]; try simp only [bb, qb, qf, qi, qh, qc, qg, qa])
        try simp only [nn, reduceCtorEq, hlt2, hlt, decide_true]
        by_cases hc : hexv t[i] < 0 ∨ 16 ≤ hexv t[i] ∨ 4294967295 < n
        · rw [if_pos hc] at he
          rw [← he]
          (repeat' (first | refine And.intro ?_ ?_ | intro _)) <;> try first | omega | trivial
          all_goals try grind
        · rw [if_neg hc] at he
          have hm : 16 * n = n * 16 := Int.mul_comm _ _
          (repeat' (first | refine And.intro ?_ ?_ | intro _)) <;> try first | omega | trivial
          all_goals first
          | (refine ql (i + 1, n * 16 + hexv t[i]) ⟨by simp only; omega, by simp only; omega, by simp only; omega, he⟩ (by simp only; omega) ?_ rfl
             rw [hm]; rfl)
          | grind
      · rw [qv hge, digs] at he
        have hlt2 : ¬ i < t.length := by omega
        rw [← he, if_pos h0]
        repeat (dsimp +instances only [go_sem, qe, qb, qd, qc, qa]; try simp only [bb, qb, qf, qi, qh, qc, qg, qa])
        try simp only [nn, reduceCtorEq, hlt2, decide_false]
        all_goals ((repeat' (first | refine And.intro ?_ ?_ | intro _)) <;> try first | omega | trivial)
    · rename_i q0 q
      have q1 : a.toNat = 48 ∧ ¬ (a.toNat = 48 ∧ (b.toNat = 120 ∨ b.toNat = 88)) := by omega
      have hP : vu (a :: b :: r) = digs 8 0 (b :: r) := by simp only [vu]; rw [if_neg q1.2, if_pos q1.1]
      have hL : labN (a :: b :: r) = if 0 ≤ digs 8 0 (b :: r) then (digs 8 0 (b :: r), true) else (0, false) := by rw [labN, hP]
      rw [hL]
      clear hL hP
      have hl : ((b :: r) : Str).length = r.length + 1 := rfl
      have hft : Fit ((b :: r) : Str).length := by simp only [qt, qx, Fit] at *; omega
      generalize ((b :: r) : Str) = t at hl hft
      refine qz [0, 4, 5, 32, 33] (fun (x : Nat × Int) => x.1 ≤ t.length ∧ 0 ≤ x.2 ∧ x.2 ≤ 137438953472 ∧ digs 8 x.2 (t.drop x.1) = digs 8 0 t) (fun x => [.cv (.str t), .cv (.int .i64 8), .cv (.int .i64 x.2), .cv (.int .i64 ((r.length + 1 : Nat) : Int)), .cv (.int .i64 x.1)]) (fun _ => []) (fun x => t.length - x.1) (0, 0) (by simp) ⟨rfl, rfl⟩ ?_
      rintro ⟨i, n⟩ ⟨hi, h0, h1, he⟩
      simp only at hi h0 h1 he
      rcases qm i t.length with hlt | hge
      · have hx := uu t[i]
        have hlt2 : i < r.length + 1 := by omega
        rw [qo hlt, digs] at he
        repeat (dsimp +instances only [go_sem, qe, qb, qd, qc, qa]; try simp only [bb, qb, qf, qi, qh, qc, qg, qa])
        try simp only [nn, reduceCtorEq, hlt2, hlt, decide_true]
        by_cases hc : hexv t[i] < 0 ∨ 8 ≤ hexv t[i] ∨ 4294967295 < n
        · rw [if_pos hc] at he
          rw [← he]
          (repeat' (first | refine And.intro ?_ ?_ | intro _)) <;> try first | omega | trivial
          all_goals try grind
        · rw [if_neg hc] at he
          have hm : 8 * n = n * 8 := Int.mul_comm _ _
          (repeat' (first | refine And.intro ?_ ?_ | intro _)) <;> try first | omega | trivial
          all_goals first
          | (refine ql (i + 1, n * 8 + hexv t[i]) ⟨by simp only; omega, by simp only; omega, by simp only; omega, he⟩ (by simp only; omega) ?_ rfl
             rw [hm]; rfl)
          | grind
      · rw [qv hge, digs] at he
        have hlt2 : ¬ i < r.length + 1 := by omega
        rw [← he, if_pos h0]
        repeat (dsimp +instances only [go_sem, qe, qb, qd, qc, qa]; try simp only [bb, qb, qf, qi, qh, qc, qg, qa])
        try simp only [nn, reduceCtorEq, hlt2, decide_false]
        all_goals ((repeat' (first | refine And.intro ?_ ?_ | intro _)) <;> try first | omega | trivial)
    · rename_i q0 q
      have q1 : ¬ a.toNat = 48 := by omega
      have hP : vu (a :: b :: r) = digs 10 0 (a :: b :: r) := by simp only [vu]; rw [if_neg (fun h => q1 h.1), if_neg q1]
      have hL : labN (a :: b :: r) = if 0 ≤ digs 10 0 (a :: b :: r) then (digs 10 0 (a :: b :: r), true) else (0, false) := by rw [labN, hP]
      rw [hL]
      clear hL hP
      have hl : ((a :: b :: r) : Str).length = r.length + 1 + 1 := rfl
      have hft : Fit ((a :: b :: r) : Str).length := by simp only [qt, qx, Fit] at *; omega
      generalize ((a :: b :: r) : Str) = t at hl hft
      refine qz [0, 4, 5, 32, 33] (fun (x : Nat × Int) => x.1 ≤ t.length ∧ 0 ≤ x.2 ∧ x.2 ≤ 137438953472 ∧ digs 10 x.2 (t.drop x.1) = digs 10 0 t) (fun x => [.cv (.str t), .cv (.int .i64 10), .cv (.int .i64 x.2), .cv (.int .i64 ((r.length + 1 + 1 : Nat) : Int)), .cv (.int .i64 x.1)]) (fun _ => []) (fun x => t.length - x.1) (0, 0) (by simp) ⟨rfl, rfl⟩ ?_
      rintro ⟨i, n⟩ ⟨hi, h0, h1, he⟩
      simp only at hi h0 h1 he
      rcases qm i t.length with hlt | hge
      · have hx := uu t[i]
        have hlt2 : i < r.length + 1 + 1 := by omega
        rw [qo hlt, digs] at he
        repeat (dsimp +instances only [go_sem, qe, qb, qd, qc, qa]; try simp only [bb, qb, qf, qi, qh, qc, qg, qa])
        try simp only [nn, reduceCtorEq, hlt2, hlt, decide_true]
        by_cases hc : hexv t[i] < 0 ∨ 10 ≤ hexv t[i] ∨ 4294967295 < n
        · rw [if_pos hc] at he
          rw [← he]
          (repeat' (first | refine And.intro ?_ ?_ | intro _)) <;> try first | omega | trivial
          all_goals try grind
        · rw [if_neg hc] at he
          have hm : 10 * n = n * 10 := Int.mul_comm _ _
          (repeat' (first | refine And.intro ?_ ?_ | intro _)) <;> try first | omega | trivial
          all_goals first
          | (refine ql (i + 1, n * 10 + hexv t[i]) ⟨by simp only; omega, by simp only; omega, by simp only; omega, he⟩ (by simp only; omega) ?_ rfl
             rw [hm]; rfl)
          | grind
      · rw [qv hge, digs] at he
        have hlt2 : ¬ i < r.length + 1 + 1 := by omega
        rw [← he, if_pos h0]
        repeat (dsimp +instances only [go_sem, qe, qb, qd, qc, qa]; try simp only [bb, qb, qf, qi, qh, qc, qg, qa])
        try simp only [nn, reduceCtorEq, hlt2, decide_false]
        all_goals ((repeat' (first | refine And.intro ?_ ?_ | intro _)) <;> try first | omega | trivial)
theorem labN_rng (s : Str) : 0 ≤ (labN s).1 ∧ (labN s).1 ≤ 137438953472 := by
  have := partN_rng s
  unfold labN; split <;> simp <;> omega
theorem pre_iff (L : Str) : (po [48, 120] L = true ∨ po [48, 88] L = true) ↔ 2 ≤ L.length ∧ (L.getD 0 0).toNat = 48 ∧ ((L.getD 1 0).toNat = 120 ∨ (L.getD 1 0).toNat = 88) := by
  rcases L with _ | ⟨a, _ | ⟨b, r⟩⟩
  · simp
  · simp
  · have e : ∀ (k : Nat) (c : UInt8), k < 256 → (UInt8.ofNat k = c ↔ c.toNat = k) := fun k c hk => by
      rw [← UInt8.toNat_inj, UInt8.toNat_ofNat', Nat.mod_eq_of_lt hk, eq_comm]
    have e48 := e 48 a (by omega)
    have e120 := e 120 b (by omega)
    have e88 := e 88 b (by omega)
    simp only [po, p1, qr, beq_iff_eq, List.getD_cons_zero, List.getD_cons_succ, qt]
    rw [show (48 : UInt8) = UInt8.ofNat 48 from rfl, show (120 : UInt8) = UInt8.ofNat 120 from rfl, show (88 : UInt8) = UInt8.ofNat 88 from rfl, e48, e120, e88]
    omega
theorem ends_pre {text : Str} (h : po [48, 120] ((j1 text).getLast?.getD []) = true ∨ po [48, 88] ((j1 text).getLast?.getD []) = true) : (labN ((j1 text).getLast?.getD [])).2 = ew text := by
  unfold ew
  simp only
  generalize (j1 text).getLast?.getD [] = L at *
  have h := (pre_iff L).1 h
  have hne : L ≠ [] := by intro e; subst e; simp at h
  have hnd : ¬ ∀ c ∈ L, 48 ≤ c.toNat ∧ c.toNat ≤ 57 := fun hd => by
    have h1 : L.getD 1 0 ∈ L := by rw [xj (by omega)]; exact z8 _
    have := hd _ h1
    omega
  unfold labN
  split
  · rename_i hp
    rw [eq_comm, decide_eq_true_eq]
    exact ⟨hne, .inr ⟨h.1, h.2.1, h.2.2, hp⟩⟩
  · rename_i hp
    rw [eq_comm, decide_eq_false_iff_not]
    rintro ⟨_, h2 | h2⟩
    · exact hnd h2
    · exact hp h2.2.2.2
theorem ends_dig {text : Str} (h1 : (j1 text).getLast?.getD [] ≠ []) (h : ¬ (po [48, 120] ((j1 text).getLast?.getD []) = true ∨ po [48, 88] ((j1 text).getLast?.getD []) = true)) :
    ew text = ((j1 text).getLast?.getD []).all fun c => decide (48 ≤ c.toNat ∧ c.toNat ≤ 57) := by
  unfold ew
  simp only
  generalize (j1 text).getLast?.getD [] = L at *
  rw [pre_iff] at h
  rw [pp, decide_eq_true_eq, zk]
  simp only [decide_eq_true_eq]
  constructor
  · rintro ⟨_, h2 | h2⟩
    · exact h2
    · exact absurd ⟨h2.1, h2.2.1, h2.2.2.1⟩ h
  · exact fun h2 => ⟨h1, .inl h2⟩
def E117 : Env := { T := Tz.tab, G := Gl, C := [(143, ct143), (140, ct140), (144, ct144), (141, ct141)], live := [(0, [0]), (1, [3]), (2, [4]), (3, [4, 17]), (4, [2]), (5, [4, 23]), (6, [6]), (7, [2]), (8, [4, 31, 32]), (9, [4, 31, 32, 33]), (10, [4, 7, 31, 32]), (11, [4, 31, 32, 39]), (12, [2]), (13, [4, 31, 32]), (14, [2])] }
def ct117 : Ct := .scal (dom1 tStr (fun text => text.length ≤ 1073741823)) (fn1 tStr fun text => [xa.enc (ew text)])
attribute [go_sem] E117 ct117 Go.Proofs.Tryz.f117
set_option maxHeartbeats 1000000 in
theorem ok117 : CtOk Tryz.prog Gl 117 ct117 := okA1 (E := E117) (qq Tz.tab_ok Tz.mixed (qj.cons ok143 (qj.cons ok140 (qj.cons ok144 (qj.cons ok141 qj.nil))))) rfl Tryz.func117 (by kernel_rfl) fun text ftext hp => by
  have ftext := zt ftext
  refine qn rfl rfl (by kernel_rfl) rfl ?_
  have hne := partsH_ne text
  have hg := n5 hne
  have hpl : (j1 text).length ≤ text.length + 1 := by
    have := kq 46 text []
    unfold j1 splitB; split
    · simp; omega
    · exact this
  have hlen' : 0 < (j1 text).length := zo.2 hne
  repeat (dsimp +instances only [go_sem, qe, qb, qd, qc, qa]; try simp only [bb, qb, qf, qi, qh, qc, qg, qa])
  simp only [hg]
  repeat (dsimp +instances only [go_sem, qe, qb, qd, qc, qa]; try simp only [bb, qb, qf, qi, qh, qc, qg, qa])
  try simp only [nn, reduceCtorEq]
  (repeat' (first | refine And.intro ?_ ?_ | intro _)) <;> try first | omega | trivial
  · rename_i h
    simp [ew, h]
  · rename_i h1 h
    exact ends_pre h
  · rename_i h1 h
    rw [ends_dig h1 (by simp [h.1, h.2])]
    have hLl : Fit ((j1 text).getLast?.getD []).length := by
      have h1 := bx 46 text []
      cases hq : (j1 text).getLast? with
      | none => simp
      | some x =>
        have hm : x ∈ j1 text := List.mem_of_getLast? hq
        have hm2 : x ∈ splitB 46 text := by
          unfold j1 at hm; split at hm
          · exact List.dropLast_subset _ hm
          · exact hm
        have := h1 x hm2
        simp at this ⊢; omega
    generalize (j1 text).getLast?.getD [] = L at hLl
    refine qz [4, 31, 32] (fun (i : Nat) => i ≤ L.length ∧ (L.drop i).all (fun c => decide (48 ≤ c.toNat ∧ c.toNat ≤ 57)) = L.all fun c => decide (48 ≤ c.toNat ∧ c.toNat ≤ 57)) (fun i => [.cv (.str L), .cv (.int .i64 L.length), .cv (.int .i64 i)]) (fun _ => []) (fun i => L.length - i) 0 (by simp) ⟨rfl, rfl⟩ ?_
    rintro i ⟨hi, he⟩
    rcases qm i L.length with hlt | hge
    · rw [qo hlt, lm] at he
      repeat (dsimp +instances only [go_sem, qe, qb, qd, qc, qa]; try simp only [bb, qb, qf, qi, qh, qc, qg, qa])
      try simp only [nn, reduceCtorEq, hlt, decide_true]
      by_cases hc : 48 ≤ L[i].toNat ∧ L[i].toNat ≤ 57
      · simp only [hc, and_self, decide_true, xf] at he
        (repeat' (first | refine And.intro ?_ ?_ | intro _)) <;> try first | omega | trivial
        all_goals first
        | exact ql (i + 1) ⟨by omega, he⟩ (by omega) rfl rfl
        | omega
      · simp only [hc, decide_false, kd] at he
        rw [← he]
        (repeat' (first | refine And.intro ?_ ?_ | intro _)) <;> try first | omega | trivial
    · rw [qv hge, List.all_nil] at he
      rw [← he]
      repeat (dsimp +instances only [go_sem, qe, qb, qd, qc, qa]; try simp only [bb, qb, qf, qi, qh, qc, qg, qa])
      try simp only [nn, reduceCtorEq, xd.2 hge, decide_false]
      all_goals ((repeat' (first | refine And.intro ?_ ?_ | intro _)) <;> try first | omega | trivial)
end Go.Gx
end
section
namespace Go.Gx
open Go.Proofs
theorem nameL_iff (n : Nat) : ∀ (l : List Str) (j : Nat), nd j n l = true ↔ ∀ (i : Nat) (x : Str), l[i]? = some x → (x ≠ [] ∨ (j + i + 1 = n ∧ j + i ≠ 0)) ∧ x.all labB = true
  | [], j => by simp [nd]
  | y :: l, j => by
    have ih := nameL_iff n l (j + 1)
    simp only [nd, qr, decide_eq_true_eq, ih]
    constructor
    · rintro ⟨⟨h1, h2⟩, h3⟩ i x hx
      cases i with
      | zero => simp at hx; subst hx; exact ⟨by simpa using h1, h2⟩
      | succ i =>
        have := h3 i x (by simpa using hx)
        refine ⟨?_, this.2⟩
        rcases this.1 with h | h
        · exact .inl h
        · exact .inr ⟨by omega, by omega⟩
    · intro h
      have h0 := h 0 y rfl
      refine ⟨⟨by simpa using h0.1, h0.2⟩, fun i x hx => ?_⟩
      have := h (i + 1) x (by simpa using hx)
      refine ⟨?_, this.2⟩
      rcases this.1 with h | h
      · exact .inl h
      · exact .inr ⟨by omega, by omega⟩
theorem split_all (b : UInt8) (p : UInt8 → Prop) : ∀ (s cur : Str), (∀ x ∈ vf b cur s, ∀ c ∈ x, p c) ↔ (∀ c ∈ cur, p c) ∧ ∀ c ∈ s, c = b ∨ p c
  | [], cur => by simp [vf]
  | c :: r, cur => by
    have i1 := split_all b p r []
    have i2 := split_all b p r (cur ++ [c])
    rw [vf]
    split
    · rename_i h
      subst h
      simp only [zp, forall_eq_or_imp, i1, true_or, true_and]
      simp
    · rename_i h
      rw [i2]
      simp only [ja, zp, List.not_mem_nil, or_false, forall_eq_or_imp, h, false_or]
      constructor
      · rintro ⟨h1, h2⟩; exact ⟨fun d hd => h1 d (.inl hd), h1 c (.inr rfl), h2⟩
      · rintro ⟨h1, h2, h3⟩; exact ⟨fun d hd => hd.elim (h1 d) fun e => e ▸ h2, h3⟩
theorem parts_empty (s : Str) : ([] ∉ j1 s) ↔ ∀ (i : Nat) (x : Str), (splitB 46 s)[i]? = some x → x ≠ [] ∨ (i + 1 = (splitB 46 s).length ∧ i ≠ 0) := by
  have hne : splitB 46 s ≠ [] := eb _ _ _
  unfold j1
  generalize splitB 46 s = l at *
  obtain ⟨a, z, rfl⟩ : ∃ a z, l = a ++ [z] := by
    rcases List.eq_nil_or_concat l with h | ⟨a, z, h⟩
    · exact absurd h hne
    · exact ⟨a, z, by simpa using h⟩
  have key : (∀ (i : Nat) (x : Str), (a ++ [z])[i]? = some x → x ≠ [] ∨ (i + 1 = (a ++ [z]).length ∧ i ≠ 0)) ↔ [] ∉ a ∧ (z = [] → a ≠ []) := by
    constructor
    · intro h
      constructor
      · intro hm
        obtain ⟨i, hi⟩ := List.getElem?_of_mem hm
        have hl : i < a.length := (List.getElem?_eq_some_iff.1 hi).1
        have := h i [] (by rw [List.getElem?_append_left hl]; exact hi)
        simp at this; omega
      · rintro rfl ha
        subst ha
        have := h 0 [] rfl
        simp at this
    · rintro ⟨h1, h2⟩ i x hx
      rcases qm i a.length with hi | hi
      · rw [List.getElem?_append_left hi] at hx
        exact .inl fun e => h1 (e ▸ List.mem_of_getElem? hx)
      · rw [List.getElem?_append_right hi] at hx
        have hi0 : i - a.length = 0 := by
          rcases wz (i - a.length) with h | h
          · exact h
          · rw [List.getElem?_eq_none (by simp; omega)] at hx; cases hx
        rw [hi0] at hx
        simp at hx
        by_cases hz : z = []
        · right
          have := h2 hz
          have := zo.2 this
          simp; omega
        · left; rw [← hx]; exact hz
  rw [key]
  simp only [qu, kf, List.getLast?_append, List.getLast?_singleton, Option.some_or, Option.some.injEq, List.dropLast_concat]
  by_cases hc : 1 < a.length + 1 ∧ z = []
  · rw [if_pos hc]
    have : a ≠ [] := zo.1 (by omega)
    simp [hc.2, this]
  · rw [if_neg hc]
    simp only [ja, j2, not_or]
    constructor
    · rintro ⟨h1, h2⟩; exact ⟨h1, fun e => absurd e.symm h2⟩
    · rintro ⟨h1, h2⟩
      refine ⟨h1, fun e => ?_⟩
      have := zo.2 (h2 e.symm)
      exact hc ⟨by omega, e.symm⟩
def signB (c : UInt8) : Bool := labB c || decide (c.toNat = 46)
theorem nameN_eq (s : Str) : nc s = (s.all signB && (decide (1 ≤ s.length ∧ s.length ≤ 60) && !decide ([] ∈ j1 s))) := by
  have h1 := nameL_iff (splitB 46 s).length (splitB 46 s) 0
  have h2 := parts_empty s
  have h3 := split_all 46 (fun c => labB c = true) s []
  rw [pp]
  unfold nc
  simp only [qr, h1, zk, Bool.not_eq_true', decide_eq_false_iff_not, h2, decide_eq_true_eq, j8]
  have hc : ∀ c : UInt8, signB c = true ↔ c = 46 ∨ labB c = true := fun c => by
    simp only [signB, y4, decide_eq_true_eq, ← UInt8.toNat_inj]
    rw [or_comm]; rfl
  simp only [hc]
  have h3 : (∀ x ∈ splitB 46 s, ∀ c ∈ x, labB c = true) ↔ ∀ c ∈ s, c = 46 ∨ labB c = true := by simpa [splitB] using h3
  rw [← h3]
  constructor
  · rintro ⟨h, hl⟩
    refine ⟨fun x hx c hcx => ?_, hl, fun i x hx => (h i x hx).1⟩
    obtain ⟨i, hi⟩ := List.getElem?_of_mem hx
    exact (h i x hi).2 c hcx
  · rintro ⟨h, hl, h4⟩
    exact ⟨fun i x hx => ⟨h4 i x hx, fun c hcx => h x (List.mem_of_getElem? hx) c hcx⟩, hl⟩
def E116 : Env := { T := Tz.tab, G := Gl, C := [(141, ct141), (23, ct23), (143, ct143), (142, ct142)], live := [(0, [0]), (1, [0, 6, 7]), (2, [0, 6, 7, 8]), (3, [0, 3, 6, 7]), (4, [0, 4, 6, 7]), (5, [0, 6, 7, 35]), (6, [2]), (7, [0, 6, 7]), (8, [2])] }
def ct116 : Ct := .scal (dom1 tStr (fun text => text.length ≤ 1073741823)) (fn1 tStr fun text => [xa.enc (nc text)])
attribute [go_sem] E116 ct116 Go.Proofs.Tryz.f116
set_option maxHeartbeats 1000000 in
theorem ok116 : CtOk Tryz.prog Gl 116 ct116 := okA1 (E := E116) (qq Tz.tab_ok Tz.mixed (qj.cons ok141 (qj.cons ok23 (qj.cons ok143 (qj.cons ok142 qj.nil))))) rfl Tryz.func116 (by kernel_rfl) fun text ftext hp => by
  have ftext := zt ftext
  refine qn rfl rfl (by kernel_rfl) rfl ?_
  rw [nameN_eq]
  repeat (dsimp +instances only [go_sem, qe, qb, qd, qc, qa]; try simp only [bb, qb, qf, qi, qh, qc, qg, qa])
  refine qz [0, 6, 7] (fun (i : Nat) => i ≤ text.length ∧ (text.drop i).all signB = text.all signB) (fun i => [.cv (.str text), .cv (.int .i64 text.length), .cv (.int .i64 i)]) (fun _ => []) (fun i => text.length - i) 0 (by simp) ⟨rfl, rfl⟩ ?_
  rintro i ⟨hi, he⟩
  rcases qm i text.length with hlt | hge
  · rw [qo hlt, lm] at he
    repeat (dsimp +instances only [go_sem, qe, qb, qd, qc, qa]; try simp only [bb, qb, qf, qi, qh, qc, qg, qa])
    try simp only [nn, reduceCtorEq, hlt, decide_true]
    cases hs : signB text[i] with
    | true =>
      rw [hs, xf] at he
      have hs : ((97 ≤ text[i].toNat ∧ text[i].toNat ≤ 122) ∨ (48 ≤ text[i].toNat ∧ text[i].toNat ≤ 57) ∨ text[i].toNat = 45 ∨ text[i].toNat = 95) ∨ text[i].toNat = 46 := by simpa [signB, labB] using hs
      (repeat' (first | refine And.intro ?_ ?_ | intro _)) <;> try first | omega | trivial
      exact ql (i + 1) ⟨by omega, he⟩ (by omega) rfl rfl
    | false =>
      rw [hs, kd] at he
      have hs : ¬ (((97 ≤ text[i].toNat ∧ text[i].toNat ≤ 122) ∨ (48 ≤ text[i].toNat ∧ text[i].toNat ≤ 57) ∨ text[i].toNat = 45 ∨ text[i].toNat = 95) ∨ text[i].toNat = 46) := fun h => by
        have : signB text[i] = true := by simpa [signB, labB] using h
        rw [this] at hs; cases hs
      rw [← he, kd]
      (repeat' (first | refine And.intro ?_ ?_ | intro _)) <;> try first | omega | trivial
  · rw [qv hge, List.all_nil] at he
    rw [← he]
    repeat (dsimp +instances only [go_sem, qe, qb, qd, qc, qa]; try simp only [bb, qb, qf, qi, qh, qc, qg, qa])
    try simp only [nn, reduceCtorEq, xd.2 hge, decide_false]
    have e : decide ((1 : Int) ≤ (text.length : Int) ∧ (text.length : Int) ≤ 60) = decide (1 ≤ text.length ∧ text.length ≤ 60) := decide_eq_decide.2 (by omega)
    refine ⟨fun h => ⟨hp, by rw [e]⟩, fun h => ⟨fun h' => absurd h' h, ?_⟩⟩
    rw [e, decide_eq_false (by omega)]; rfl
def E173 : Env := { T := Tz.tab, G := Gl, C := [(116, ct116), (117, ct117), (23, ct23)], live := [(0, [1]), (1, [1, 4]), (2, [1, 4, 5]), (3, [2]), (4, [1, 4, 10]), (5, [2]), (6, [1, 26]), (7, [2]), (8, [2])] }
def ct173 : Ct := .scal (dom1 y0 (fun h => h.Name.length ≤ 1073741823)) (fn1 y0 fun h => [xa.enc (cm h)])
attribute [go_sem] E173 ct173 Go.Proofs.Tryz.f173
theorem ok173 : CtOk Tryz.prog Gl 173 ct173 := okA1 (E := E173) (qq Tz.tab_ok Tz.mixed (qj.cons ok116 (qj.cons ok117 (qj.cons ok23 qj.nil)))) rfl Tryz.func173 (by kernel_rfl) fun h fh hp => by
  have gh := fh
  have fh := py fh
  refine qn rfl rfl (by kernel_rfl) rfl ?_
  repeat (dsimp +instances only [go_sem, qe, qb, qd, qc, qa]; try simp only [bb, qb, qf, qi, qh, qc, qg, qa])
  try simp only [nn, reduceCtorEq]
  (repeat' (first | refine And.intro ?_ ?_ | intro _)) <;> try first | omega | trivial
  all_goals first
  | rfl
  | (rw [pp]; unfold cm; clear fh gh; rename_i a; simp only [qr, decide_eq_true_eq, p1, Bool.not_eq_true']; grind)
  | (unfold cm; clear fh gh; grind)
theorem pw_last {i n : Nat} (h : i + 1 = n) (h4 : n ≤ 4) : (1 : Int) * 2 ^ (8 * (5 - (n : Int))).toNat = ye i + 1 := by
  subst h
  have : i = 0 ∨ i = 1 ∨ i = 2 ∨ i = 3 := by omega
  rcases this with rfl | rfl | rfl | rfl <;> rfl
theorem pw_mid {i : Nat} (h4 : i ≤ 3) : (2 : Int) ^ (8 * (3 - (i : Int))).toNat = 256 ^ (3 - i) ∧ (256 : Int) ^ (4 - i) = 256 * 256 ^ (3 - i) ∧ (256 : Int) ^ (4 - i) = ye i + 1 ∧ 1 ≤ (256 : Int) ^ (3 - i) ∧ (256 : Int) ^ (3 - i) ≤ 16777216 := by
  have : i = 0 ∨ i = 1 ∨ i = 2 ∨ i = 3 := by omega
  rcases this with rfl | rfl | rfl | rfl <;> refine ⟨rfl, rfl, rfl, ?_, ?_⟩ <;> decide
def adr (i n : Nat) (out : Int) : Int := if i < n then out * 256 ^ (4 - i) else out
def E137 : Env := { T := Tz.tab, G := Gl, C := [(143, ct143), (144, ct144)], live := [(0, [0]), (1, [0, 4]), (2, [4, 20]), (3, [2, 3]), (4, [4, 5]), (5, [4, 5, 21, 22, 23]), (6, [4, 5, 21, 22, 23, 24]), (7, [4, 5, 6, 7, 21, 22, 23]), (8, [4, 5, 6, 8, 9, 21, 22, 23]), (9, [4, 5, 6, 8, 9, 10, 21, 22, 23]), (10, [4, 5, 6, 8, 9, 10, 21, 22, 23, 37]), (11, [4, 5, 6, 8, 9, 10, 21, 22, 23]), (12, [4, 5, 6, 8, 21, 22, 23, 50]), (13, [2, 3]), (14, [4, 5, 6, 8, 21, 22, 23, 55]), (15, [4, 5, 8, 21, 22, 23]), (16, [4, 5, 21, 22, 23]), (17, [4, 5, 21, 22, 23]), (18, [2, 3])] }
def ct137 : Ct := .scal (dom1 tStr (fun text => text.length ≤ 1073741823)) (fn1 tStr fun text => [tInt.enc (wu text).1, xa.enc (wu text).2])
attribute [go_sem] E137 ct137 Go.Proofs.Tryz.f137
set_option maxHeartbeats 1000000 in
theorem ok137 : CtOk Tryz.prog Gl 137 ct137 := okA1 (E := E137) (qq Tz.tab_ok Tz.mixed (qj.cons ok143 (qj.cons ok144 qj.nil))) rfl Tryz.func137 (by kernel_rfl) fun text ftext hp => by
  have ftext := zt ftext
  refine qn rfl rfl (by kernel_rfl) rfl ?_
  have hpl : (j1 text).length ≤ text.length + 1 := by
    have := kq 46 text []
    unfold j1 splitB; split
    · simp; omega
    · exact this
  have hpne := partsH_ne text
  repeat (dsimp +instances only [go_sem, qe, qb, qd, qc, qa]; try simp only [bb, qb, qf, qi, qh, qc, qg, qa])
  try simp only [nn, reduceCtorEq]
  (repeat' (first | refine And.intro ?_ ?_ | intro _)) <;> try first | omega | trivial
  · rename_i h
    simp only [wu]; rw [if_pos (by omega)]
  · rename_i h
    simp only [wu]; rw [if_pos (by omega)]
  · rename_i h
    have h4 : (j1 text).length ≤ 4 ∧ text.length ≤ 200 := by omega
    have hF : wu text = d9 0 0 (j1 text) := by simp only [wu]; rw [if_neg (by omega)]
    rw [hF]
    generalize j1 text = parts at *
    have hp0 : 0 < parts.length := zo.2 hpne
    refine qz [4, 5, 21, 22, 23] (fun (x : Nat × Int) => x.1 ≤ parts.length ∧ 0 ≤ x.2 ∧ (x.1 < parts.length → x.2 ≤ topF x.1) ∧ x.2 ≤ 4294967295 ∧ d9 x.2 x.1 (parts.drop x.1) = d9 0 0 parts) (fun x => [.pth 0 1 0 parts.length, .cv (.int .i64 (adr x.1 parts.length x.2)), .pth 0 1 0 parts.length, .cv (.int .i64 parts.length), .cv (.int .i64 x.1)]) (fun _ => [.row 1 (parts.map rStr.enc) []]) (fun x => parts.length - x.1) (0, 0) (by simp [topF]) ⟨by simp [adr]; rfl, rfl⟩ ?_
    rintro ⟨i, out⟩ ⟨hi, ho, ho2, ho3, he⟩
    simp only at hi ho ho2 ho3 he
    rcases qm i parts.length with hlt | hge
    · have hg := zf rStr hlt
      have hd : parts.drop i = parts[i] :: parts.drop (i + 1) := qo hlt
      have hrg := partN_rng parts[i]
      have hlb := labN_rng parts[i]
      rw [hd] at he
      simp only [d9] at he
      try dsimp +instances only [go_sem, qe, qb, qd, qc, qa]
      repeat (simp only [hg, ji, qp, bb, qb, qf, qi, qh, qc, qg, qa]; try dsimp +instances only [go_sem, qe, qb, qd, qc, qa])
      try simp only [nn, reduceCtorEq, hlt, decide_true]
      have hm1 : 255 ≤ ye i ∧ ye i ≤ 4294967295 := by
        have : i = 0 ∨ i = 1 ∨ i = 2 ∨ i = 3 := by omega
        rcases this with rfl | rfl | rfl | rfl <;> exact ⟨by decide, by decide⟩
      have ho2 := ho2 hlt
      have hadr : adr i parts.length out = out * 256 ^ (4 - i) := by unfold adr; rw [if_pos hlt]
      obtain ⟨w1, w2, w3, w4, w5⟩ := pw_mid (i := i) (by omega)
      by_cases hc0 : 0 ≤ vu parts[i]
      · have hl1 : labN parts[i] = (vu parts[i], true) := if_pos hc0
        simp only [hl1, y5, zm, false_or, true_and]
        generalize vu parts[i] = p at *
        by_cases hlast : i + 1 = parts.length
        · have hnil : parts.drop (i + 1) = [] := qv (by omega)
          have hpw := pw_last hlast (by omega)
          simp only [hnil, if_true] at he
          rw [hpw, hadr, w3]
          have hi1 : (i : Int) = (parts.length : Int) - 1 := by omega
          have hp2 : 0 ≤ out * (ye i + 1) ∧ out * (ye i + 1) ≤ 16777215 * 4294967296 := by
            have ht : topF i ≤ 16777215 := by unfold topF; grind
            exact ⟨Int.mul_nonneg ho (by omega), Int.mul_le_mul (by omega) (by omega) (by omega) (by omega)⟩
          have hp3 : out * (ye i + 1) ≤ 4294967295 - ye i := by
            have : i = 0 ∨ i = 1 ∨ i = 2 ∨ i = 3 := by omega
            clear he hg hd hadr w1 w2 w3 w4 w5
            rcases this with rfl | rfl | rfl | rfl
            · have : ye 0 = 4294967295 := rfl
              have : topF 0 = 0 := rfl
              have : out = 0 := by omega
              subst this; omega
            · have e1 : ye 1 = 16777215 := rfl
              have : topF 1 = 255 := rfl
              rw [e1]; omega
            · have e1 : ye 2 = 65535 := rfl
              have : topF 2 = 65535 := rfl
              rw [e1]; omega
            · have e1 : ye 3 = 255 := rfl
              have : topF 3 = 16777215 := rfl
              rw [e1]; omega
          by_cases hc : ye i < p
          · rw [if_pos (.inr hc)] at he
            rw [← he]
            (repeat' (first | refine And.intro ?_ ?_ | intro _)) <;> try first | omega | trivial
          · rw [if_neg (by omega)] at he
            have hfl : d9 (out * (ye i + 1) + p) (i + 1) [] = d9 (out * (ye i + 1) + p) (i + 1) (parts.drop (i + 1)) := by rw [hnil]
            rw [hfl] at he
            have hadr2 : adr (i + 1) parts.length (out * (ye i + 1) + p) = out * (ye i + 1) + p := by unfold adr; rw [if_neg (by omega)]
            (repeat' (first | refine And.intro ?_ ?_ | intro _)) <;> try first | omega | trivial
            all_goals exact ql (i + 1, out * (ye i + 1) + p) ⟨by simp only; omega, by simp only; omega, fun h => absurd h (by simp only; omega), by simp only; omega, he⟩ (by simp only; omega) (by simp only [hadr2]; rfl) rfl
        · have hnn : ¬ parts.drop (i + 1) = [] := fun e => by have := congrArg xb e; simp at this; omega
          simp only [hnn, if_false] at he
          rw [hadr, w1, w2]
          generalize hq0 : (256 : Int) ^ (3 - i) = q at *
          have ht2 : topF i * 256 + 255 ≤ topF (i + 1) ∧ topF (i + 1) ≤ 16777215 := by
            have : i = 0 ∨ i = 1 ∨ i = 2 := by omega
            rcases this with rfl | rfl | rfl <;> exact ⟨by decide, by decide⟩
          have hq1 : 0 ≤ p * q := Int.mul_nonneg hc0 (by omega)
          have hq2 : 0 ≤ out * (256 * q) ∧ out * (256 * q) ≤ 16777215 * 4294967296 := ⟨Int.mul_nonneg ho (by omega), Int.mul_le_mul (by omega) (by omega) (by omega) (by omega)⟩
          by_cases hc : 255 < p
          · rw [if_pos (.inr hc)] at he
            rw [← he]
            (repeat' (first | refine And.intro ?_ ?_ | intro _)) <;> try first | omega | trivial
          · rw [if_neg (by omega)] at he
            have hq3 : p * q ≤ 255 * 16777216 := Int.mul_le_mul (by omega) (by omega) (by omega) (by omega)
            have hadr2 : adr (i + 1) parts.length (out * 256 + p) = out * (256 * q) + p * q := by
              unfold adr
              rw [if_pos (by omega), show 4 - (i + 1) = 3 - i by omega]
              have e : (256 : Int) ^ (3 - i) = q := by assumption
              rw [e, Int.add_mul, Int.mul_assoc]
            (repeat' (first | refine And.intro ?_ ?_ | intro _)) <;> try first | omega | trivial
            all_goals exact ql (i + 1, out * 256 + p) ⟨by simp only; omega, by simp only; omega, fun h => by simp only; omega, by simp only; omega, he⟩ (by simp only; omega) (by simp only [hadr2]; rfl) rfl
      · have hl1 : labN parts[i] = (0, false) := if_neg hc0
        simp only [hl1, Bool.not_false, true_or, zm, false_and]
        rw [if_pos (.inl (by omega))] at he
        rw [← he]
        (repeat' (first | refine And.intro ?_ ?_ | intro _)) <;> try first | omega | trivial
        all_goals
          rename_i h9
          have hlast : i + 1 = parts.length := by omega
          have hpw := pw_last hlast (by omega)
          rw [hpw]; omega
    · have e : ((i : Int) < parts.length) ↔ False := by simp; omega
      rw [qv hge, d9] at he
      rw [← he]
      repeat (dsimp +instances only [go_sem, qe, qb, qd, qc, qa]; try simp only [bb, qb, qf, qi, qh, qc, qg, qa])
      try simp only [nn, reduceCtorEq, e, decide_false]
      have ha : adr i parts.length out = out := by unfold adr; rw [if_neg (by omega)]
      rw [ha]
      all_goals ((repeat' (first | refine And.intro ?_ ?_ | intro _)) <;> try first | omega | trivial)
end Go.Gx
end

/- Part 6 of the proof of the card of laws.Rows.FnExactWindowAsk: lemmas. No condition. -/
import Derived.Test.YtingolkleldegaaGreatDoorK05
import Derived.KernelRfl
import Derived.Shelf.Strings.Builder1
import Derived.Shelf.Strings.Builder2
import Derived.Shelf.Strings.OnBuilder
import Derived.Shelf.Small.Utf8
import Derived.Shelf.Small.Bits
import Derived.Shelf.Small.Strs
import Derived.Shelf.Small.Wraps
import Derived.Shelf.Strings.BuilderF
import Derived.Shelf.Strings.BuilderK
import Derived.Shelf.Utf8.RuneCount
import Derived.Shelf.Strings.Builder2Cap
import Derived.Shelf.Strconv.Itoa0
import Derived.Shelf.Strconv.Itoa1
import Derived.Shelf.LaysM
import Derived.Shelf.Strconv.Itoa2
import Derived.Shelf.Strconv.Itoa3
import Derived.Shelf.Strings.Search1
import Derived.Shelf.Strings.Search2
import Derived.Shelf.Strings.Search3
import Derived.Shelf.Strings.Cut
import Derived.Shelf.Strings.Count
import Derived.Shelf.Strings.Shaped
import Derived.Shelf.Sort.Plain
import Derived.Shelf.Strings.LastIndex
import Derived.Shelf.Strings.Prefix
import Derived.Shelf.Strings.Split
import Derived.Shelf.Strings.Replace
import Derived.Shelf.Strings.SplitShaped
import Derived.Shelf.Unicode.Decode
import Derived.Shelf.Strings.Runes
import Derived.Shelf.Strings.RuneCount
import Derived.Shelf.Strings.IndexAny
import Derived.Shelf.Strings.AsciiSet
import Derived.Shelf.Strings.IndexAnyAll
import Derived.Shelf.Strings.Explode
import Derived.Shelf.Unicode.DecodeSlow
import Derived.Shelf.Unicode.DecodeAny
import Derived.Shelf.Strings.BuilderCap
import Derived.Shelf.Slices.Turned
import Derived.Shelf.Slices.Equal
import Derived.Ground.Names2Prog
import Derived.Shelf.Slices.Clone
import Derived.Shelf.Slices.CompactI
import Derived.Shelf.Slices.SearchI
import Derived.Shelf.Slices.Cells
import Derived.Shelf.Slices.In.SortNone
import Derived.Shelf.Slices.Empties2
import Derived.Ground.SlgnProg
import Derived.Shelf.SlicesE.Clone
import Derived.Test.YtingolkleldegaaGreatDoorProg
import Derived.Lib.AppendIntMem
import Derived.Test.YtingolkleldegaaGreatDoorK01
import Derived.Test.YtingolkleldegaaGreatDoorK02
import Derived.Test.YtingolkleldegaaGreatDoorK03
import Derived.Test.YtingolkleldegaaGreatDoorK04
set_option linter.unusedVariables false
set_option linter.unusedSimpArgs false
set_option maxRecDepth 100000
section
namespace Go.Gx
open Go.Proofs
def url0 : Url := ⟨[], [], [], ⟨0, [], 0⟩, 0, [], [], false, [], false, []⟩
def withTail (u : Url) (s : Str) : Url :=
  let k := atAny [35] s
  let u1 := if k < s.length then { u with HasFrag := true, Frag := Encode 3 (s.drop (k + 1)) } else u
  if s.take k = [] then u1 else { u1 with HasQuery := true, Query := Encode 2 ((s.take k).drop 1) }
def E164 : Env := { T := Tz.tab, G := Gl, C := [(162, ct162), (163, ct163)], live := [(0, [1, 2, 4]), (1, [1, 2, 4, 5]), (2, [1, 2, 4, 5, 11]), (3, [1, 2, 4, 5]), (4, [1, 2, 4, 5]), (5, [1, 2, 4]), (6, [1, 2, 4, 23]), (7, [1, 2, 4]), (8, [2, 4]), (9, [4])] }
def ct164 : Ct := .im (dom2 tUrl tStr (fun u s => True)) (fn2 tUrl tStr fun u s => [tUrl.enc (withTail u s)])
attribute [go_sem] E164 ct164 Go.Proofs.Tryz.f164
theorem ok164 : CtOk Tryz.prog Gl 164 ct164 := okI2 (E := E164) (sound_of Tz.tab_ok Tz.mixed (AllOk.cons ok162 (AllOk.cons ok163 AllOk.nil))) rfl Tryz.func164 (by kernel_rfl) fun u s fu fs hp => by
  have gu := fu
  have fu := fit_url fu
  have fs := fit_str fs
  refine vcFn_intro rfl rfl (by kernel_rfl) rfl ?_
  have hk := atAny_le [35] s
  have hl1 := len1 (s.take (atAny [35] s))
  repeat (dsimp +instances only [go_sem, Nat.reduceBEq, Nat.reduceAdd, Nat.reduceSub, Nat.reduceLT, Nat.reduceLeDiff]; try simp only [bb, Nat.reduceAdd, Int.reduceToNat, Int.reduceLE, Int.reduceLT, Nat.reduceLT, Nat.reduceMul, Nat.reduceLeDiff])
  try simp only [nn, reduceCtorEq]
  by_cases h1 : atAny [35] s < s.length <;> by_cases h2 : s.take (atAny [35] s) = []
  all_goals
    simp only [withTail, h1, h2, if_true, if_false, false_or] at hl1 ⊢
    (repeat' (first | refine And.intro ?_ ?_ | intro _)) <;> try first | omega | trivial
def withWho (u : Url) (s : Str) : Url :=
  let k := atAny [58] s
  let u1 := { u with User := Encode 4 (s.take k) }
  if k < s.length then { u1 with Pass := Encode 4 (s.drop (k + 1)) } else u1
def E212 : Env := { T := Tz.tab, G := Gl, C := [(162, ct162), (163, ct163)], live := [(0, [1, 2, 4]), (1, [1, 2, 4, 5]), (2, [1, 2, 4, 5]), (3, [1, 2, 4, 5, 16]), (4, [2, 4]), (5, [4])] }
def ct212 : Ct := .im (dom2 tUrl tStr (fun u s => True)) (fn2 tUrl tStr fun u s => [tUrl.enc (withWho u s)])
attribute [go_sem] E212 ct212 Go.Proofs.Tryz.f212
theorem ok212 : CtOk Tryz.prog Gl 212 ct212 := okI2 (E := E212) (sound_of Tz.tab_ok Tz.mixed (AllOk.cons ok162 (AllOk.cons ok163 AllOk.nil))) rfl Tryz.func212 (by kernel_rfl) fun u s fu fs hp => by
  have gu := fu
  have fu := fit_url fu
  have fs := fit_str fs
  refine vcFn_intro rfl rfl (by kernel_rfl) rfl ?_
  have hk := atAny_le [58] s
  repeat (dsimp +instances only [go_sem, Nat.reduceBEq, Nat.reduceAdd, Nat.reduceSub, Nat.reduceLT, Nat.reduceLeDiff]; try simp only [bb, Nat.reduceAdd, Int.reduceToNat, Int.reduceLE, Int.reduceLT, Nat.reduceLT, Nat.reduceMul, Nat.reduceLeDiff])
  try simp only [nn, reduceCtorEq]
  by_cases h1 : atAny [58] s < s.length
  all_goals
    simp only [withWho, h1, if_true, if_false]
    (repeat' (first | refine And.intro ?_ ?_ | intro _)) <;> try first | omega | trivial
def lastF (b : UInt8) (i : Nat) (p : Int) : Str → Int
  | [] => p
  | c :: r => lastF b (i + 1) (if c = b then (i : Int) else p) r
theorem lastF_rng (b : UInt8) : ∀ (s : Str) (i : Nat) (p : Int), -1 ≤ p → p < i → -1 ≤ lastF b i p s ∧ lastF b i p s < i + s.length
  | [], i, p, h1, h2 => by simp only [lastF]; simp; omega
  | c :: r, i, p, h1, h2 => by
    have := lastF_rng b r (i + 1) (if c = b then (i : Int) else p) (by split <;> omega) (by split <;> omega)
    simp only [lastF, List.length_cons]; omega
def authG (u : Url) (s : Str) : Url × Bool :=
  let p := lastF 64 0 (-1) s
  let u1 := if 0 ≤ p then withWho u (s.take p.toNat) else u
  let s1 := s.drop (p + 1).toNat
  let k := atAny [58] s1
  let h := HostGet (s1.take k)
  let q := if k < s1.length then portN (s1.drop (k + 1)) (ownN u1.Scheme) else -1
  ({ u1 with Host := h.1, Port := q }, h.2 && !decide (q = -2))
def E188 : Env := { T := Tz.tab, G := Gl, C := [(212, ct212), (162, ct162), (213, ct213), (214, ct214), (134, ct134)], alt := [(16, some (.op 0 (.op 1 (.op 2 (.alt (.op 3 (.alt (.op 4 (.alt (.op 5 (.alt (.op 6 (.op 7 (.op 8 .done))) (.op 7 (.op 6 (.op 8 .done))))) (.op 7 (.op 5 (.op 6 (.op 8 .done)))))) (.op 7 (.op 4 (.op 5 (.op 6 (.op 8 .done))))))) (.op 7 (.op 3 (.op 4 (.op 5 (.op 6 (.op 8 .done)))))))))))], live := [(0, [1, 2, 4]), (1, [1, 2, 4, 6]), (2, [1, 2, 4, 6, 7]), (3, [1, 2, 4, 6, 7, 14]), (4, [1, 2, 4, 6, 7]), (5, [1, 2, 4, 6, 7, 20]), (6, [1, 2, 4, 6, 7]), (7, [1, 2, 4, 6, 23]), (8, [1, 2, 4, 6]), (9, [1, 2, 4]), (10, [1, 2, 4, 8]), (11, [1, 2, 4, 8, 9, 10]), (12, [1, 2, 4, 8, 10]), (13, [1, 2, 4, 8, 10]), (14, [1, 2, 4, 8, 10, 48]), (15, [2, 4, 10]), (16, [4, 5])] }
def ct188 : Ct := .im (dom2 tUrl tStr (fun u s => True)) (fn2 tUrl tStr fun u s => [tUrl.enc (authG u s).1, tBool.enc (authG u s).2])
attribute [go_sem] E188 ct188 Go.Proofs.Tryz.f188
set_option maxHeartbeats 1000000 in
theorem ok188 : CtOk Tryz.prog Gl 188 ct188 := okI2 (E := E188) (sound_of Tz.tab_ok Tz.mixed (AllOk.cons ok212 (AllOk.cons ok162 (AllOk.cons ok213 (AllOk.cons ok214 (AllOk.cons ok134 AllOk.nil)))))) rfl Tryz.func188 (by kernel_rfl) fun u s fu fs hp => by
  have gu := fu
  have fu := fit_url fu
  have fs := fit_str fs
  refine vcFn_intro rfl rfl (by kernel_rfl) rfl ?_
  repeat (dsimp +instances only [go_sem, Nat.reduceBEq, Nat.reduceAdd, Nat.reduceSub, Nat.reduceLT, Nat.reduceLeDiff]; try simp only [bb, Nat.reduceAdd, Int.reduceToNat, Int.reduceLE, Int.reduceLT, Nat.reduceLT, Nat.reduceMul, Nat.reduceLeDiff])
  repeat (dsimp +instances only [callIm_mk, killR, killA, killC, kill1, List.set_cons_zero, List.set_cons_succ]; repeat (dsimp +instances only [go_sem, Nat.reduceBEq, Nat.reduceAdd, Nat.reduceSub, Nat.reduceLT, Nat.reduceLeDiff]; try simp only [bb, Nat.reduceAdd, Int.reduceToNat, Int.reduceLE, Int.reduceLT, Nat.reduceLT, Nat.reduceMul, Nat.reduceLeDiff]))
  refine vcC_loop [1, 2, 4, 6, 7] (fun (x : Nat × Int) => x.1 ≤ s.length ∧ -1 ≤ x.2 ∧ x.2 < x.1 ∧ lastF 64 x.1 x.2 (s.drop x.1) = lastF 64 0 (-1) s) (fun x => [.cv (.str s), .ptr 0 13 0 0, .ptr 1 13 0 0, .cv (.int .i64 x.2), .cv (.int .i64 x.1)]) (fun _ => [.boxT 0 [.cv (.str u.Scheme), .cv (.str u.User), .cv (.str u.Pass), .cv (.int .i64 u.Host.Kind), .cv (.str u.Host.Name), .cv (.int .i64 u.Host.Addr), .cv (.int .i64 u.Port), .cv (.sl 1 (u.Path.map rStr.enc)), .cv (.str u.Opaque), .cv (.bool u.HasQuery), .cv (.str u.Query), .cv (.bool u.HasFrag), .cv (.str u.Frag)], .boxT 0 [.cv (.str []), .cv (.str []), .cv (.str []), .cv (.int .i64 0), .cv (.str []), .cv (.int .i64 0), .cv (.int .i64 0), .nil 1, .cv (.str []), .cv (.bool false), .cv (.str []), .cv (.bool false), .cv (.str [])]]) (fun x => s.length - x.1) (0, -1) (by simp) ⟨rfl, rfl⟩ ?_
  rintro ⟨i, p⟩ ⟨hi, h1, h2, he⟩
  simp only at hi h1 h2 he
  rcases Nat.lt_or_ge i s.length with hlt | hge
  · have hb : s[i] = 64 ↔ s[i].toNat = 64 := by rw [← UInt8.toNat_inj]; rfl
    rw [List.drop_eq_getElem_cons hlt, lastF] at he
    simp only [hb] at he
    repeat (dsimp +instances only [go_sem, Nat.reduceBEq, Nat.reduceAdd, Nat.reduceSub, Nat.reduceLT, Nat.reduceLeDiff]; try simp only [bb, Nat.reduceAdd, Int.reduceToNat, Int.reduceLE, Int.reduceLT, Nat.reduceLT, Nat.reduceMul, Nat.reduceLeDiff])
    repeat (dsimp +instances only [callIm_mk, killR, killA, killC, kill1, List.set_cons_zero, List.set_cons_succ]; repeat (dsimp +instances only [go_sem, Nat.reduceBEq, Nat.reduceAdd, Nat.reduceSub, Nat.reduceLT, Nat.reduceLeDiff]; try simp only [bb, Nat.reduceAdd, Int.reduceToNat, Int.reduceLE, Int.reduceLT, Nat.reduceLT, Nat.reduceMul, Nat.reduceLeDiff]))
    try simp only [nn, reduceCtorEq, hlt, decide_true]
    (repeat' (first | refine And.intro ?_ ?_ | intro _)) <;> try first | omega | trivial
    all_goals first
    | (refine nextL_intro ((i + 1, i)) ?_ ?_ ?_ ?_ <;> first | (simp only; done) | rfl | (simp only; omega) | (simp; done) | (simp; omega) | grind [])
    | (refine nextL_intro ((i + 1, p)) ?_ ?_ ?_ ?_ <;> first | (simp only; done) | rfl | (simp only; omega) | (simp; done) | (simp; omega) | grind [])
    | grind (splits := 20) []
  · rw [List.drop_eq_nil_of_le hge, lastF] at he
    have hk := atAny_le [58] (s.drop (p + 1).toNat)
    have hln : (s.drop (p + 1).toNat).length = s.length - (p + 1).toNat := List.length_drop
    repeat (dsimp +instances only [go_sem, Nat.reduceBEq, Nat.reduceAdd, Nat.reduceSub, Nat.reduceLT, Nat.reduceLeDiff]; try simp only [bb, Nat.reduceAdd, Int.reduceToNat, Int.reduceLE, Int.reduceLT, Nat.reduceLT, Nat.reduceMul, Nat.reduceLeDiff])
    repeat (dsimp +instances only [callIm_mk, killR, killA, killC, kill1, List.set_cons_zero, List.set_cons_succ]; repeat (dsimp +instances only [go_sem, Nat.reduceBEq, Nat.reduceAdd, Nat.reduceSub, Nat.reduceLT, Nat.reduceLeDiff]; try simp only [bb, Nat.reduceAdd, Int.reduceToNat, Int.reduceLE, Int.reduceLT, Nat.reduceLT, Nat.reduceMul, Nat.reduceLeDiff]))
    try simp only [nn, reduceCtorEq, Nat.not_lt.2 hge, decide_false]
    by_cases g1 : 0 ≤ p <;> by_cases g2 : atAny [58] (s.drop (p + 1).toNat) < (s.drop (p + 1).toNat).length
    all_goals
      simp only [authG, ← he, g1, g2, if_true, if_false, true_implies, false_implies, not_true_eq_false, not_false_eq_true, true_and, and_true]
    all_goals
      (repeat' (first | refine And.intro ?_ ?_ | intro _)) <;> try first | omega | trivial
      all_goals rfl
end Go.Gx
end
section
namespace Go.Proofs
open Go.Shelf
def Tryz.lays169_ren : Go.Shelf.Ren := ⟨fun | 169 => 157 | n => n, fun | 70 => 167 | 9 => 9 | 0 => 0 | 72 => 169 | 37 => 92 | 127 => 186 | 3 => 3 | 5 => 5 | n => n, fun | n => n⟩
theorem Tryz.lays169 : Go.Proofs.Lays.n169 Tryz.prog Tryz.lays169_ren := {
  mixed := by kernel_rfl
  f169 := Tryz.func157.trans (congrArg some (by kernel_rfl))
  t0 := Tryz.underlying0
  a0 := Tryz.isAgg0
  z0 := Tryz.sizeOf0
  v0 := Tryz.zeroValue0
  t3 := Tryz.underlying3
  a3 := Tryz.isAgg3
  z3 := Tryz.sizeOf3
  v3 := Tryz.zeroValue3
  t9 := Tryz.underlying9
  a9 := Tryz.isAgg9
  z9 := Tryz.sizeOf9
  v9 := Tryz.zeroValue9
  t37 := Tryz.underlying92
  a37 := Tryz.isAgg92
  z37 := Tryz.sizeOf92
  v37 := Tryz.zeroValue92
  t70 := Tryz.underlying167
  a70 := Tryz.isAgg167
  z70 := Tryz.sizeOf167
  v70 := Tryz.zeroValue167
  t72 := Tryz.underlying169
  a72 := Tryz.isAgg169
  z72 := Tryz.sizeOf169
  v72 := Tryz.zeroValue169
  t127 := Tryz.underlying186
  a127 := Tryz.isAgg186
  z127 := Tryz.sizeOf186
  v127 := Tryz.zeroValue186 }
theorem Tryz.Builder_Extra_169 : Builder.Extra Tryz.prog Tryz.lays169_ren := {
  sizeBuilder := by kernel_rfl
  liesBuilder := by kernel_rfl
  t5 := Tryz.underlying5
  a5 := Tryz.isAgg5
  z5 := Tryz.sizeOf5
  v5 := Tryz.zeroValue5
  infoByte := by kernel_rfl
  cellsByte := by kernel_rfl
  sizeByte := by kernel_rfl
  neB5 := by decide }
def Tryz.lays156_ren : Go.Shelf.Ren := ⟨fun | 156 => 154 | 165 => 182 | 166 => 156 | 169 => 157 | 240 => 184 | 241 => 206 | 276 => 211 | 277 => 229 | n => n, fun | 31 => 64 | 9 => 9 | 3 => 3 | 4 => 4 | 0 => 0 | 20 => 20 | 72 => 169 | 76 => 172 | 70 => 167 | 37 => 92 | 75 => 171 | 127 => 186 | 164 => 203 | 5 => 5 | 80 => 116 | n => n, fun | n => n⟩
theorem Tryz.lays156 : Go.Proofs.Lays.n156 Tryz.prog Tryz.lays156_ren := {
  mixed := by kernel_rfl
  f156 := Tryz.func154.trans (congrArg some (by kernel_rfl))
  f165 := Tryz.func182.trans (congrArg some (by kernel_rfl))
  f166 := Tryz.func156.trans (congrArg some (by kernel_rfl))
  f169 := Tryz.func157.trans (congrArg some (by kernel_rfl))
  f240 := Tryz.func184.trans (congrArg some (by kernel_rfl))
  f241 := Tryz.func206.trans (congrArg some (by kernel_rfl))
  f276 := Tryz.func211.trans (congrArg some (by kernel_rfl))
  f277 := Tryz.func229.trans (congrArg some (by kernel_rfl))
  t0 := Tryz.underlying0
  a0 := Tryz.isAgg0
  z0 := Tryz.sizeOf0
  v0 := Tryz.zeroValue0
  t3 := Tryz.underlying3
  a3 := Tryz.isAgg3
  z3 := Tryz.sizeOf3
  v3 := Tryz.zeroValue3
  t4 := Tryz.underlying4
  a4 := Tryz.isAgg4
  z4 := Tryz.sizeOf4
  v4 := Tryz.zeroValue4
  t9 := Tryz.underlying9
  a9 := Tryz.isAgg9
  z9 := Tryz.sizeOf9
  v9 := Tryz.zeroValue9
  t20 := Tryz.underlying20
  a20 := Tryz.isAgg20
  z20 := Tryz.sizeOf20
  v20 := Tryz.zeroValue20
  t31 := Tryz.underlying64
  a31 := Tryz.isAgg64
  z31 := Tryz.sizeOf64
  v31 := Tryz.zeroValue64
  t37 := Tryz.underlying92
  a37 := Tryz.isAgg92
  z37 := Tryz.sizeOf92
  v37 := Tryz.zeroValue92
  t70 := Tryz.underlying167
  a70 := Tryz.isAgg167
  z70 := Tryz.sizeOf167
  v70 := Tryz.zeroValue167
  t72 := Tryz.underlying169
  a72 := Tryz.isAgg169
  z72 := Tryz.sizeOf169
  v72 := Tryz.zeroValue169
  t75 := Tryz.underlying171
  a75 := Tryz.isAgg171
  z75 := Tryz.sizeOf171
  v75 := Tryz.zeroValue171
  t76 := Tryz.underlying172
  a76 := Tryz.isAgg172
  z76 := Tryz.sizeOf172
  v76 := Tryz.zeroValue172
  t127 := Tryz.underlying186
  a127 := Tryz.isAgg186
  z127 := Tryz.sizeOf186
  v127 := Tryz.zeroValue186
  t164 := Tryz.underlying203
  a164 := Tryz.isAgg203
  z164 := Tryz.sizeOf203
  v164 := Tryz.zeroValue203 }
theorem Tryz.Builder_Extra_156 : Builder.Extra Tryz.prog Tryz.lays156_ren := {
  sizeBuilder := by kernel_rfl
  liesBuilder := by kernel_rfl
  t5 := Tryz.underlying5
  a5 := Tryz.isAgg5
  z5 := Tryz.sizeOf5
  v5 := Tryz.zeroValue5
  infoByte := by kernel_rfl
  cellsByte := by kernel_rfl
  sizeByte := by kernel_rfl
  neB5 := by decide }
open Go.RowKit in
theorem Tryz.strings_Join (bk o c : Nat) (xs : List ByteArray) (sep : ByteArray) (w : World) (hcells : ∀ (j : Nat) x, xs[j]? = some x → w.cell? ⟨bk, o + j, none⟩ = some (.string x)) (hbk : bk < w.heap.size) (hN : xs.length ≤ 140737488355328) (hcap : xs.length ≤ c) (hlen : (Lib.join (xs.map (·.data.toList)) sep.data.toList).length ≤ 140737488355328) :
    Calls Tryz.prog 154 #[.slice (some ⟨bk, o, none⟩) xs.length c, .string sep] w fun e w' => e = .returned (.string ⟨(Lib.join (xs.map (·.data.toList)) sep.data.toList).toArray⟩) ∧ Below w.heap.size w w' := Any.strings_Join Tryz.lays156 Tryz.Builder_Extra_156 bk o c xs sep w hcells hbk hN hcap hlen
def Tryz.lays137_ren : Go.Shelf.Ren := ⟨fun | 137 => 172 | 217 => 196 | 266 => 223 | n => n, fun | 9 => 9 | 5 => 5 | 3 => 3 | n => n, fun | n => n⟩
theorem Tryz.lays137 : Go.Proofs.Lays.n137 Tryz.prog Tryz.lays137_ren := {
  mixed := by kernel_rfl
  f137 := Tryz.func172.trans (congrArg some (by kernel_rfl))
  f217 := Tryz.func196.trans (congrArg some (by kernel_rfl))
  f266 := Tryz.func223.trans (congrArg some (by kernel_rfl))
  t3 := Tryz.underlying3
  a3 := Tryz.isAgg3
  z3 := Tryz.sizeOf3
  v3 := Tryz.zeroValue3
  t5 := Tryz.underlying5
  a5 := Tryz.isAgg5
  z5 := Tryz.sizeOf5
  v5 := Tryz.zeroValue5
  t9 := Tryz.underlying9
  a9 := Tryz.isAgg9
  z9 := Tryz.sizeOf9
  v9 := Tryz.zeroValue9 }
open Go.RowKit in
theorem Tryz.strings_IndexByte (s : ByteArray) (c : Int) (w : World) :
    Calls Tryz.prog 172 #[.string s, .int .u8 c] w fun e w' => e = .returned (.int .i64 (Lib.indexByte s.data.toList c.toNat.toUInt8)) ∧ w' = w := Any.strings_IndexByte Tryz.lays137 s c w
def Tryz.laysM171_ren : Go.Shelf.Ren := ⟨fun | 171 => 118 | 243 => 155 | 246 => 183 | 283 => 207 | 284 => 208 | 285 => 209 | 286 => 210 | 129 => 107 | 317 => 230 | 318 => 231 | 319 => 232 | 320 => 233 | 337 => 243 | 338 => 244 | n => n, fun | 3 => 3 | 9 => 9 | 2 => 2 | 4 => 4 | 171 => 199 | 0 => 0 | 53 => 130 | 37 => 92 | 5 => 5 | 173 => 201 | 212 => 215 | 51 => 128 | 20 => 20 | 213 => 216 | 46 => 103 | 232 => 222 | 233 => 223 | n => n, fun | 17 => 2 | 18 => 3 | 19 => 4 | n => n⟩
theorem Tryz.laysM171 : Go.Proofs.LaysM.n171 Tryz.prog Tryz.laysM171_ren := {
  mixed := by kernel_rfl
  f129 := Tryz.func107.trans (congrArg some (by kernel_rfl))
  f171 := Tryz.func118.trans (congrArg some (by kernel_rfl))
  f243 := Tryz.func155.trans (congrArg some (by kernel_rfl))
  f246 := Tryz.func183.trans (congrArg some (by kernel_rfl))
  f283 := Tryz.func207.trans (congrArg some (by kernel_rfl))
  f284 := Tryz.func208.trans (congrArg some (by kernel_rfl))
  f285 := Tryz.func209.trans (congrArg some (by kernel_rfl))
  f286 := Tryz.func210.trans (congrArg some (by kernel_rfl))
  f317 := Tryz.func230.trans (congrArg some (by kernel_rfl))
  f318 := Tryz.func231.trans (congrArg some (by kernel_rfl))
  f319 := Tryz.func232.trans (congrArg some (by kernel_rfl))
  f320 := Tryz.func233.trans (congrArg some (by kernel_rfl))
  f337 := Tryz.func243.trans (congrArg some (by kernel_rfl))
  f338 := Tryz.func244.trans (congrArg some (by kernel_rfl))
  t0 := Tryz.underlying0
  a0 := Tryz.isAgg0
  z0 := Tryz.sizeOf0
  v0 := Tryz.zeroValue0
  t2 := Tryz.underlying2
  a2 := Tryz.isAgg2
  z2 := Tryz.sizeOf2
  v2 := Tryz.zeroValue2
  t3 := Tryz.underlying3
  a3 := Tryz.isAgg3
  z3 := Tryz.sizeOf3
  v3 := Tryz.zeroValue3
  t4 := Tryz.underlying4
  a4 := Tryz.isAgg4
  z4 := Tryz.sizeOf4
  v4 := Tryz.zeroValue4
  t5 := Tryz.underlying5
  a5 := Tryz.isAgg5
  z5 := Tryz.sizeOf5
  v5 := Tryz.zeroValue5
  t9 := Tryz.underlying9
  a9 := Tryz.isAgg9
  z9 := Tryz.sizeOf9
  v9 := Tryz.zeroValue9
  t20 := Tryz.underlying20
  a20 := Tryz.isAgg20
  z20 := Tryz.sizeOf20
  v20 := Tryz.zeroValue20
  t37 := Tryz.underlying92
  a37 := Tryz.isAgg92
  z37 := Tryz.sizeOf92
  v37 := Tryz.zeroValue92
  t46 := Tryz.underlying103
  a46 := Tryz.isAgg103
  z46 := Tryz.sizeOf103
  v46 := Tryz.zeroValue103
  t51 := Tryz.underlying128
  a51 := Tryz.isAgg128
  z51 := Tryz.sizeOf128
  v51 := Tryz.zeroValue128
  t53 := Tryz.underlying130
  a53 := Tryz.isAgg130
  z53 := Tryz.sizeOf130
  v53 := Tryz.zeroValue130
  t171 := Tryz.underlying199
  a171 := Tryz.isAgg199
  z171 := Tryz.sizeOf199
  v171 := Tryz.zeroValue199
  t173 := Tryz.underlying201
  a173 := Tryz.isAgg201
  z173 := Tryz.sizeOf201
  v173 := Tryz.zeroValue201
  t212 := Tryz.underlying215
  a212 := Tryz.isAgg215
  z212 := Tryz.sizeOf215
  v212 := Tryz.zeroValue215
  t213 := Tryz.underlying216
  a213 := Tryz.isAgg216
  z213 := Tryz.sizeOf216
  t232 := Tryz.underlying222
  a232 := Tryz.isAgg222
  z232 := Tryz.sizeOf222
  v232 := Tryz.zeroValue222
  t233 := Tryz.underlying223
  a233 := Tryz.isAgg223
  z233 := Tryz.sizeOf223
  v233 := Tryz.zeroValue223
  g17 := by kernel_rfl
  g18 := by kernel_rfl
  g19 := by kernel_rfl
  i0 := by kernel_rfl
  i2 := by kernel_rfl
  i3 := by kernel_rfl
  i4 := by kernel_rfl
  i5 := by kernel_rfl
  i9 := by kernel_rfl
  i20 := by kernel_rfl
  i37 := by kernel_rfl
  i46 := by kernel_rfl
  i51 := by kernel_rfl
  i53 := by kernel_rfl
  i171 := by kernel_rfl
  i173 := by kernel_rfl
  i212 := by kernel_rfl
  i232 := by kernel_rfl
  i233 := by kernel_rfl
  m17 := by kernel_rfl
  m18 := by kernel_rfl
  m19 := by kernel_rfl }
open Go.RowKit Go.Sort Go.Lib in
theorem Tryz.strconv_Itoa (n : Int) (h0 : -9223372036854775808 ≤ n) (h1 : n ≤ 9223372036854775807) (w : World) (htab : Lib.TabIs Tryz.prog w "internal/strconv.uint64pow10" .u64 Lib.pow10Tab) :
    Calls Tryz.prog 118 #[.int .i64 n] w fun e w' => e = .returned (.string ⟨(Lib.itoa n).toArray⟩) ∧ ∃ k os, w' = grow (w.drewN k) os := Any.strconv_Itoa Tryz.laysM171 n h0 h1 w htab
def Tryz.lays145_ren : Go.Shelf.Ren := ⟨fun | 145 => 149 | 220 => 176 | 219 => 197 | 217 => 196 | 225 => 222 | 224 => 221 | 267 => 224 | 266 => 223 | 314 => 238 | n => n, fun | 9 => 9 | 4 => 4 | 59 => 147 | 3 => 3 | 5 => 5 | 46 => 103 | 146 => 217 | 51 => 128 | n => n, fun | 1 => 1 | n => n⟩
theorem Tryz.lays145 : Go.Proofs.Lays.n145 Tryz.prog Tryz.lays145_ren := {
  mixed := by kernel_rfl
  f145 := Tryz.func149.trans (congrArg some (by kernel_rfl))
  f217 := Tryz.func196.trans (congrArg some (by kernel_rfl))
  f219 := Tryz.func197.trans (congrArg some (by kernel_rfl))
  f220 := Tryz.func176.trans (congrArg some (by kernel_rfl))
  f224 := Tryz.func221.trans (congrArg some (by kernel_rfl))
  f225 := Tryz.func222.trans (congrArg some (by kernel_rfl))
  f266 := Tryz.func223.trans (congrArg some (by kernel_rfl))
  f267 := Tryz.func224.trans (congrArg some (by kernel_rfl))
  f314 := Tryz.func238.trans (congrArg some (by kernel_rfl))
  t3 := Tryz.underlying3
  a3 := Tryz.isAgg3
  z3 := Tryz.sizeOf3
  v3 := Tryz.zeroValue3
  t4 := Tryz.underlying4
  a4 := Tryz.isAgg4
  z4 := Tryz.sizeOf4
  v4 := Tryz.zeroValue4
  t5 := Tryz.underlying5
  a5 := Tryz.isAgg5
  z5 := Tryz.sizeOf5
  v5 := Tryz.zeroValue5
  t9 := Tryz.underlying9
  a9 := Tryz.isAgg9
  z9 := Tryz.sizeOf9
  v9 := Tryz.zeroValue9
  t46 := Tryz.underlying103
  a46 := Tryz.isAgg103
  z46 := Tryz.sizeOf103
  v46 := Tryz.zeroValue103
  t51 := Tryz.underlying128
  a51 := Tryz.isAgg128
  z51 := Tryz.sizeOf128
  v51 := Tryz.zeroValue128
  t59 := Tryz.underlying147
  a59 := Tryz.isAgg147
  z59 := Tryz.sizeOf147
  v59 := Tryz.zeroValue147
  t146 := Tryz.underlying217
  a146 := Tryz.isAgg217
  z146 := Tryz.sizeOf217
  v146 := Tryz.zeroValue217
  g1 := by kernel_rfl }
open Go.RowKit Go.Lib in
theorem Tryz.strings_Cut (s sep : ByteArray) (m : Int) (w : World) (hs : s.size < 4294967281) (hm : w.cell? ⟨1, 0, none⟩ = some (.int .i64 m)) :
    Calls Tryz.prog 149 #[.string s, .string sep] w fun e w' => e = .returned (.tuple #[.string ⟨(Lib.cut s.data.toList sep.data.toList).1.toArray⟩, .string ⟨(Lib.cut s.data.toList sep.data.toList).2.1.toArray⟩, .bool (Lib.cut s.data.toList sep.data.toList).2.2]) ∧ ∃ n, w' = w.drewN n := Any.strings_Cut Tryz.lays145 s sep m w hs hm
def Tryz.lays189_ren : Go.Shelf.Ren := ⟨fun | 189 => 55 | 125 => 82 | 257 => 81 | 128 => 106 | 129 => 107 | 294 => 97 | 295 => 98 | 296 => 99 | 297 => 100 | 298 => 101 | 299 => 102 | 216 => 103 | 300 => 104 | 301 => 105 | 328 => 122 | 329 => 123 | 330 => 124 | 331 => 125 | 332 => 126 | 215 => 127 | 343 => 160 | n => n, fun | 28 => 49 | 3 => 3 | 46 => 103 | 0 => 0 | 51 => 128 | 53 => 130 | 4 => 4 | 183 => 121 | 182 => 120 | 131 => 125 | 5 => 5 | 9 => 9 | 218 => 140 | 222 => 144 | 228 => 174 | 229 => 175 | n => n, fun | n => n⟩
theorem Tryz.lays189 : Go.Proofs.Lays.n189 Tryz.prog Tryz.lays189_ren := {
  mixed := by kernel_rfl
  f125 := Tryz.func82.trans (congrArg some (by kernel_rfl))
  f128 := Tryz.func106.trans (congrArg some (by kernel_rfl))
  f129 := Tryz.func107.trans (congrArg some (by kernel_rfl))
  f189 := Tryz.func55.trans (congrArg some (by kernel_rfl))
  f215 := Tryz.func127.trans (congrArg some (by kernel_rfl))
  f216 := Tryz.func103.trans (congrArg some (by kernel_rfl))
  f257 := Tryz.func81.trans (congrArg some (by kernel_rfl))
  f294 := Tryz.func97.trans (congrArg some (by kernel_rfl))
  f295 := Tryz.func98.trans (congrArg some (by kernel_rfl))
  f296 := Tryz.func99.trans (congrArg some (by kernel_rfl))
  f297 := Tryz.func100.trans (congrArg some (by kernel_rfl))
  f298 := Tryz.func101.trans (congrArg some (by kernel_rfl))
  f299 := Tryz.func102.trans (congrArg some (by kernel_rfl))
  f300 := Tryz.func104.trans (congrArg some (by kernel_rfl))
  f301 := Tryz.func105.trans (congrArg some (by kernel_rfl))
  f328 := Tryz.func122.trans (congrArg some (by kernel_rfl))
  f329 := Tryz.func123.trans (congrArg some (by kernel_rfl))
  f330 := Tryz.func124.trans (congrArg some (by kernel_rfl))
  f331 := Tryz.func125.trans (congrArg some (by kernel_rfl))
  f332 := Tryz.func126.trans (congrArg some (by kernel_rfl))
  f343 := Tryz.func160.trans (congrArg some (by kernel_rfl))
  t0 := Tryz.underlying0
  a0 := Tryz.isAgg0
  z0 := Tryz.sizeOf0
  v0 := Tryz.zeroValue0
  t3 := Tryz.underlying3
  a3 := Tryz.isAgg3
  z3 := Tryz.sizeOf3
  v3 := Tryz.zeroValue3
  t4 := Tryz.underlying4
  a4 := Tryz.isAgg4
  z4 := Tryz.sizeOf4
  v4 := Tryz.zeroValue4
  t5 := Tryz.underlying5
  a5 := Tryz.isAgg5
  z5 := Tryz.sizeOf5
  v5 := Tryz.zeroValue5
  t9 := Tryz.underlying9
  a9 := Tryz.isAgg9
  z9 := Tryz.sizeOf9
  v9 := Tryz.zeroValue9
  t28 := Tryz.underlying49
  a28 := Tryz.isAgg49
  z28 := Tryz.sizeOf49
  v28 := Tryz.zeroValue49
  t46 := Tryz.underlying103
  a46 := Tryz.isAgg103
  z46 := Tryz.sizeOf103
  v46 := Tryz.zeroValue103
  t51 := Tryz.underlying128
  a51 := Tryz.isAgg128
  z51 := Tryz.sizeOf128
  v51 := Tryz.zeroValue128
  t53 := Tryz.underlying130
  a53 := Tryz.isAgg130
  z53 := Tryz.sizeOf130
  v53 := Tryz.zeroValue130
  t131 := Tryz.underlying125
  a131 := Tryz.isAgg125
  z131 := Tryz.sizeOf125
  v131 := Tryz.zeroValue125
  t182 := Tryz.underlying120
  a182 := Tryz.isAgg120
  z182 := Tryz.sizeOf120
  v182 := Tryz.zeroValue120
  t183 := Tryz.underlying121
  a183 := Tryz.isAgg121
  z183 := Tryz.sizeOf121
  v183 := Tryz.zeroValue121
  t218 := Tryz.underlying140
  a218 := Tryz.isAgg140
  z218 := Tryz.sizeOf140
  v218 := Tryz.zeroValue140
  t222 := Tryz.underlying144
  a222 := Tryz.isAgg144
  z222 := Tryz.sizeOf144
  v222 := Tryz.zeroValue144
  t228 := Tryz.underlying174
  a228 := Tryz.isAgg174
  z228 := Tryz.sizeOf174
  v228 := Tryz.zeroValue174
  t229 := Tryz.underlying175
  a229 := Tryz.isAgg175
  z229 := Tryz.sizeOf175
  v229 := Tryz.zeroValue175 }
open Go.Sort Go.RowKit in
theorem Tryz.slices_Sort_int (blk off cap : Nat) (zs : List Int) (w : World) (hH : Holds (Value.int .i64) w blk off zs.toArray) (hblk : blk < w.heap.size) (hsz : zs.length < 4611686018427387904) :
    Calls Tryz.prog 55 #[.slice (some ⟨blk, off, none⟩) zs.length cap] w fun e w' =>
      e = .returned (.tuple #[]) ∧ ∃ n os, w' = grow (putRow (Value.int .i64) (Sort.ahead w n) blk off (zs.mergeSort fun x y => decide (x ≤ y)).toArray) os := Any.slices_Sort_int Tryz.lays189 blk off cap zs w hH hblk hsz
def Tryz.lays149_ren : Go.Shelf.Ren := ⟨fun | 149 => 148 | 222 => 175 | n => n, fun | 9 => 9 | 5 => 5 | 3 => 3 | 4 => 4 | n => n, fun | n => n⟩
theorem Tryz.lays149 : Go.Proofs.Lays.n149 Tryz.prog Tryz.lays149_ren := {
  mixed := by kernel_rfl
  f149 := Tryz.func148.trans (congrArg some (by kernel_rfl))
  f222 := Tryz.func175.trans (congrArg some (by kernel_rfl))
  t3 := Tryz.underlying3
  a3 := Tryz.isAgg3
  z3 := Tryz.sizeOf3
  v3 := Tryz.zeroValue3
  t4 := Tryz.underlying4
  a4 := Tryz.isAgg4
  z4 := Tryz.sizeOf4
  v4 := Tryz.zeroValue4
  t5 := Tryz.underlying5
  a5 := Tryz.isAgg5
  z5 := Tryz.sizeOf5
  v5 := Tryz.zeroValue5
  t9 := Tryz.underlying9
  a9 := Tryz.isAgg9
  z9 := Tryz.sizeOf9
  v9 := Tryz.zeroValue9 }
open Go.RowKit Go.Lib in
theorem Tryz.strings_LastIndexByte (s : ByteArray) (c : Int) (hs : s.size < 4611686018427387904) (w : World) :
    Calls Tryz.prog 148 #[.string s, .int .u8 c] w fun e w' => e = .returned (.int .i64 (Lib.lastIndexByte s c)) ∧ w' = w := Any.strings_LastIndexByte Tryz.lays149 s c hs w
def Tryz.lays99_ren : Go.Shelf.Ren := ⟨fun | 99 => 200 | 206 => 225 | n => n, fun | 9 => 9 | 4 => 4 | 3 => 3 | n => n, fun | n => n⟩
theorem Tryz.lays99 : Go.Proofs.Lays.n99 Tryz.prog Tryz.lays99_ren := {
  mixed := by kernel_rfl
  f99 := Tryz.func200.trans (congrArg some (by kernel_rfl))
  f206 := Tryz.func225.trans (congrArg some (by kernel_rfl))
  t3 := Tryz.underlying3
  a3 := Tryz.isAgg3
  z3 := Tryz.sizeOf3
  v3 := Tryz.zeroValue3
  t4 := Tryz.underlying4
  a4 := Tryz.isAgg4
  z4 := Tryz.sizeOf4
  v4 := Tryz.zeroValue4
  t9 := Tryz.underlying9
  a9 := Tryz.isAgg9
  z9 := Tryz.sizeOf9
  v9 := Tryz.zeroValue9 }
open Go.RowKit Go.Lib in
theorem Tryz.strings_HasPrefix (s p : ByteArray) (w : World) :
    Calls Tryz.prog 200 #[.string s, .string p] w fun e w' => e = .returned (.bool (Lib.hasPrefix s.data.toList p.data.toList)) ∧ w' = w := Any.strings_HasPrefix Tryz.lays99 s p w
def Tryz.lays146_ren : Go.Shelf.Ren := ⟨fun | 146 => 203 | 221 => 227 | 268 => 239 | 138 => 240 | 143 => 241 | 195 => 246 | 197 => 242 | 218 => 247 | 219 => 197 | 260 => 248 | 217 => 196 | 225 => 222 | 224 => 221 | 267 => 224 | 266 => 223 | 314 => 238 | n => n, fun | 9 => 9 | 31 => 64 | 3 => 3 | 4 => 4 | 0 => 0 | 105 => 220 | 21 => 21 | 5 => 5 | 46 => 103 | 119 => 224 | 139 => 227 | 138 => 226 | 146 => 217 | 51 => 128 | n => n, fun | 1 => 1 | 3 => 5 | 4 => 6 | n => n⟩
theorem Tryz.lays146 : Go.Proofs.Lays.n146 Tryz.prog Tryz.lays146_ren := {
  mixed := by kernel_rfl
  f138 := Tryz.func240.trans (congrArg some (by kernel_rfl))
  f143 := Tryz.func241.trans (congrArg some (by kernel_rfl))
  f146 := Tryz.func203.trans (congrArg some (by kernel_rfl))
  f195 := Tryz.func246.trans (congrArg some (by kernel_rfl))
  f197 := Tryz.func242.trans (congrArg some (by kernel_rfl))
  f217 := Tryz.func196.trans (congrArg some (by kernel_rfl))
  f218 := Tryz.func247.trans (congrArg some (by kernel_rfl))
  f219 := Tryz.func197.trans (congrArg some (by kernel_rfl))
  f221 := Tryz.func227.trans (congrArg some (by kernel_rfl))
  f224 := Tryz.func221.trans (congrArg some (by kernel_rfl))
  f225 := Tryz.func222.trans (congrArg some (by kernel_rfl))
  f260 := Tryz.func248.trans (congrArg some (by kernel_rfl))
  f266 := Tryz.func223.trans (congrArg some (by kernel_rfl))
  f267 := Tryz.func224.trans (congrArg some (by kernel_rfl))
  f268 := Tryz.func239.trans (congrArg some (by kernel_rfl))
  f314 := Tryz.func238.trans (congrArg some (by kernel_rfl))
  t0 := Tryz.underlying0
  a0 := Tryz.isAgg0
  z0 := Tryz.sizeOf0
  v0 := Tryz.zeroValue0
  t3 := Tryz.underlying3
  a3 := Tryz.isAgg3
  z3 := Tryz.sizeOf3
  v3 := Tryz.zeroValue3
  t4 := Tryz.underlying4
  a4 := Tryz.isAgg4
  z4 := Tryz.sizeOf4
  v4 := Tryz.zeroValue4
  t5 := Tryz.underlying5
  a5 := Tryz.isAgg5
  z5 := Tryz.sizeOf5
  v5 := Tryz.zeroValue5
  t9 := Tryz.underlying9
  a9 := Tryz.isAgg9
  z9 := Tryz.sizeOf9
  v9 := Tryz.zeroValue9
  t21 := Tryz.underlying21
  a21 := Tryz.isAgg21
  z21 := Tryz.sizeOf21
  v21 := Tryz.zeroValue21
  t31 := Tryz.underlying64
  a31 := Tryz.isAgg64
  z31 := Tryz.sizeOf64
  v31 := Tryz.zeroValue64
  t46 := Tryz.underlying103
  a46 := Tryz.isAgg103
  z46 := Tryz.sizeOf103
  v46 := Tryz.zeroValue103
  t51 := Tryz.underlying128
  a51 := Tryz.isAgg128
  z51 := Tryz.sizeOf128
  v51 := Tryz.zeroValue128
  t105 := Tryz.underlying220
  a105 := Tryz.isAgg220
  z105 := Tryz.sizeOf220
  v105 := Tryz.zeroValue220
  t119 := Tryz.underlying224
  a119 := Tryz.isAgg224
  z119 := Tryz.sizeOf224
  t138 := Tryz.underlying226
  a138 := Tryz.isAgg226
  z138 := Tryz.sizeOf226
  v138 := Tryz.zeroValue226
  t139 := Tryz.underlying227
  a139 := Tryz.isAgg227
  z139 := Tryz.sizeOf227
  v139 := Tryz.zeroValue227
  t146 := Tryz.underlying217
  a146 := Tryz.isAgg217
  z146 := Tryz.sizeOf217
  v146 := Tryz.zeroValue217
  g1 := by kernel_rfl
  g3 := by kernel_rfl
  g4 := by kernel_rfl }
open Go.RowKit Go.Lib in
theorem Tryz.strings_Split (s sep : ByteArray) (m : Int) (w : World) (hs : s.size < 4294967281) (hm : w.cell? ⟨1, 0, none⟩ = some (.int .i64 m)) (h1 : 1 ≤ sep.size) :
    Calls Tryz.prog 203 #[.string s, .string sep] w fun e w' =>
      e = .returned (.slice (some ⟨w.heap.size, 0, none⟩) (Lib.countB s sep + 1) (Lib.countB s sep + 1)) ∧ w' = w.alloc (.cells ((Lib.splitB sep 0 (Lib.countB s sep) s).map Value.string).toArray 9) := Any.strings_Split Tryz.lays146 (by kernel_rfl) s sep m w hs hm h1
def Tryz.lays155_ren : Go.Shelf.Ren := ⟨fun | 155 => 204 | 154 => 228 | 138 => 240 | 165 => 182 | 143 => 241 | 166 => 156 | 197 => 242 | 169 => 157 | 195 => 246 | 218 => 247 | 240 => 184 | 241 => 206 | 219 => 197 | 260 => 248 | 276 => 211 | 277 => 229 | 217 => 196 | 225 => 222 | 224 => 221 | 267 => 224 | 266 => 223 | 314 => 238 | n => n, fun | 9 => 9 | 3 => 3 | 4 => 4 | 72 => 169 | 0 => 0 | 76 => 172 | 105 => 220 | 21 => 21 | 5 => 5 | 70 => 167 | 20 => 20 | 37 => 92 | 75 => 171 | 127 => 186 | 164 => 203 | 46 => 103 | 119 => 224 | 139 => 227 | 138 => 226 | 146 => 217 | 51 => 128 | 80 => 116 | n => n, fun | 1 => 1 | 3 => 5 | 4 => 6 | n => n⟩
theorem Tryz.lays155 : Go.Proofs.Lays.n155 Tryz.prog Tryz.lays155_ren := {
  mixed := by kernel_rfl
  f138 := Tryz.func240.trans (congrArg some (by kernel_rfl))
  f143 := Tryz.func241.trans (congrArg some (by kernel_rfl))
  f154 := Tryz.func228.trans (congrArg some (by kernel_rfl))
  f155 := Tryz.func204.trans (congrArg some (by kernel_rfl))
  f165 := Tryz.func182.trans (congrArg some (by kernel_rfl))
  f166 := Tryz.func156.trans (congrArg some (by kernel_rfl))
  f169 := Tryz.func157.trans (congrArg some (by kernel_rfl))
  f195 := Tryz.func246.trans (congrArg some (by kernel_rfl))
  f197 := Tryz.func242.trans (congrArg some (by kernel_rfl))
  f217 := Tryz.func196.trans (congrArg some (by kernel_rfl))
  f218 := Tryz.func247.trans (congrArg some (by kernel_rfl))
  f219 := Tryz.func197.trans (congrArg some (by kernel_rfl))
  f224 := Tryz.func221.trans (congrArg some (by kernel_rfl))
  f225 := Tryz.func222.trans (congrArg some (by kernel_rfl))
  f240 := Tryz.func184.trans (congrArg some (by kernel_rfl))
  f241 := Tryz.func206.trans (congrArg some (by kernel_rfl))
  f260 := Tryz.func248.trans (congrArg some (by kernel_rfl))
  f266 := Tryz.func223.trans (congrArg some (by kernel_rfl))
  f267 := Tryz.func224.trans (congrArg some (by kernel_rfl))
  f276 := Tryz.func211.trans (congrArg some (by kernel_rfl))
  f277 := Tryz.func229.trans (congrArg some (by kernel_rfl))
  f314 := Tryz.func238.trans (congrArg some (by kernel_rfl))
  t0 := Tryz.underlying0
  a0 := Tryz.isAgg0
  z0 := Tryz.sizeOf0
  v0 := Tryz.zeroValue0
  t3 := Tryz.underlying3
  a3 := Tryz.isAgg3
  z3 := Tryz.sizeOf3
  v3 := Tryz.zeroValue3
  t4 := Tryz.underlying4
  a4 := Tryz.isAgg4
  z4 := Tryz.sizeOf4
  v4 := Tryz.zeroValue4
  t5 := Tryz.underlying5
  a5 := Tryz.isAgg5
  z5 := Tryz.sizeOf5
  v5 := Tryz.zeroValue5
  t9 := Tryz.underlying9
  a9 := Tryz.isAgg9
  z9 := Tryz.sizeOf9
  v9 := Tryz.zeroValue9
  t20 := Tryz.underlying20
  a20 := Tryz.isAgg20
  z20 := Tryz.sizeOf20
  v20 := Tryz.zeroValue20
  t21 := Tryz.underlying21
  a21 := Tryz.isAgg21
  z21 := Tryz.sizeOf21
  v21 := Tryz.zeroValue21
  t37 := Tryz.underlying92
  a37 := Tryz.isAgg92
  z37 := Tryz.sizeOf92
  v37 := Tryz.zeroValue92
  t46 := Tryz.underlying103
  a46 := Tryz.isAgg103
  z46 := Tryz.sizeOf103
  v46 := Tryz.zeroValue103
  t51 := Tryz.underlying128
  a51 := Tryz.isAgg128
  z51 := Tryz.sizeOf128
  v51 := Tryz.zeroValue128
  t70 := Tryz.underlying167
  a70 := Tryz.isAgg167
  z70 := Tryz.sizeOf167
  v70 := Tryz.zeroValue167
  t72 := Tryz.underlying169
  a72 := Tryz.isAgg169
  z72 := Tryz.sizeOf169
  v72 := Tryz.zeroValue169
  t75 := Tryz.underlying171
  a75 := Tryz.isAgg171
  z75 := Tryz.sizeOf171
  v75 := Tryz.zeroValue171
  t76 := Tryz.underlying172
  a76 := Tryz.isAgg172
  z76 := Tryz.sizeOf172
  v76 := Tryz.zeroValue172
  t105 := Tryz.underlying220
  a105 := Tryz.isAgg220
  z105 := Tryz.sizeOf220
  v105 := Tryz.zeroValue220
  t119 := Tryz.underlying224
  a119 := Tryz.isAgg224
  z119 := Tryz.sizeOf224
  t127 := Tryz.underlying186
  a127 := Tryz.isAgg186
  z127 := Tryz.sizeOf186
  v127 := Tryz.zeroValue186
  t138 := Tryz.underlying226
  a138 := Tryz.isAgg226
  z138 := Tryz.sizeOf226
  v138 := Tryz.zeroValue226
  t139 := Tryz.underlying227
  a139 := Tryz.isAgg227
  z139 := Tryz.sizeOf227
  v139 := Tryz.zeroValue227
  t146 := Tryz.underlying217
  a146 := Tryz.isAgg217
  z146 := Tryz.sizeOf217
  v146 := Tryz.zeroValue217
  t164 := Tryz.underlying203
  a164 := Tryz.isAgg203
  z164 := Tryz.sizeOf203
  v164 := Tryz.zeroValue203
  g1 := by kernel_rfl
  g3 := by kernel_rfl
  g4 := by kernel_rfl }
theorem Tryz.Builder_Extra_155 : Builder.Extra Tryz.prog Tryz.lays155_ren := {
  sizeBuilder := by kernel_rfl
  liesBuilder := by kernel_rfl
  t5 := Tryz.underlying5
  a5 := Tryz.isAgg5
  z5 := Tryz.sizeOf5
  v5 := Tryz.zeroValue5
  infoByte := by kernel_rfl
  cellsByte := by kernel_rfl
  sizeByte := by kernel_rfl
  neB5 := by decide }
open Go.RowKit Go.Lib in
theorem Tryz.strings_ReplaceAll (s old new : ByteArray) (m : Int) (w : World) (hs : s.size < 4294967281) (hm : w.cell? ⟨1, 0, none⟩ = some (.int .i64 m)) (h1 : 1 ≤ old.size) (hlen : s.size + Lib.countB s old * new.size ≤ 140737488355328) :
    Calls Tryz.prog 204 #[.string s, .string old, .string new] w fun e w' =>
      e = .returned (.string ⟨(Lib.replaceAll s.data.toList old.data.toList new.data.toList).toArray⟩) ∧ Below w.heap.size w w' := Any.strings_ReplaceAll Tryz.lays155 Tryz.Builder_Extra_155 s old new m w hs hm h1 hlen
def Tryz.lays153_ren : Go.Shelf.Ren := ⟨fun | 153 => 171 | 152 => 192 | 226 => 193 | 227 => 194 | 228 => 195 | 137 => 172 | 119 => 220 | 224 => 221 | 225 => 222 | 217 => 196 | 266 => 223 | n => n, fun | 9 => 9 | 3 => 3 | 4 => 4 | 5 => 5 | 21 => 21 | 117 => 192 | 116 => 191 | 0 => 0 | 46 => 103 | 124 => 209 | n => n, fun | n => n⟩
theorem Tryz.lays153 : Go.Proofs.Lays.n153 Tryz.prog Tryz.lays153_ren := {
  mixed := by kernel_rfl
  f119 := Tryz.func220.trans (congrArg some (by kernel_rfl))
  f137 := Tryz.func172.trans (congrArg some (by kernel_rfl))
  f152 := Tryz.func192.trans (congrArg some (by kernel_rfl))
  f153 := Tryz.func171.trans (congrArg some (by kernel_rfl))
  f217 := Tryz.func196.trans (congrArg some (by kernel_rfl))
  f224 := Tryz.func221.trans (congrArg some (by kernel_rfl))
  f225 := Tryz.func222.trans (congrArg some (by kernel_rfl))
  f226 := Tryz.func193.trans (congrArg some (by kernel_rfl))
  f227 := Tryz.func194.trans (congrArg some (by kernel_rfl))
  f228 := Tryz.func195.trans (congrArg some (by kernel_rfl))
  f266 := Tryz.func223.trans (congrArg some (by kernel_rfl))
  t0 := Tryz.underlying0
  a0 := Tryz.isAgg0
  z0 := Tryz.sizeOf0
  v0 := Tryz.zeroValue0
  t3 := Tryz.underlying3
  a3 := Tryz.isAgg3
  z3 := Tryz.sizeOf3
  v3 := Tryz.zeroValue3
  t4 := Tryz.underlying4
  a4 := Tryz.isAgg4
  z4 := Tryz.sizeOf4
  v4 := Tryz.zeroValue4
  t5 := Tryz.underlying5
  a5 := Tryz.isAgg5
  z5 := Tryz.sizeOf5
  v5 := Tryz.zeroValue5
  t9 := Tryz.underlying9
  a9 := Tryz.isAgg9
  z9 := Tryz.sizeOf9
  v9 := Tryz.zeroValue9
  t21 := Tryz.underlying21
  a21 := Tryz.isAgg21
  z21 := Tryz.sizeOf21
  v21 := Tryz.zeroValue21
  t46 := Tryz.underlying103
  a46 := Tryz.isAgg103
  z46 := Tryz.sizeOf103
  v46 := Tryz.zeroValue103
  t116 := Tryz.underlying191
  a116 := Tryz.isAgg191
  z116 := Tryz.sizeOf191
  t117 := Tryz.underlying192
  a117 := Tryz.isAgg192
  z117 := Tryz.sizeOf192
  v117 := Tryz.zeroValue192
  t124 := Tryz.underlying209
  a124 := Tryz.isAgg209
  z124 := Tryz.sizeOf209
  v124 := Tryz.zeroValue209 }
def Tryz.laysNm220_ren : Go.Shelf.Ren := ⟨fun | 20 => 57 | n => n, fun | 22 => 49 | 3 => 3 | 4 => 4 | 0 => 0 | n => n, fun | n => n⟩
theorem Tryz.laysNm220 : Go.Proofs.Lays2.n20 Tryz.prog Tryz.laysNm220_ren := {
  mixed := by kernel_rfl
  f20 := Tryz.func57.trans (congrArg some (by kernel_rfl))
  t0 := Tryz.underlying0
  a0 := Tryz.isAgg0
  z0 := Tryz.sizeOf0
  v0 := Tryz.zeroValue0
  t3 := Tryz.underlying3
  a3 := Tryz.isAgg3
  z3 := Tryz.sizeOf3
  v3 := Tryz.zeroValue3
  t4 := Tryz.underlying4
  a4 := Tryz.isAgg4
  z4 := Tryz.sizeOf4
  v4 := Tryz.zeroValue4
  t22 := Tryz.underlying49
  a22 := Tryz.isAgg49
  z22 := Tryz.sizeOf49
  v22 := Tryz.zeroValue49
  i3 := by kernel_rfl }
open Go.RowKit Go.Lib Go.Sort in
theorem Tryz.slices_Compact_int (blk off cap : Nat) (zs : List Int) (w : World) (hH : Holds (Value.int .i64) w blk off zs.toArray) (hsz : zs.length ≤ 9223372036854775807) (hcap : zs.length ≤ cap) :
    Calls Tryz.prog 57 #[.slice (some ⟨blk, off, none⟩) zs.length cap] w fun e w' => e = .returned (.slice (some ⟨blk, off, none⟩) (Lib.compact zs).length cap) ∧ ∃ q, w' = putRow (Value.int .i64) (Sort.ahead w q) blk off (Lib.compact zs ++ List.replicate (zs.length - (Lib.compact zs).length) 0).toArray := Any.slices_Compact_int Tryz.laysNm220 blk off cap zs w hH hsz hcap
open Go.RowKit Go.Lib Go.Sort in
theorem Tryz.slices_Compact_int_empty (a : Option Addr) (cap : Nat) (w : World) :
    Calls Tryz.prog 57 #[.slice a 0 cap] w fun e w' => e = .returned (.slice a 0 cap) ∧ w' = w := Any.slices_Compact_int_empty Tryz.laysNm220 a cap w
open Go.RowKit Go.Sort in
theorem Tryz.slices_Sort_int_none (p : Option Addr) (cap : Nat) (w : World) :
    Calls Tryz.prog 55 #[.slice p 0 cap] w fun e w' => e = .returned (.tuple #[]) ∧ w' = w := Any.slices_Sort_int_none Tryz.lays189 p cap w
end Go.Proofs
end
section
namespace Go.Gx
open Go.Proofs
open Go.RowKit
theorem later_below {w w' : World} (h : Below w.heap.size w w') : Later w w' := ⟨fun b hb => h.block b hb, h.size, h.os, h.tape, h.output⟩
theorem later_drewN (w : World) (n : Nat) : Later w (w.drewN n) := ⟨fun _ _ => rfl, Nat.le_refl _, rfl, rfl, rfl⟩
theorem ias1 {St : Snap} {a : AV} {vs : List Value} (h : RepIAs St [a] vs) : ∃ x, vs = [x] ∧ RepIA St a x := by
  obtain ⟨hl, h⟩ := h
  match vs, hl with
  | [x], _ =>
    obtain ⟨v, hv, hr⟩ := h 0 a rfl
    simp at hv; subst hv
    exact ⟨_, rfl, hr⟩
theorem ias2 {St : Snap} {a b : AV} {vs : List Value} (h : RepIAs St [a, b] vs) : ∃ x y, vs = [x, y] ∧ RepIA St a x ∧ RepIA St b y := by
  obtain ⟨hl, h⟩ := h
  match vs, hl with
  | [x, y], _ =>
    obtain ⟨v, hv, hr⟩ := h 0 a rfl
    obtain ⟨u, hu, hs⟩ := h 1 b rfl
    simp at hv hu; subst hv hu
    exact ⟨_, _, rfl, hr, hs⟩
theorem ias3 {St : Snap} {a b c : AV} {vs : List Value} (h : RepIAs St [a, b, c] vs) : ∃ x y z, vs = [x, y, z] ∧ RepIA St a x ∧ RepIA St b y ∧ RepIA St c z := by
  obtain ⟨hl, h⟩ := h
  match vs, hl with
  | [x, y, z], _ =>
    obtain ⟨v, hv, hr⟩ := h 0 a rfl
    obtain ⟨u, hu, hs⟩ := h 1 b rfl
    obtain ⟨t, ht, hk⟩ := h 2 c rfl
    simp at hv hu ht; subst hv hu ht
    exact ⟨_, _, _, rfl, hr, hs, hk⟩
theorem ia_str {St : Snap} {s : Str} {v : Value} (h : RepIA St (tStr.enc s) v) : v = .string ⟨s.toArray⟩ ∧ Fit s.length := by
  obtain ⟨c, hc, h⟩ := h
  injection hc with hc _; subst hc
  cases h with | str h => exact ⟨rfl, h⟩
theorem ia_int {St : Snap} {n : Int} {v : Value} (h : RepIA St (tInt.enc n) v) : v = .int .i64 n ∧ R64 n := by
  obtain ⟨c, hc, h⟩ := h
  injection hc with hc _; subst hc
  cases h with | int h => exact ⟨rfl, R64_of_InR h⟩
theorem ia_byte {St : Snap} {n : UInt8} {v : Value} (h : RepIA St (tByte.enc n) v) : v = .int .u8 n.toNat := by
  obtain ⟨c, hc, h⟩ := h
  injection hc with hc _; subst hc
  cases h with | int h => rfl
theorem oa_str {w : World} {s : Str} (h : Fit s.length) : RepOA w (tStr.enc s) (.string ⟨s.toArray⟩) (fun _ => False) := ⟨_, rfl, .str h⟩
theorem oa_int {w : World} {n : Int} (h : R64 n) : RepOA w (tInt.enc n) (.int .i64 n) (fun _ => False) := ⟨_, rfl, .int (InR_of_R64 h)⟩
theorem oa_bool {w : World} {b : Bool} : RepOA w (tBool.enc b) (.bool b) (fun _ => False) := ⟨_, rfl, .bool⟩
theorem str_size (s : Str) : (⟨s.toArray⟩ : ByteArray).size = s.length := by simp [ByteArray.size]
theorem maxLen_cell {w : World} (hG : GOk Gl (heapS w)) : ∃ m, w.cell? ⟨1, 0, none⟩ = some (.int .i64 m) := by
  obtain ⟨cur, T, fr, h1, _, h2⟩ := hG 1 (by simp [GlobOk, Env.glob, Gl, look])
  obtain ⟨x, hx, hr⟩ := h2 0 (.ex fun v => ∃ m, v = .int .i64 m) rfl
  cases hr with
  | ex h _ =>
    obtain ⟨m, rfl⟩ := h
    have h1 : w.heap[1]? = some (.cells cur T fr) := h1
    exact ⟨m, by simp [World.cell?, h1, hx]⟩
theorem atAny_cons (any : Str) (c : UInt8) (r : Str) : atAny any (c :: r) = if c ∈ any then 0 else atAny any r + 1 := rfl
theorem indexByte_at (c : UInt8) : ∀ s : Str, Lib.indexByte s c = if atAny [c] s < s.length then (atAny [c] s : Int) else -1
  | [] => rfl
  | b :: l => by
    have ih := indexByte_at c l
    have hle := atAny_le [c] l
    have hu : Lib.indexByte (b :: l) c = if b == c then 0 else if Lib.indexByte l c == -1 then -1 else Lib.indexByte l c + 1 := rfl
    rw [hu, atAny_cons]
    by_cases h : b = c
    · subst h; simp
    · have hb : (b == c) = false := by simpa using h
      rw [hb, ih]
      simp only [List.mem_singleton, h, if_false, List.length_cons, Bool.false_eq_true]
      by_cases h2 : atAny [c] l < l.length
      · have : (((atAny [c] l : Nat) : Int) == -1) = false := by simp
        rw [if_pos h2, if_pos (show atAny [c] l + 1 < l.length + 1 by omega), this]; simp
      · rw [if_neg h2, if_neg (show ¬ atAny [c] l + 1 < l.length + 1 by omega)]; rfl
def ct172 : Ct := .scal (dom2 tStr tByte fun _ _ => True) (fn2 tStr tByte fun s c => [tInt.enc (if atAny [c] s < s.length then (atAny [c] s : Int) else -1)])
attribute [go_sem] ct172
theorem ok172 : CtOk Tryz.prog Gl 172 ct172 := fun w cs vs hG ha hd => by
  obtain ⟨s, c, rfl, _⟩ := dom2_inv hd
  obtain ⟨x, y, rfl, h1, h2⟩ := ias2 ha
  obtain ⟨rfl, hf⟩ := ia_str h1
  obtain rfl := ia_byte h2
  refine ⟨⟨_, _, Tryz.func172, rfl, by kernel_rfl⟩, (Tryz.strings_IndexByte ⟨s.toArray⟩ c.toNat w).mono ?_⟩
  rintro e w' ⟨rfl, rfl⟩
  refine ⟨_, rfl, Later.refl _, fun _ => False, ?_, fun _ h => h.elim⟩
  simp only [fn2, Ty.de]
  have e1 : Nat.toUInt8 ((c.toNat : Int)).toNat = c := by simp
  rw [e1, indexByte_at]
  have hle := atAny_le [c] s
  refine oa_int ?_
  split <;> omega
theorem index1 (b : UInt8) (s : Str) : Lib.index s [b] = if atAny [b] s < s.length then (atAny [b] s : Int) else -1 := by
  rw [Lib.index_one, indexByte_at]
theorem RepOAs.weaken {w : World} {cs : RV} {vs : List Value} {fp fp' : Nat → Prop} (h : RepOAs w cs vs fp) (hf : ∀ x, fp x → fp' x) : RepOAs w cs vs fp' := by
  obtain ⟨h1, f, h2, h3, h4⟩ := h
  exact ⟨h1, f, h2, h3, fun k x hk hx => hf x (h4 k x hk hx)⟩
theorem oas2 {w : World} {a b : AV} {x y : Value} (h1 : RepOA w a x (fun _ => False)) (h2 : RepOA w b y (fun _ => False)) : RepOAs w [a, b] [x, y] (fun _ => False) :=
  RepOAs.weaken (RepOAs.cons h1 (RepOAs.cons h2 (.nil (fp := fun _ => False)) fun _ h => h.elim) fun _ h => h.elim) fun _ h => by simp at h
theorem oas3 {w : World} {a b c : AV} {x y z : Value} (h1 : RepOA w a x (fun _ => False)) (h2 : RepOA w b y (fun _ => False)) (h3 : RepOA w c z (fun _ => False)) : RepOAs w [a, b, c] [x, y, z] (fun _ => False) :=
  RepOAs.weaken (RepOAs.cons h1 (oas2 h2 h3) fun _ h => h.elim) fun _ h => by simp at h
theorem splitG_at (b : UInt8) : ∀ s cur : Str, splitG b cur s = if atAny [b] s < s.length then (cur ++ s.take (atAny [b] s)) :: splitB b (s.drop (atAny [b] s + 1)) else [cur ++ s]
  | [], cur => by simp [splitG]
  | c :: r, cur => by
    have ih := splitG_at b r
    rw [splitG, atAny_cons]
    by_cases h : c = b
    · subst h; simp [splitB]
    · simp only [List.mem_singleton, h, if_false, List.length_cons, ih, Nat.add_lt_add_iff_right]
      split <;> simp
theorem splitB_at (b : UInt8) (s : Str) : splitB b s = if atAny [b] s < s.length then s.take (atAny [b] s) :: splitB b (s.drop (atAny [b] s + 1)) else [s] := by
  rw [splitB, splitG_at]; simp
theorem splitK_eq (b : UInt8) : ∀ (k : Nat) (s : Str), Lib.count s [b] = k → Lib.splitK [b] 0 k s = splitB b s
  | 0, s, h => by
    rw [splitB_at]
    have hi := index1 b s
    split
    · rename_i h2
      rw [if_pos h2] at hi
      rw [Lib.count_hit (by simp) hi] at h; omega
    · rfl
  | k + 1, s, h => by
    have hi := index1 b s
    rw [splitB_at, Lib.splitK]
    split at hi
    · rename_i h2
      rw [Lib.count_hit (by simp) hi] at h
      have e : ((atAny [b] s : Nat) : Int).toNat = atAny [b] s := by simp
      have e2 : (((atAny [b] s : Nat) : Int) == -1) = false := by simp
      rw [hi, e2, if_pos h2, e]
      simp only [Bool.false_eq_true, if_false, Nat.add_zero, List.length_singleton] at h ⊢
      rw [splitK_eq b k _ (by omega)]
    · rename_i h2
      rw [Lib.count_miss hi] at h; omega
theorem row_strs (w : World) (xs : List ByteArray) (T : Nat) (hl : Fit xs.length) (he : ∀ x ∈ xs, Fit x.data.toList.length) :
    RepO (w.alloc (.cells (xs.map Value.string).toArray T)) (.sl 1 ((xs.map (·.data.toList)).map rStr.enc)) (.slice (some ⟨w.heap.size, 0, none⟩) xs.length xs.length) (fun x => x = w.heap.size) := by
  have hb : (w.alloc (.cells (xs.map Value.string).toArray T)).heap[w.heap.size]? = some (.cells (xs.map Value.string).toArray T (0, 0)) := by simp only [World.alloc]; simp
  have hlen : ((xs.map (·.data.toList)).map rStr.enc).length = xs.length := by simp
  have hg : ∀ i, (h : i < xs.length) → ((xs.map (·.data.toList)).map rStr.enc).getD i [] = [.str xs[i].data.toList] := fun i h => by
    rw [List.getD_eq_getElem?_getD, List.getElem?_eq_getElem (by simpa using h)]; simp [rStr]
  have key := RepO.sl (w := w.alloc (.cells (xs.map Value.string).toArray T)) (sz := 1) (es := (xs.map (·.data.toList)).map rStr.enc) (b := w.heap.size) (o := 0) (c := xs.length) (fun i _ => .string (xs.getD i ByteArray.empty)) (fun _ _ _ => False)
    (by rw [hlen]; exact hl) (fun i hi => by rw [hg i (by omega)]; rfl) hb (by rw [hlen]; exact Nat.le_refl _) (by simp) (fun x _ _ => by omega)
    (fun i j hi hj => by
      rw [hlen] at hi
      obtain rfl : j = 0 := by omega
      simp [hi])
    (fun i j hi hj => by
      rw [hlen] at hi
      obtain rfl : j = 0 := by omega
      unfold getC
      rw [hg i hi, getD_lt hi]
      have := RepO.str (w := w.alloc (.cells (xs.map Value.string).toArray T)) (l := xs[i].data.toList) (he _ (List.getElem_mem hi))
      simpa using this)
    (fun _ _ _ _ h => h) (fun _ _ _ _ _ _ _ _ _ h => h.elim)
  have e2 : (fun x => x = w.heap.size ∨ ∃ i j : Nat, i < ((xs.map (·.data.toList)).map rStr.enc).length ∧ j < 1 ∧ False) = (fun x => x = w.heap.size) := by funext x; simp
  rw [e2, hlen] at key
  exact key
def ct203 : Ct := .pure (dom2 tStr tStr fun s p => s.length ≤ 1073741824 ∧ p.length = 1) (fn2 tStr tStr fun s p => [tStrs.enc (splitB (p.headD 0) s)])
attribute [go_sem] ct203
theorem ok203 : CtOk Tryz.prog Gl 203 ct203 := fun w cs vs hG ha hd => by
  obtain ⟨s, p, rfl, hs, hp1⟩ := dom2_inv hd
  obtain ⟨b, rfl⟩ := List.length_eq_one_iff.1 hp1
  obtain ⟨x, y, rfl, h1, h2⟩ := ias2 ha
  obtain ⟨rfl, hf⟩ := ia_str h1
  obtain ⟨rfl, _⟩ := ia_str h2
  obtain ⟨m, hm⟩ := maxLen_cell hG
  refine ⟨⟨_, _, Tryz.func203, rfl, by kernel_rfl⟩, (Tryz.strings_Split ⟨s.toArray⟩ ⟨[b].toArray⟩ m w (by rw [str_size]; omega) hm (by simp [ByteArray.size])).mono ?_⟩
  have hc : Lib.splitB ⟨[b].toArray⟩ 0 (Lib.countB ⟨s.toArray⟩ ⟨[b].toArray⟩) ⟨s.toArray⟩ = Lib.splitB ⟨[b].toArray⟩ 0 (Lib.countB ⟨s.toArray⟩ ⟨[b].toArray⟩) ⟨s.toArray⟩ := rfl
  have hmap := Lib.splitB_data ⟨[b].toArray⟩ 0 (Lib.countB ⟨s.toArray⟩ ⟨[b].toArray⟩) ⟨s.toArray⟩
  have hk := splitK_eq b (Lib.countB ⟨s.toArray⟩ ⟨[b].toArray⟩) s rfl
  have hlen := Lib.splitB_all ⟨[b].toArray⟩ (by simp [ByteArray.size]) 0 (Lib.countB ⟨s.toArray⟩ ⟨[b].toArray⟩) ⟨s.toArray⟩ rfl
  generalize Lib.splitB ⟨[b].toArray⟩ 0 (Lib.countB ⟨s.toArray⟩ ⟨[b].toArray⟩) ⟨s.toArray⟩ = xs at hmap hlen ⊢
  have hmap : xs.map (·.data.toList) = splitB b s := by rw [hmap]; exact hk
  rw [← hlen]
  rintro e w' ⟨rfl, rfl⟩
  have h3 := splitG_len b s []
  have h4 := splitG_el b s []
  refine ⟨_, rfl, Later.alloc _ _, fun x => x = w.heap.size, ?_, fun x h => by subst h; simp [World.size_alloc]⟩
  simp only [fn2, Ty.de, List.headD_cons]
  refine ⟨_, rfl, ?_⟩
  rw [← hmap]
  have hxl : xs.length = (splitB b s).length := by rw [← hmap]; simp
  refine row_strs w xs _ (by rw [hxl]; simp only [splitB]; omega) fun x hx => ?_
  have : x.data.toList ∈ splitB b s := by rw [← hmap]; exact List.mem_map.2 ⟨x, hx, rfl⟩
  have := h4 _ this
  simp only [List.length_nil] at this; omega
def ct149 : Ct := .scal (dom2 tStr tStr fun s p => s.length ≤ 1073741824 ∧ p.length = 1) (fn2 tStr tStr fun s p => let k := atAny [p.headD 0] s; [tStr.enc (s.take k), tStr.enc (s.drop (k + 1)), tBool.enc (decide (k < s.length))])
attribute [go_sem] ct149
theorem ok149 : CtOk Tryz.prog Gl 149 ct149 := fun w cs vs hG ha hd => by
  obtain ⟨s, p, rfl, hs, hp1⟩ := dom2_inv hd
  obtain ⟨b, rfl⟩ := List.length_eq_one_iff.1 hp1
  obtain ⟨x, y, rfl, h1, h2⟩ := ias2 ha
  obtain ⟨rfl, hf⟩ := ia_str h1
  obtain ⟨rfl, _⟩ := ia_str h2
  obtain ⟨m, hm⟩ := maxLen_cell hG
  refine ⟨⟨_, _, Tryz.func149, rfl, by kernel_rfl⟩, (Tryz.strings_Cut ⟨s.toArray⟩ ⟨[b].toArray⟩ m w (by rw [str_size]; omega) hm).mono ?_⟩
  rintro e w' ⟨rfl, n, rfl⟩
  refine ⟨_, rfl, later_drewN _ _, fun _ => False, ?_, fun _ h => h.elim⟩
  simp only [fn2, Ty.de, List.headD_cons]
  have hle := atAny_le [b] s
  have hcut : Lib.cut s [b] = (s.take (atAny [b] s), s.drop (atAny [b] s + 1), decide (atAny [b] s < s.length)) := by
    unfold Lib.cut
    rw [index1]
    split
    · rename_i h; simp [h]
    · rename_i h
      have : atAny [b] s = s.length := by omega
      simp only [h, if_false]
      rw [this]; simp
  refine ⟨[_, _, _], rfl, ?_⟩
  simp only [hcut]
  exact oas3 (oa_str (by simp; omega)) (oa_str (by simp; omega)) oa_bool
def ct200 : Ct := .scal (dom2 tStr tStr fun _ _ => True) (fn2 tStr tStr fun s p => [tBool.enc (p.isPrefixOf s)])
attribute [go_sem] ct200
theorem ok200 : CtOk Tryz.prog Gl 200 ct200 := fun w cs vs hG ha hd => by
  obtain ⟨s, c, rfl, _⟩ := dom2_inv hd
  obtain ⟨x, y, rfl, h1, h2⟩ := ias2 ha
  obtain ⟨rfl, hf⟩ := ia_str h1
  obtain ⟨rfl, _⟩ := ia_str h2
  refine ⟨⟨_, _, Tryz.func200, rfl, by kernel_rfl⟩, (Tryz.strings_HasPrefix ⟨s.toArray⟩ ⟨c.toArray⟩ w).mono ?_⟩
  rintro e w' ⟨rfl, rfl⟩
  exact ⟨_, rfl, Later.refl _, fun _ => False, oa_bool, fun _ h => h.elim⟩
theorem lastF_snoc (b : UInt8) : ∀ (s : Str) (i : Nat) (p : Int) (c : UInt8), lastF b i p (s ++ [c]) = if c = b then ((i + s.length : Nat) : Int) else lastF b i p s
  | [], i, p, c => by simp [lastF]
  | x :: s, i, p, c => by
    rw [List.cons_append, lastF, lastF_snoc b s (i + 1), lastF]
    simp only [List.length_cons]
    split <;> simp; omega
theorem lastIdx_eq (s : Str) (c : UInt8) : ∀ k, k ≤ s.length → Lib.lastIdx ⟨s.toArray⟩ c.toNat k = lastF c 0 (-1) (s.take k)
  | 0, _ => by simp [Lib.lastIdx, lastF]
  | k + 1, h => by
    have hlt : k < s.length := by omega
    rw [Lib.lastIdx, lastIdx_eq s c k (by omega), take_snoc hlt, lastF_snoc]
    have e : (⟨s.toArray⟩ : ByteArray).data[k]! = s[k] := by simp [hlt]
    rw [e]
    have e2 : (((s[k].toNat : Nat) : Int) = (c.toNat : Int)) ↔ s[k] = c := by rw [Int.ofNat_inj, UInt8.toNat_inj]
    simp only [e2]
    congr 1
    simp; omega
def ct148 : Ct := .scal (dom2 tStr tByte fun _ _ => True) (fn2 tStr tByte fun s c => [tInt.enc (lastF c 0 (-1) s)])
attribute [go_sem] ct148
theorem ok148 : CtOk Tryz.prog Gl 148 ct148 := fun w cs vs hG ha hd => by
  obtain ⟨s, c, rfl, _⟩ := dom2_inv hd
  obtain ⟨x, y, rfl, h1, h2⟩ := ias2 ha
  obtain ⟨rfl, hf⟩ := ia_str h1
  obtain rfl := ia_byte h2
  refine ⟨⟨_, _, Tryz.func148, rfl, by kernel_rfl⟩, (Tryz.strings_LastIndexByte ⟨s.toArray⟩ c.toNat (by rw [str_size]; omega) w).mono ?_⟩
  rintro e w' ⟨rfl, rfl⟩
  refine ⟨_, rfl, Later.refl _, fun _ => False, ?_, fun _ h => h.elim⟩
  simp only [fn2, Ty.de]
  have h3 := lastF_rng c s 0 (-1) (by omega) (by omega)
  have e : Lib.lastIndexByte ⟨s.toArray⟩ c.toNat = lastF c 0 (-1) s := by
    have := lastIdx_eq s c s.length (Nat.le_refl _)
    rw [List.take_length] at this
    rw [← this]
    simp [Lib.lastIndexByte, ByteArray.size]
  rw [e]
  refine oa_int ?_
  omega
end Go.Gx
end
section
namespace Go.Gx
open Go.Proofs
structure Entry where
  Step : Int
  Url : Url
  Doc : Int
  Key : Int
  State : Str
  deriving DecidableEq, Inhabited
def Entry.cv (u : Entry) : List CV := [.int .i64 u.Step, .str u.Url.Scheme, .str u.Url.User, .str u.Url.Pass, .int .i64 u.Url.Host.Kind, .str u.Url.Host.Name, .int .i64 u.Url.Host.Addr, .int .i64 u.Url.Port, .sl 1 (u.Url.Path.map rStr.enc), .str u.Url.Opaque, .bool u.Url.HasQuery, .str u.Url.Query, .bool u.Url.HasFrag, .str u.Url.Frag, .int .i64 u.Doc, .int .i64 u.Key, .str u.State]
def Entry.de (c : List CV) : Entry := match c with
  | [.int _ x0, .str x1, .str x2, .str x3, .int _ x4, .str x5, .int _ x6, .int _ x7, .sl _ x8, .str x9, .bool x10, .str x11, .bool x12, .str x13, .int _ x14, .int _ x15, .str x16] => ⟨x0, ⟨x1, x2, x3, ⟨x4, x5, x6⟩, x7, x8.map rStr.dec, x9, x10, x11, x12, x13⟩, x14, x15, x16⟩
  | _ => default
def Entry.sh (c : List CV) : Prop := match c with
  | [.int .i64 _, .str _, .str _, .str _, .int .i64 _, .str _, .int .i64 _, .int .i64 _, .sl zx8 ex8, .str _, .bool _, .str _, .bool _, .str _, .int .i64 _, .int .i64 _, .str _] => zx8 = 1 ∧ (∃ l : List Str, ex8 = l.map rStr.enc)
  | _ => False
theorem Entry.sh_eq {c : List CV} (h : Entry.sh c) : c = (Entry.de c).cv := by
  unfold Entry.sh at h; split at h
  · obtain ⟨rfl, ⟨lx8, rfl⟩⟩ := h
    simp only [Entry.de, Entry.cv, Rw.map_dec]
  · exact h.elim
theorem Entry.de_cv (u : Entry) : Entry.de u.cv = u := by simp only [Entry.de, Entry.cv, Rw.map_dec]
def tEntry : Ty Entry where
  enc u := (true, u.cv)
  dec v := Entry.de v.2
  ok v := v.1 = true ∧ Entry.sh v.2
  law v h := by obtain ⟨b, c⟩ := v; obtain ⟨rfl, h⟩ := h; simp only; rw [← Entry.sh_eq h]
  de u := Entry.de_cv u
def rEntry : Rw Entry := ⟨17, Entry.cv, Entry.de, Entry.de_cv⟩
def tEntryS : Ty (List Entry) := tList rEntry
theorem tEntry_enc {u : Entry} : tEntry.enc u = (true, [.int .i64 u.Step, .str u.Url.Scheme, .str u.Url.User, .str u.Url.Pass, .int .i64 u.Url.Host.Kind, .str u.Url.Host.Name, .int .i64 u.Url.Host.Addr, .int .i64 u.Url.Port, .sl 1 (u.Url.Path.map rStr.enc), .str u.Url.Opaque, .bool u.Url.HasQuery, .str u.Url.Query, .bool u.Url.HasFrag, .str u.Url.Frag, .int .i64 u.Doc, .int .i64 u.Key, .str u.State]) := rfl
theorem tEntry_dec {b : Bool} {x0 : Int} {x1 : Str} {x2 : Str} {x3 : Str} {x4 : Int} {x5 : Str} {x6 : Int} {x7 : Int} {x8 : List (List CV)} {x9 : Str} {x10 : Bool} {x11 : Str} {x12 : Bool} {x13 : Str} {x14 : Int} {x15 : Int} {x16 : Str} {kx0 : IntKind} {kx4 : IntKind} {kx6 : IntKind} {kx7 : IntKind} {kx14 : IntKind} {kx15 : IntKind} {zx8 : Nat} : tEntry.dec (b, [.int kx0 x0, .str x1, .str x2, .str x3, .int kx4 x4, .str x5, .int kx6 x6, .int kx7 x7, .sl zx8 x8, .str x9, .bool x10, .str x11, .bool x12, .str x13, .int kx14 x14, .int kx15 x15, .str x16]) = ⟨x0, ⟨x1, x2, x3, ⟨x4, x5, x6⟩, x7, x8.map rStr.dec, x9, x10, x11, x12, x13⟩, x14, x15, x16⟩ := rfl
theorem tEntry_ok {x0 : Int} {x1 : Str} {x2 : Str} {x3 : Str} {x4 : Int} {x5 : Str} {x6 : Int} {x7 : Int} {x8 : List (List CV)} {x9 : Str} {x10 : Bool} {x11 : Str} {x12 : Bool} {x13 : Str} {x14 : Int} {x15 : Int} {x16 : Str} {zx8 : Nat} : tEntry.ok (true, [.int .i64 x0, .str x1, .str x2, .str x3, .int .i64 x4, .str x5, .int .i64 x6, .int .i64 x7, .sl zx8 x8, .str x9, .bool x10, .str x11, .bool x12, .str x13, .int .i64 x14, .int .i64 x15, .str x16]) = (true = true ∧ zx8 = 1 ∧ (∃ l : List Str, x8 = l.map rStr.enc)) := rfl
theorem rEntry_enc {u : Entry} : rEntry.enc u = [.int .i64 u.Step, .str u.Url.Scheme, .str u.Url.User, .str u.Url.Pass, .int .i64 u.Url.Host.Kind, .str u.Url.Host.Name, .int .i64 u.Url.Host.Addr, .int .i64 u.Url.Port, .sl 1 (u.Url.Path.map rStr.enc), .str u.Url.Opaque, .bool u.Url.HasQuery, .str u.Url.Query, .bool u.Url.HasFrag, .str u.Url.Frag, .int .i64 u.Doc, .int .i64 u.Key, .str u.State] := rfl
theorem Entry_eta (u : Entry) : (⟨u.Step, u.Url, u.Doc, u.Key, u.State⟩ : Entry) = u := rfl
theorem tEntryS_enc {l : List Entry} : tEntryS.enc l = (false, [.sl 17 (l.map rEntry.enc)]) := rfl
theorem tEntryS_dec {b : Bool} {n : Nat} {es : List (List CV)} : tEntryS.dec (b, [.sl n es]) = es.map rEntry.dec := rfl
theorem tEntryS_ok {n : Nat} {es : List (List CV)} : tEntryS.ok (false, [.sl n es]) = (n = 17 ∧ ∃ l : List Entry, es = l.map rEntry.enc) := rfl
attribute [go_sem] tEntryS_enc tEntryS_dec tEntryS_ok
theorem rEntry_sz : rEntry.sz = 17 := rfl
attribute [go_sem] rEntry_sz
attribute [go_sem] Entry_eta tEntry_enc tEntry_dec tEntry_ok
structure EntryFit (u : Entry) : Prop where
  Step : R64 u.Step
  Url_Scheme : Fit u.Url.Scheme.length
  Url_User : Fit u.Url.User.length
  Url_Pass : Fit u.Url.Pass.length
  Url_Host_Kind : R64 u.Url.Host.Kind
  Url_Host_Name : Fit u.Url.Host.Name.length
  Url_Host_Addr : R64 u.Url.Host.Addr
  Url_Port : R64 u.Url.Port
  Url_Path : Fit u.Url.Path.length ∧ ∀ s ∈ u.Url.Path, ∀ c ∈ rStr.enc s, ∀ d, fitD d c
  Url_Opaque : Fit u.Url.Opaque.length
  Url_HasQuery : True
  Url_Query : Fit u.Url.Query.length
  Url_HasFrag : True
  Url_Frag : Fit u.Url.Frag.length
  Doc : R64 u.Doc
  Key : R64 u.Key
  State : Fit u.State.length
theorem EntryFit_of {u : Entry} (f : ∀ c ∈ Entry.cv u, ∀ d, fitD d c) : EntryFit u where
  Step := f (.int .i64 u.Step) (by simp [Entry.cv]) 0
  Url_Scheme := f (.str u.Url.Scheme) (by simp [Entry.cv]) 0
  Url_User := f (.str u.Url.User) (by simp [Entry.cv]) 0
  Url_Pass := f (.str u.Url.Pass) (by simp [Entry.cv]) 0
  Url_Host_Kind := f (.int .i64 u.Url.Host.Kind) (by simp [Entry.cv]) 0
  Url_Host_Name := f (.str u.Url.Host.Name) (by simp [Entry.cv]) 0
  Url_Host_Addr := f (.int .i64 u.Url.Host.Addr) (by simp [Entry.cv]) 0
  Url_Port := f (.int .i64 u.Url.Port) (by simp [Entry.cv]) 0
  Url_Path := fit_sub (f (.sl 1 (u.Url.Path.map rStr.enc)) (by simp [Entry.cv]))
  Url_Opaque := f (.str u.Url.Opaque) (by simp [Entry.cv]) 0
  Url_HasQuery := trivial
  Url_Query := f (.str u.Url.Query) (by simp [Entry.cv]) 0
  Url_HasFrag := trivial
  Url_Frag := f (.str u.Url.Frag) (by simp [Entry.cv]) 0
  Doc := f (.int .i64 u.Doc) (by simp [Entry.cv]) 0
  Key := f (.int .i64 u.Key) (by simp [Entry.cv]) 0
  State := f (.str u.State) (by simp [Entry.cv]) 0
theorem fit_entry {u : Entry} (f : fitA (tEntry.enc u)) : EntryFit u := EntryFit_of f
structure Frame where
  Within : Int
  Name : Str
  Hist : List Entry
  Asks : Bool
  deriving DecidableEq, Inhabited
def Frame.cv (u : Frame) : List CV := [.int .i64 u.Within, .str u.Name, .sl 17 (u.Hist.map rEntry.enc), .bool u.Asks]
def Frame.de (c : List CV) : Frame := match c with
  | [.int _ x0, .str x1, .sl _ x2, .bool x3] => ⟨x0, x1, x2.map rEntry.dec, x3⟩
  | _ => default
def Frame.sh (c : List CV) : Prop := match c with
  | [.int .i64 _, .str _, .sl zx2 ex2, .bool _] => zx2 = 17 ∧ (∃ l : List Entry, ex2 = l.map rEntry.enc)
  | _ => False
theorem Frame.sh_eq {c : List CV} (h : Frame.sh c) : c = (Frame.de c).cv := by
  unfold Frame.sh at h; split at h
  · obtain ⟨rfl, ⟨lx2, rfl⟩⟩ := h
    simp only [Frame.de, Frame.cv, Rw.map_dec]
  · exact h.elim
theorem Frame.de_cv (u : Frame) : Frame.de u.cv = u := by simp only [Frame.de, Frame.cv, Rw.map_dec]
def tFrame : Ty Frame where
  enc u := (true, u.cv)
  dec v := Frame.de v.2
  ok v := v.1 = true ∧ Frame.sh v.2
  law v h := by obtain ⟨b, c⟩ := v; obtain ⟨rfl, h⟩ := h; simp only; rw [← Frame.sh_eq h]
  de u := Frame.de_cv u
def rFrame : Rw Frame := ⟨4, Frame.cv, Frame.de, Frame.de_cv⟩
def tFrameS : Ty (List Frame) := tList rFrame
theorem tFrame_enc {u : Frame} : tFrame.enc u = (true, [.int .i64 u.Within, .str u.Name, .sl 17 (u.Hist.map rEntry.enc), .bool u.Asks]) := rfl
theorem tFrame_dec {b : Bool} {x0 : Int} {x1 : Str} {x2 : List (List CV)} {x3 : Bool} {kx0 : IntKind} {zx2 : Nat} : tFrame.dec (b, [.int kx0 x0, .str x1, .sl zx2 x2, .bool x3]) = ⟨x0, x1, x2.map rEntry.dec, x3⟩ := rfl
theorem tFrame_ok {x0 : Int} {x1 : Str} {x2 : List (List CV)} {x3 : Bool} {zx2 : Nat} : tFrame.ok (true, [.int .i64 x0, .str x1, .sl zx2 x2, .bool x3]) = (true = true ∧ zx2 = 17 ∧ (∃ l : List Entry, x2 = l.map rEntry.enc)) := rfl
theorem rFrame_enc {u : Frame} : rFrame.enc u = [.int .i64 u.Within, .str u.Name, .sl 17 (u.Hist.map rEntry.enc), .bool u.Asks] := rfl
theorem Frame_eta (u : Frame) : (⟨u.Within, u.Name, u.Hist, u.Asks⟩ : Frame) = u := rfl
theorem tFrameS_enc {l : List Frame} : tFrameS.enc l = (false, [.sl 4 (l.map rFrame.enc)]) := rfl
theorem tFrameS_dec {b : Bool} {n : Nat} {es : List (List CV)} : tFrameS.dec (b, [.sl n es]) = es.map rFrame.dec := rfl
theorem tFrameS_ok {n : Nat} {es : List (List CV)} : tFrameS.ok (false, [.sl n es]) = (n = 4 ∧ ∃ l : List Frame, es = l.map rFrame.enc) := rfl
attribute [go_sem] tFrameS_enc tFrameS_dec tFrameS_ok
theorem rFrame_sz : rFrame.sz = 4 := rfl
attribute [go_sem] rFrame_sz
attribute [go_sem] Frame_eta tFrame_enc tFrame_dec tFrame_ok
structure FrameFit (u : Frame) : Prop where
  Within : R64 u.Within
  Name : Fit u.Name.length
  Hist : Fit u.Hist.length ∧ ∀ s ∈ u.Hist, ∀ c ∈ rEntry.enc s, ∀ d, fitD d c
  Asks : True
theorem FrameFit_of {u : Frame} (f : ∀ c ∈ Frame.cv u, ∀ d, fitD d c) : FrameFit u where
  Within := f (.int .i64 u.Within) (by simp [Frame.cv]) 0
  Name := f (.str u.Name) (by simp [Frame.cv]) 0
  Hist := fit_sub (f (.sl 17 (u.Hist.map rEntry.enc)) (by simp [Frame.cv]))
  Asks := trivial
theorem fit_frame {u : Frame} (f : fitA (tFrame.enc u)) : FrameFit u := FrameFit_of f
theorem FrameFit_el {l : List Frame} (f : ∀ s ∈ l, ∀ c ∈ rFrame.enc s, ∀ d, fitD d c) {s : Frame} (h : s ∈ l) : FrameFit s := FrameFit_of (f s h)
structure Window where
  Frames : List Frame
  Step : Int
  NextDoc : Int
  NextKey : Int
  deriving DecidableEq, Inhabited
def Window.cv (u : Window) : List CV := [.sl 4 (u.Frames.map rFrame.enc), .int .i64 u.Step, .int .i64 u.NextDoc, .int .i64 u.NextKey]
def Window.de (c : List CV) : Window := match c with
  | [.sl _ x0, .int _ x1, .int _ x2, .int _ x3] => ⟨x0.map rFrame.dec, x1, x2, x3⟩
  | _ => default
def Window.sh (c : List CV) : Prop := match c with
  | [.sl zx0 ex0, .int .i64 _, .int .i64 _, .int .i64 _] => zx0 = 4 ∧ (∃ l : List Frame, ex0 = l.map rFrame.enc)
  | _ => False
theorem Window.sh_eq {c : List CV} (h : Window.sh c) : c = (Window.de c).cv := by
  unfold Window.sh at h; split at h
  · obtain ⟨rfl, ⟨lx0, rfl⟩⟩ := h
    simp only [Window.de, Window.cv, Rw.map_dec]
  · exact h.elim
theorem Window.de_cv (u : Window) : Window.de u.cv = u := by simp only [Window.de, Window.cv, Rw.map_dec]
def tWindow : Ty Window where
  enc u := (true, u.cv)
  dec v := Window.de v.2
  ok v := v.1 = true ∧ Window.sh v.2
  law v h := by obtain ⟨b, c⟩ := v; obtain ⟨rfl, h⟩ := h; simp only; rw [← Window.sh_eq h]
  de u := Window.de_cv u
def rWindow : Rw Window := ⟨4, Window.cv, Window.de, Window.de_cv⟩
def tWindowS : Ty (List Window) := tList rWindow
theorem tWindow_enc {u : Window} : tWindow.enc u = (true, [.sl 4 (u.Frames.map rFrame.enc), .int .i64 u.Step, .int .i64 u.NextDoc, .int .i64 u.NextKey]) := rfl
theorem tWindow_dec {b : Bool} {x0 : List (List CV)} {x1 : Int} {x2 : Int} {x3 : Int} {kx1 : IntKind} {kx2 : IntKind} {kx3 : IntKind} {zx0 : Nat} : tWindow.dec (b, [.sl zx0 x0, .int kx1 x1, .int kx2 x2, .int kx3 x3]) = ⟨x0.map rFrame.dec, x1, x2, x3⟩ := rfl
theorem tWindow_ok {x0 : List (List CV)} {x1 : Int} {x2 : Int} {x3 : Int} {zx0 : Nat} : tWindow.ok (true, [.sl zx0 x0, .int .i64 x1, .int .i64 x2, .int .i64 x3]) = (true = true ∧ zx0 = 4 ∧ (∃ l : List Frame, x0 = l.map rFrame.enc)) := rfl
theorem Window_eta (u : Window) : (⟨u.Frames, u.Step, u.NextDoc, u.NextKey⟩ : Window) = u := rfl
theorem tWindowS_enc {l : List Window} : tWindowS.enc l = (false, [.sl 4 (l.map rWindow.enc)]) := rfl
theorem tWindowS_dec {b : Bool} {n : Nat} {es : List (List CV)} : tWindowS.dec (b, [.sl n es]) = es.map rWindow.dec := rfl
theorem tWindowS_ok {n : Nat} {es : List (List CV)} : tWindowS.ok (false, [.sl n es]) = (n = 4 ∧ ∃ l : List Window, es = l.map rWindow.enc) := rfl
attribute [go_sem] tWindowS_enc tWindowS_dec tWindowS_ok
theorem rWindow_sz : rWindow.sz = 4 := rfl
attribute [go_sem] rWindow_sz
attribute [go_sem] Window_eta tWindow_enc tWindow_dec tWindow_ok
structure WindowFit (u : Window) : Prop where
  Frames : Fit u.Frames.length ∧ ∀ s ∈ u.Frames, ∀ c ∈ rFrame.enc s, ∀ d, fitD d c
  Step : R64 u.Step
  NextDoc : R64 u.NextDoc
  NextKey : R64 u.NextKey
theorem WindowFit_of {u : Window} (f : ∀ c ∈ Window.cv u, ∀ d, fitD d c) : WindowFit u where
  Frames := fit_sub (f (.sl 4 (u.Frames.map rFrame.enc)) (by simp [Window.cv]))
  Step := f (.int .i64 u.Step) (by simp [Window.cv]) 0
  NextDoc := f (.int .i64 u.NextDoc) (by simp [Window.cv]) 0
  NextKey := f (.int .i64 u.NextKey) (by simp [Window.cv]) 0
theorem fit_window {u : Window} (f : fitA (tWindow.enc u)) : WindowFit u := WindowFit_of f
structure Cookie where
  Name : Str
  Value : Str
  Domain : Str
  Alone : Bool
  Path : Str
  Until : Int
  Safe : Bool
  Same : Int
  Made : Int
  deriving DecidableEq, Inhabited
def Cookie.cv (u : Cookie) : List CV := [.str u.Name, .str u.Value, .str u.Domain, .bool u.Alone, .str u.Path, .int .i64 u.Until, .bool u.Safe, .int .i64 u.Same, .int .i64 u.Made]
def Cookie.de (c : List CV) : Cookie := match c with
  | [.str x0, .str x1, .str x2, .bool x3, .str x4, .int _ x5, .bool x6, .int _ x7, .int _ x8] => ⟨x0, x1, x2, x3, x4, x5, x6, x7, x8⟩
  | _ => default
def Cookie.sh (c : List CV) : Prop := match c with
  | [.str _, .str _, .str _, .bool _, .str _, .int .i64 _, .bool _, .int .i64 _, .int .i64 _] => True
  | _ => False
theorem Cookie.sh_eq {c : List CV} (h : Cookie.sh c) : c = (Cookie.de c).cv := by
  unfold Cookie.sh at h; split at h
  · rfl
  · exact h.elim
theorem Cookie.de_cv (u : Cookie) : Cookie.de u.cv = u := by rfl
def tCookie : Ty Cookie where
  enc u := (true, u.cv)
  dec v := Cookie.de v.2
  ok v := v.1 = true ∧ Cookie.sh v.2
  law v h := by obtain ⟨b, c⟩ := v; obtain ⟨rfl, h⟩ := h; simp only; rw [← Cookie.sh_eq h]
  de u := Cookie.de_cv u
def rCookie : Rw Cookie := ⟨9, Cookie.cv, Cookie.de, Cookie.de_cv⟩
def tCookieS : Ty (List Cookie) := tList rCookie
theorem tCookie_enc {u : Cookie} : tCookie.enc u = (true, [.str u.Name, .str u.Value, .str u.Domain, .bool u.Alone, .str u.Path, .int .i64 u.Until, .bool u.Safe, .int .i64 u.Same, .int .i64 u.Made]) := rfl
theorem tCookie_dec {b : Bool} {x0 : Str} {x1 : Str} {x2 : Str} {x3 : Bool} {x4 : Str} {x5 : Int} {x6 : Bool} {x7 : Int} {x8 : Int} {kx5 : IntKind} {kx7 : IntKind} {kx8 : IntKind}  : tCookie.dec (b, [.str x0, .str x1, .str x2, .bool x3, .str x4, .int kx5 x5, .bool x6, .int kx7 x7, .int kx8 x8]) = ⟨x0, x1, x2, x3, x4, x5, x6, x7, x8⟩ := rfl
theorem tCookie_ok {x0 : Str} {x1 : Str} {x2 : Str} {x3 : Bool} {x4 : Str} {x5 : Int} {x6 : Bool} {x7 : Int} {x8 : Int}  : tCookie.ok (true, [.str x0, .str x1, .str x2, .bool x3, .str x4, .int .i64 x5, .bool x6, .int .i64 x7, .int .i64 x8]) = (true = true ∧ True) := rfl
theorem Cookie_eta (u : Cookie) : (⟨u.Name, u.Value, u.Domain, u.Alone, u.Path, u.Until, u.Safe, u.Same, u.Made⟩ : Cookie) = u := rfl
theorem tCookieS_enc {l : List Cookie} : tCookieS.enc l = (false, [.sl 9 (l.map rCookie.enc)]) := rfl
theorem tCookieS_dec {b : Bool} {n : Nat} {es : List (List CV)} : tCookieS.dec (b, [.sl n es]) = es.map rCookie.dec := rfl
theorem tCookieS_ok {n : Nat} {es : List (List CV)} : tCookieS.ok (false, [.sl n es]) = (n = 9 ∧ ∃ l : List Cookie, es = l.map rCookie.enc) := rfl
attribute [go_sem] tCookieS_enc tCookieS_dec tCookieS_ok
theorem rCookie_sz : rCookie.sz = 9 := rfl
attribute [go_sem] rCookie_sz
attribute [go_sem] Cookie_eta tCookie_enc tCookie_dec tCookie_ok
structure CookieFit (u : Cookie) : Prop where
  Name : Fit u.Name.length
  Value : Fit u.Value.length
  Domain : Fit u.Domain.length
  Alone : True
  Path : Fit u.Path.length
  Until : R64 u.Until
  Safe : True
  Same : R64 u.Same
  Made : R64 u.Made
structure Sure where
  Hosts : List Str
  deriving DecidableEq, Inhabited
def Sure.cv (u : Sure) : List CV := [.sl 1 (u.Hosts.map rStr.enc)]
def Sure.de (c : List CV) : Sure := match c with
  | [.sl _ x0] => ⟨x0.map rStr.dec⟩
  | _ => default
def Sure.sh (c : List CV) : Prop := match c with
  | [.sl zx0 ex0] => zx0 = 1 ∧ (∃ l : List Str, ex0 = l.map rStr.enc)
  | _ => False
theorem Sure.sh_eq {c : List CV} (h : Sure.sh c) : c = (Sure.de c).cv := by
  unfold Sure.sh at h; split at h
  · obtain ⟨rfl, ⟨lx0, rfl⟩⟩ := h
    simp only [Sure.de, Sure.cv, Rw.map_dec]
  · exact h.elim
theorem Sure.de_cv (u : Sure) : Sure.de u.cv = u := by simp only [Sure.de, Sure.cv, Rw.map_dec]
def tSure : Ty Sure where
  enc u := (true, u.cv)
  dec v := Sure.de v.2
  ok v := v.1 = true ∧ Sure.sh v.2
  law v h := by obtain ⟨b, c⟩ := v; obtain ⟨rfl, h⟩ := h; simp only; rw [← Sure.sh_eq h]
  de u := Sure.de_cv u
def rSure : Rw Sure := ⟨1, Sure.cv, Sure.de, Sure.de_cv⟩
def tSureS : Ty (List Sure) := tList rSure
theorem tSure_enc {u : Sure} : tSure.enc u = (true, [.sl 1 (u.Hosts.map rStr.enc)]) := rfl
theorem tSure_dec {b : Bool} {x0 : List (List CV)}  {zx0 : Nat} : tSure.dec (b, [.sl zx0 x0]) = ⟨x0.map rStr.dec⟩ := rfl
theorem tSure_ok {x0 : List (List CV)} {zx0 : Nat} : tSure.ok (true, [.sl zx0 x0]) = (true = true ∧ zx0 = 1 ∧ (∃ l : List Str, x0 = l.map rStr.enc)) := rfl
theorem Sure_eta (u : Sure) : (⟨u.Hosts⟩ : Sure) = u := rfl
theorem tSureS_enc {l : List Sure} : tSureS.enc l = (false, [.sl 1 (l.map rSure.enc)]) := rfl
theorem tSureS_dec {b : Bool} {n : Nat} {es : List (List CV)} : tSureS.dec (b, [.sl n es]) = es.map rSure.dec := rfl
theorem tSureS_ok {n : Nat} {es : List (List CV)} : tSureS.ok (false, [.sl n es]) = (n = 1 ∧ ∃ l : List Sure, es = l.map rSure.enc) := rfl
attribute [go_sem] tSureS_enc tSureS_dec tSureS_ok
theorem rSure_sz : rSure.sz = 1 := rfl
attribute [go_sem] rSure_sz
attribute [go_sem] Sure_eta tSure_enc tSure_dec tSure_ok
structure SureFit (u : Sure) : Prop where
  Hosts : Fit u.Hosts.length ∧ ∀ s ∈ u.Hosts, ∀ c ∈ rStr.enc s, ∀ d, fitD d c
structure Browser where
  Window : Window
  Jar : List Cookie
  Sure : Sure
  Now : Int
  deriving DecidableEq, Inhabited
def Browser.cv (u : Browser) : List CV := [.sl 4 (u.Window.Frames.map rFrame.enc), .int .i64 u.Window.Step, .int .i64 u.Window.NextDoc, .int .i64 u.Window.NextKey, .sl 9 (u.Jar.map rCookie.enc), .sl 1 (u.Sure.Hosts.map rStr.enc), .int .i64 u.Now]
def Browser.de (c : List CV) : Browser := match c with
  | [.sl _ x0, .int _ x1, .int _ x2, .int _ x3, .sl _ x4, .sl _ x5, .int _ x6] => ⟨⟨x0.map rFrame.dec, x1, x2, x3⟩, x4.map rCookie.dec, ⟨x5.map rStr.dec⟩, x6⟩
  | _ => default
def Browser.sh (c : List CV) : Prop := match c with
  | [.sl zx0 ex0, .int .i64 _, .int .i64 _, .int .i64 _, .sl zx4 ex4, .sl zx5 ex5, .int .i64 _] => zx0 = 4 ∧ (∃ l : List Frame, ex0 = l.map rFrame.enc) ∧ zx4 = 9 ∧ (∃ l : List Cookie, ex4 = l.map rCookie.enc) ∧ zx5 = 1 ∧ (∃ l : List Str, ex5 = l.map rStr.enc)
  | _ => False
theorem Browser.sh_eq {c : List CV} (h : Browser.sh c) : c = (Browser.de c).cv := by
  unfold Browser.sh at h; split at h
  · obtain ⟨rfl, ⟨lx0, rfl⟩, rfl, ⟨lx4, rfl⟩, rfl, ⟨lx5, rfl⟩⟩ := h
    simp only [Browser.de, Browser.cv, Rw.map_dec]
  · exact h.elim
theorem Browser.de_cv (u : Browser) : Browser.de u.cv = u := by simp only [Browser.de, Browser.cv, Rw.map_dec]
def tBrowser : Ty Browser where
  enc u := (true, u.cv)
  dec v := Browser.de v.2
  ok v := v.1 = true ∧ Browser.sh v.2
  law v h := by obtain ⟨b, c⟩ := v; obtain ⟨rfl, h⟩ := h; simp only; rw [← Browser.sh_eq h]
  de u := Browser.de_cv u
def rBrowser : Rw Browser := ⟨7, Browser.cv, Browser.de, Browser.de_cv⟩
def tBrowserS : Ty (List Browser) := tList rBrowser
theorem tBrowser_enc {u : Browser} : tBrowser.enc u = (true, [.sl 4 (u.Window.Frames.map rFrame.enc), .int .i64 u.Window.Step, .int .i64 u.Window.NextDoc, .int .i64 u.Window.NextKey, .sl 9 (u.Jar.map rCookie.enc), .sl 1 (u.Sure.Hosts.map rStr.enc), .int .i64 u.Now]) := rfl
theorem tBrowser_dec {b : Bool} {x0 : List (List CV)} {x1 : Int} {x2 : Int} {x3 : Int} {x4 : List (List CV)} {x5 : List (List CV)} {x6 : Int} {kx1 : IntKind} {kx2 : IntKind} {kx3 : IntKind} {kx6 : IntKind} {zx0 : Nat} {zx4 : Nat} {zx5 : Nat} : tBrowser.dec (b, [.sl zx0 x0, .int kx1 x1, .int kx2 x2, .int kx3 x3, .sl zx4 x4, .sl zx5 x5, .int kx6 x6]) = ⟨⟨x0.map rFrame.dec, x1, x2, x3⟩, x4.map rCookie.dec, ⟨x5.map rStr.dec⟩, x6⟩ := rfl
theorem tBrowser_ok {x0 : List (List CV)} {x1 : Int} {x2 : Int} {x3 : Int} {x4 : List (List CV)} {x5 : List (List CV)} {x6 : Int} {zx0 : Nat} {zx4 : Nat} {zx5 : Nat} : tBrowser.ok (true, [.sl zx0 x0, .int .i64 x1, .int .i64 x2, .int .i64 x3, .sl zx4 x4, .sl zx5 x5, .int .i64 x6]) = (true = true ∧ zx0 = 4 ∧ (∃ l : List Frame, x0 = l.map rFrame.enc) ∧ zx4 = 9 ∧ (∃ l : List Cookie, x4 = l.map rCookie.enc) ∧ zx5 = 1 ∧ (∃ l : List Str, x5 = l.map rStr.enc)) := rfl
theorem Browser_eta (u : Browser) : (⟨u.Window, u.Jar, u.Sure, u.Now⟩ : Browser) = u := rfl
theorem tBrowserS_enc {l : List Browser} : tBrowserS.enc l = (false, [.sl 7 (l.map rBrowser.enc)]) := rfl
theorem tBrowserS_dec {b : Bool} {n : Nat} {es : List (List CV)} : tBrowserS.dec (b, [.sl n es]) = es.map rBrowser.dec := rfl
theorem tBrowserS_ok {n : Nat} {es : List (List CV)} : tBrowserS.ok (false, [.sl n es]) = (n = 7 ∧ ∃ l : List Browser, es = l.map rBrowser.enc) := rfl
attribute [go_sem] tBrowserS_enc tBrowserS_dec tBrowserS_ok
theorem rBrowser_sz : rBrowser.sz = 7 := rfl
attribute [go_sem] rBrowser_sz
attribute [go_sem] Browser_eta tBrowser_enc tBrowser_dec tBrowser_ok
structure BrowserFit (u : Browser) : Prop where
  Window_Frames : Fit u.Window.Frames.length ∧ ∀ s ∈ u.Window.Frames, ∀ c ∈ rFrame.enc s, ∀ d, fitD d c
  Window_Step : R64 u.Window.Step
  Window_NextDoc : R64 u.Window.NextDoc
  Window_NextKey : R64 u.Window.NextKey
  Jar : Fit u.Jar.length ∧ ∀ s ∈ u.Jar, ∀ c ∈ rCookie.enc s, ∀ d, fitD d c
  Sure_Hosts : Fit u.Sure.Hosts.length ∧ ∀ s ∈ u.Sure.Hosts, ∀ c ∈ rStr.enc s, ∀ d, fitD d c
  Now : R64 u.Now
end Go.Gx
end
section
namespace Go.Gx
open Go.Proofs
def hostedG (u : Url) (s : Str) : Url × Bool :=
  let k := atAny [47, 92, 63, 35] s
  let a := authG u (s.take k)
  if a.2 then
    let s1 := s.drop k
    let k1 := atAny [63, 35] s1
    (withTail { a.1 with Path := PathGet (s1.take k1) } (s1.drop k1), true)
  else (url0, false)
def E165 : Env := { T := Tz.tab, G := Gl, C := [(162, ct162), (188, ct188), (189, ct189), (164, ct164)], alt := [(2, some (.op 0 (.op 1 (.op 2 (.op 3 (.op 4 (.op 5 (.op 6 (.alt (.op 7 (.op 8 (.op 9 .done))) (.op 8 (.op 7 (.op 9 .done))))))))))))], live := [(0, [1, 2, 4]), (1, [1, 2, 4, 6]), (2, [1, 2, 4, 6, 7]), (3, [1, 2, 4, 6, 19]), (4, [4, 5]), (5, [1, 2, 4]), (6, [1, 2, 4, 6]), (7, [1, 2, 4, 6]), (8, [4, 5])] }
def ct165 : Ct := .im (dom2 tUrl tStr (fun u s => True)) (fn2 tUrl tStr fun u s => [tUrl.enc (hostedG u s).1, tBool.enc (hostedG u s).2])
attribute [go_sem] E165 ct165 Go.Proofs.Tryz.f165
set_option maxHeartbeats 1000000 in
theorem ok165 : CtOk Tryz.prog Gl 165 ct165 := okI2 (E := E165) (sound_of Tz.tab_ok Tz.mixed (AllOk.cons ok162 (AllOk.cons ok188 (AllOk.cons ok189 (AllOk.cons ok164 AllOk.nil))))) rfl Tryz.func165 (by kernel_rfl) fun u s fu fs hp => by
  have gu := fu
  have fu := fit_url fu
  have fs := fit_str fs
  refine vcFn_intro rfl rfl (by kernel_rfl) rfl ?_
  have hk := atAny_le [47, 92, 63, 35] s
  have hk1 := atAny_le [63, 35] (s.drop (atAny [47, 92, 63, 35] s))
  repeat (dsimp +instances only [go_sem, Nat.reduceBEq, Nat.reduceAdd, Nat.reduceSub, Nat.reduceLT, Nat.reduceLeDiff]; try simp only [bb, Nat.reduceAdd, Int.reduceToNat, Int.reduceLE, Int.reduceLT, Nat.reduceLT, Nat.reduceMul, Nat.reduceLeDiff])
  repeat (dsimp +instances only [callIm_mk, killR, killA, killC, kill1, List.set_cons_zero, List.set_cons_succ]; repeat (dsimp +instances only [go_sem, Nat.reduceBEq, Nat.reduceAdd, Nat.reduceSub, Nat.reduceLT, Nat.reduceLeDiff]; try simp only [bb, Nat.reduceAdd, Int.reduceToNat, Int.reduceLE, Int.reduceLT, Nat.reduceLT, Nat.reduceMul, Nat.reduceLeDiff]))
  try simp only [nn, reduceCtorEq]
  cases hb : (authG u (s.take (atAny [47, 92, 63, 35] s))).2
  all_goals
    simp only [hostedG, hb, if_true, if_false, Bool.false_eq_true, true_implies, false_implies, reduceCtorEq, and_true, true_and]
  all_goals (repeat' (first | refine And.intro ?_ ?_ | intro _)) <;> try first | omega | trivial
def slashC (c : UInt8) : Bool := decide (c.toNat = 47 ∨ c.toNat = 92)
def readN (scheme : Str) (rest : Str) : Url × Bool :=
  let u : Url := { url0 with Scheme := scheme, Port := -1 }
  if ownN scheme < 0 then
    let k := atAny [63, 35] rest
    (withTail { u with Opaque := Encode 5 (rest.take k) } (rest.drop k), true)
  else hostedG u (rest.dropWhile slashC)
def E132 : Env := { T := Tz.tab, G := Gl, C := [(134, ct134), (162, ct162), (163, ct163), (164, ct164), (165, ct165)], live := [(0, [0, 1, 4]), (1, [0, 1, 4, 6]), (2, [1, 4, 6, 12]), (3, [1, 4, 6, 7]), (4, [1, 4, 6, 7]), (5, [4, 5]), (6, [1, 4, 6, 37]), (7, [1, 4, 6]), (8, [4, 5])] }
def ct132 : Ct := .im (dom2 tStr tStr (fun scheme rest => True)) (fn2 tStr tStr fun scheme rest => [tUrl.enc (readN scheme rest).1, tBool.enc (readN scheme rest).2])
attribute [go_sem] E132 ct132 Go.Proofs.Tryz.f132
set_option maxHeartbeats 1000000 in
theorem ok132 : CtOk Tryz.prog Gl 132 ct132 := okI2 (E := E132) (sound_of Tz.tab_ok Tz.mixed (AllOk.cons ok134 (AllOk.cons ok162 (AllOk.cons ok163 (AllOk.cons ok164 (AllOk.cons ok165 AllOk.nil)))))) rfl Tryz.func132 (by kernel_rfl) fun scheme rest fscheme frest hp => by
  have fscheme := fit_str fscheme
  have frest := fit_str frest
  refine vcFn_intro rfl rfl (by kernel_rfl) rfl ?_
  have hk := atAny_le [63, 35] rest
  repeat (dsimp +instances only [go_sem, Nat.reduceBEq, Nat.reduceAdd, Nat.reduceSub, Nat.reduceLT, Nat.reduceLeDiff]; try simp only [bb, Nat.reduceAdd, Int.reduceToNat, Int.reduceLE, Int.reduceLT, Nat.reduceLT, Nat.reduceMul, Nat.reduceLeDiff])
  repeat (dsimp +instances only [callIm_mk, killR, killA, killC, kill1, List.set_cons_zero, List.set_cons_succ]; repeat (dsimp +instances only [go_sem, Nat.reduceBEq, Nat.reduceAdd, Nat.reduceSub, Nat.reduceLT, Nat.reduceLeDiff]; try simp only [bb, Nat.reduceAdd, Int.reduceToNat, Int.reduceLE, Int.reduceLT, Nat.reduceLT, Nat.reduceMul, Nat.reduceLeDiff]))
  try simp only [nn, reduceCtorEq]
  by_cases h1 : ownN scheme < 0
  · simp only [h1, decide_true, if_true, true_implies, false_implies, reduceCtorEq, and_true, true_and, readN]
    (repeat' (first | refine And.intro ?_ ?_ | intro _)) <;> try first | omega | trivial
    all_goals rfl
  · simp only [h1, decide_false, if_false, true_implies, false_implies, reduceCtorEq, and_true, true_and, readN]
    rw [not_false_eq_true, forall_const]
    have hR : readN scheme rest = hostedG { url0 with Scheme := scheme, Port := -1 } (rest.dropWhile slashC) := by simp only [readN, if_neg h1]
    simp only [← hR]
    refine vcC_loop [1, 4, 6] (fun (x : Str) => x.dropWhile slashC = rest.dropWhile slashC ∧ x.length ≤ rest.length) (fun x => [.cv (.str x), .ptr 0 13 0 0, .ptr 1 13 0 0]) (fun _ => [.boxT 0 [.cv (.str []), .cv (.str []), .cv (.str []), .cv (.int .i64 0), .cv (.str []), .cv (.int .i64 0), .cv (.int .i64 0), .nil 1, .cv (.str []), .cv (.bool false), .cv (.str []), .cv (.bool false), .cv (.str [])], .boxT 0 [.cv (.str scheme), .cv (.str []), .cv (.str []), .cv (.int .i64 0), .cv (.str []), .cv (.int .i64 0), .cv (.int .i64 (-1)), .nil 1, .cv (.str []), .cv (.bool false), .cv (.str []), .cv (.bool false), .cv (.str [])]]) (fun x => x.length) rest (by simp) ⟨rfl, rfl⟩ ?_
    rintro x ⟨hx, hl⟩
    rw [hR, ← hx]
    clear hx hR hk
    cases x with
    | nil =>
      repeat (dsimp +instances only [go_sem, Nat.reduceBEq, Nat.reduceAdd, Nat.reduceSub, Nat.reduceLT, Nat.reduceLeDiff]; try simp only [bb, Nat.reduceAdd, Int.reduceToNat, Int.reduceLE, Int.reduceLT, Nat.reduceLT, Nat.reduceMul, Nat.reduceLeDiff])
      repeat (dsimp +instances only [callIm_mk, killR, killA, killC, kill1, List.set_cons_zero, List.set_cons_succ]; repeat (dsimp +instances only [go_sem, Nat.reduceBEq, Nat.reduceAdd, Nat.reduceSub, Nat.reduceLT, Nat.reduceLeDiff]; try simp only [bb, Nat.reduceAdd, Int.reduceToNat, Int.reduceLE, Int.reduceLT, Nat.reduceLT, Nat.reduceMul, Nat.reduceLeDiff]))
      try simp only [nn, reduceCtorEq]
      (repeat' (first | refine And.intro ?_ ?_ | intro _)) <;> try first | omega | trivial
      all_goals rfl
    | cons c r =>
      rw [List.dropWhile_cons]
      by_cases hc : slashC c = true
      · have hc2 : c.toNat = 47 ∨ c.toNat = 92 := by simpa [slashC] using hc
        rw [if_pos hc]
        repeat (dsimp +instances only [go_sem, Nat.reduceBEq, Nat.reduceAdd, Nat.reduceSub, Nat.reduceLT, Nat.reduceLeDiff]; try simp only [bb, Nat.reduceAdd, Int.reduceToNat, Int.reduceLE, Int.reduceLT, Nat.reduceLT, Nat.reduceMul, Nat.reduceLeDiff])
        repeat (dsimp +instances only [callIm_mk, killR, killA, killC, kill1, List.set_cons_zero, List.set_cons_succ]; repeat (dsimp +instances only [go_sem, Nat.reduceBEq, Nat.reduceAdd, Nat.reduceSub, Nat.reduceLT, Nat.reduceLeDiff]; try simp only [bb, Nat.reduceAdd, Int.reduceToNat, Int.reduceLE, Int.reduceLT, Nat.reduceLT, Nat.reduceMul, Nat.reduceLeDiff]))
        try simp only [nn, reduceCtorEq]
        (repeat' (first | refine And.intro ?_ ?_ | intro _)) <;> try first | omega | trivial
        all_goals exact nextL_intro r ⟨rfl, by simp at hl; omega⟩ (by omega) rfl rfl
      · have hc2 : ¬ (c.toNat = 47 ∨ c.toNat = 92) := by simpa [slashC] using hc
        rw [if_neg hc]
        repeat (dsimp +instances only [go_sem, Nat.reduceBEq, Nat.reduceAdd, Nat.reduceSub, Nat.reduceLT, Nat.reduceLeDiff]; try simp only [bb, Nat.reduceAdd, Int.reduceToNat, Int.reduceLE, Int.reduceLT, Nat.reduceLT, Nat.reduceMul, Nat.reduceLeDiff])
        repeat (dsimp +instances only [callIm_mk, killR, killA, killC, kill1, List.set_cons_zero, List.set_cons_succ]; repeat (dsimp +instances only [go_sem, Nat.reduceBEq, Nat.reduceAdd, Nat.reduceSub, Nat.reduceLT, Nat.reduceLeDiff]; try simp only [bb, Nat.reduceAdd, Int.reduceToNat, Int.reduceLE, Int.reduceLT, Nat.reduceLT, Nat.reduceMul, Nat.reduceLeDiff]))
        try simp only [nn, reduceCtorEq]
        (repeat' (first | refine And.intro ?_ ?_ | intro _)) <;> try first | omega | trivial
def urlSz (u : Url) : Nat := u.Scheme.length + u.User.length + u.Pass.length + u.Host.Name.length + (PathPut u.Path).length + u.Opaque.length + u.Query.length + u.Frag.length
def putH (u : Url) : Str :=
  [47, 47] ++ (if u.User = [] ∧ u.Pass = [] then [] else u.User ++ (if u.Pass = [] then [] else [58] ++ u.Pass) ++ [64]) ++ hostPut u.Host ++ (if 0 ≤ u.Port then [58] ++ decN u.Port.toNat else []) ++ PathPut u.Path
def putU (u : Url) : Str := u.Scheme ++ [58] ++ (if ownN u.Scheme < 0 then u.Opaque else putH u) ++ (if u.HasQuery = true then [63] ++ u.Query else []) ++ (if u.HasFrag = true then [35] ++ u.Frag else [])
theorem fourT_len (a : Nat) (h : a < 4294967296) : (fourT a).length ≤ 15 := by
  have l1 := decN_len (a / 16777216) 2 (by omega)
  have l2 := decN_len (a / 65536 % 256) 2 (by omega)
  have l3 := decN_len (a / 256 % 256) 2 (by omega)
  have l4 := decN_len (a % 256) 2 (by omega)
  simp only [fourT, List.length_append, List.length_cons, List.length_nil]; omega
theorem hostPut_len (h : Host) : (hostPut h).length ≤ h.Name.length + 15 := by
  unfold hostPut; split
  · rename_i ho
    split
    · rename_i hk
      have := fourT_len h.Addr.toNat (by simp [hostOk, hk] at ho; omega)
      omega
    · omega
  · simp
theorem decN_len19 (n : Int) (h : R64 n) : (decN n.toNat).length ≤ 19 := decN_len n.toNat 18 (by have := h.2; omega)
def E110 : Env := { T := Tz.tab, G := Gl, C := [(134, ct134), (135, ct135), (136, ct136), (137, ct137)], live := [(0, [1]), (1, [1, 3]), (2, [1, 3, 10]), (3, [1, 3]), (4, [1, 3]), (5, [1, 3, 24]), (6, [1, 3]), (7, [1, 3, 31]), (8, [1, 3]), (9, [1, 3]), (10, [1, 3]), (11, [1, 3, 46]), (12, [1, 3]), (13, [1, 3]), (14, [1, 3, 59]), (15, [1, 3]), (16, [1, 3, 66]), (17, [3]), (18, [2])] }
def ct110 : Ct := .scal (dom1 tUrl (fun u => urlSz u ≤ 16777216)) (fn1 tUrl fun u => [tStr.enc (putU u)])
attribute [go_sem] E110 ct110 Go.Proofs.Tryz.f110
set_option maxHeartbeats 1000000 in
theorem ok110 : CtOk Tryz.prog Gl 110 ct110 := okA1 (E := E110) (sound_of Tz.tab_ok Tz.mixed (AllOk.cons ok134 (AllOk.cons ok135 (AllOk.cons ok136 (AllOk.cons ok137 AllOk.nil))))) rfl Tryz.func110 (by kernel_rfl) fun u fu hp => by
  have gu := fu
  have fu := fit_url fu
  refine vcFn_intro rfl rfl (by kernel_rfl) rfl ?_
  have hp1 := hp
  simp only [urlSz] at hp1
  have h1 := hostPut_len u.Host
  have hf := fit_url gu
  have h2 := decN_len19 u.Port hf.port
  repeat (dsimp +instances only [go_sem, Nat.reduceBEq, Nat.reduceAdd, Nat.reduceSub, Nat.reduceLT, Nat.reduceLeDiff]; try simp only [bb, Nat.reduceAdd, Int.reduceToNat, Int.reduceLE, Int.reduceLT, Nat.reduceLT, Nat.reduceMul, Nat.reduceLeDiff])
  try simp only [nn, reduceCtorEq]
  by_cases a1 : ownN u.Scheme < 0
  all_goals simp only [a1, putU, putH, if_true, if_false, decide_true, decide_false, true_implies, false_implies, reduceCtorEq, true_and, and_true]
  all_goals (repeat' (first | refine And.intro ?_ ?_ | intro _)) <;> try first | omega | trivial
  all_goals simp_all
end Go.Gx
end
section
namespace Go.Gx
open Go.Proofs
structure Small (u : Url) (n : Nat) : Prop where
  scheme : u.Scheme.length ≤ n
  user : u.User.length ≤ 600
  pass : u.Pass.length ≤ 600
  name : u.Host.Name.length ≤ 600
  path : (PathPut u.Path).length ≤ 200000
  opq : u.Opaque.length ≤ 600
  query : u.Query.length ≤ 600
  frag : u.Frag.length ≤ 600
theorem Small.sz {u : Url} {n : Nat} (h : Small u n) : urlSz u ≤ n + 203600 := by
  have := h.scheme; have := h.user; have := h.pass; have := h.name; have := h.path; have := h.opq; have := h.query; have := h.frag
  unfold urlSz; omega
theorem small0 (s : Str) (p : Int) : Small { url0 with Scheme := s, Port := p } s.length := ⟨by simp, by simp [url0], by simp [url0], by simp [url0], by simp [url0, PathPut], by simp [url0], by simp [url0], by simp [url0]⟩
theorem Small.tail {u : Url} {n : Nat} (h : Small u n) (s : Str) : Small (withTail u s) n := by
  have h1 := Encode_len 3 (s.drop (atAny [35] s + 1))
  have h2 := Encode_len 2 ((s.take (atAny [35] s)).drop 1)
  unfold withTail
  dsimp only
  (repeat' split) <;> exact ⟨h.scheme, h.user, h.pass, h.name, h.path, h.opq, by first | exact h.query | assumption, by first | exact h.frag | assumption⟩
theorem Small.who {u : Url} {n : Nat} (h : Small u n) (s : Str) : Small (withWho u s) n := by
  have h1 := Encode_len 4 (s.take (atAny [58] s))
  have h2 := Encode_len 4 (s.drop (atAny [58] s + 1))
  unfold withWho
  dsimp only
  (repeat' split) <;> exact ⟨h.scheme, h1, by first | exact h2 | exact h.pass, h.name, h.path, h.opq, h.query, h.frag⟩
theorem HostGet_small (t : Str) : (HostGet t).1.Name.length ≤ 600 := by
  have h1 := Decode_len t
  have h2 := lower_len (Decode t)
  unfold HostGet; dsimp only; (repeat' split) <;> simp <;> omega
theorem Small.auth {u : Url} {n : Nat} (h : Small u n) (s : Str) : Small (authG u s).1 n := by
  have hh := HostGet_small ((s.drop (lastF 64 0 (-1) s + 1).toNat).take (atAny [58] (s.drop (lastF 64 0 (-1) s + 1).toNat)))
  unfold authG
  simp only
  split
  · have h := h.who (s.take (lastF 64 0 (-1) s).toNat); exact ⟨h.scheme, h.user, h.pass, hh, h.path, h.opq, h.query, h.frag⟩
  · exact ⟨h.scheme, h.user, h.pass, hh, h.path, h.opq, h.query, h.frag⟩
theorem walkS_put (out : List Str) (x : Str) (l : Bool) : (PathPut (walkS out x l)).length ≤ (PathPut out).length + 601 := by
  have h1 := Encode_len 1 x
  have h2 : (PathPut out.dropLast).length ≤ (PathPut out).length := by
    rcases List.eq_nil_or_concat out with rfl | ⟨a, b, rfl⟩
    · simp
    · simp [PathPut_append]
  unfold walkS
  dsimp only
  (repeat' split) <;> try simp only [PathPut_append, PathPut, List.length_append, List.length_cons, List.length_nil]
  all_goals omega
theorem walkL_put : ∀ (ps out : List Str), (PathPut (walkL out ps)).length ≤ (PathPut out).length + 601 * ps.length
  | [], out => by simp [walkL]
  | x :: r, out => by
    rw [walkL_cons]
    have h1 := walkS_put out x (decide (r = []))
    have h2 := walkL_put r (walkS out x (decide (r = [])))
    simp only [List.length_cons]; omega
theorem walk_put (x : Str) (hl : x.length ≤ 200) : (PathPut (walkL [] (piecesH x))).length ≤ 200000 := by
  have h1 := walkL_put (piecesH x) []
  have h2 := splitG_len 47 (x.map slashB) []
  simp only [piecesH, splitB, List.length_map, PathPut, List.length_nil] at h1 h2
  have h1 : (PathPut (walkL [] (piecesH x))).length ≤ 601 * 201 := by simp only [piecesH, splitB]; omega
  exact Nat.le_trans h1 (by omega)
theorem PathGet_put (t : Str) : (PathPut (PathGet t)).length ≤ 200000 := by
  unfold PathGet
  split
  · simp [PathPut]
  · rename_i h
    refine walk_put _ ?_
    split
    · split <;> simp at * <;> omega
    · simp
theorem Small.hosted {u : Url} {n : Nat} (h : Small u n) (s : Str) : Small (hostedG u s).1 n := by
  unfold hostedG
  simp only
  split
  · have h := h.auth (s.take (atAny [47, 92, 63, 35] s))
    refine Small.tail (u := { (authG u (s.take (atAny [47, 92, 63, 35] s))).1 with Path := _ }) ?_ _
    exact ⟨h.scheme, h.user, h.pass, h.name, PathGet_put _, h.opq, h.query, h.frag⟩
  · exact ⟨by simp [url0], by simp [url0], by simp [url0], by simp [url0], by simp [url0, PathPut], by simp [url0], by simp [url0], by simp [url0]⟩
theorem readN_small (sc rest : Str) : Small (readN sc rest).1 sc.length := by
  unfold readN
  simp only
  split
  · refine Small.tail (u := { url0 with Scheme := sc, Port := -1, Opaque := _ }) ?_ _
    have h := small0 sc (-1)
    exact ⟨h.scheme, h.user, h.pass, h.name, h.path, Encode_len 5 _, h.query, h.frag⟩
  · exact (small0 sc (-1)).hosted _
theorem schA_len : ∀ (s acc : Str), (schA acc s).1.1.length + (schA acc s).1.2.length ≤ acc.length + s.length
  | [], acc => by simp [schA]
  | c :: r, acc => by
    unfold schA
    split
    · simp [lower_len]; try omega
    · split
      · have := schA_len r (acc ++ [c]); simp at this ⊢; omega
      · simp
def fitsN (u : Url) : Bool := decide (u.Path.length ≤ 12 ∧ (putU u).length ≤ 600)
def E133 : Env := { T := Tz.tab, G := Gl, C := [(110, ct110)], live := [(0, [1]), (1, [2])] }
def ct133 : Ct := .scal (dom1 tUrl (fun u => urlSz u ≤ 16777216)) (fn1 tUrl fun u => [tBool.enc (fitsN u)])
attribute [go_sem] E133 ct133 Go.Proofs.Tryz.f133
theorem ok133 : CtOk Tryz.prog Gl 133 ct133 := okA1 (E := E133) (sound_of Tz.tab_ok Tz.mixed (AllOk.cons ok110 AllOk.nil)) rfl Tryz.func133 (by kernel_rfl) fun u fu hp => by
  have gu := fu
  have fu := fit_url fu
  refine vcFn_intro rfl rfl (by kernel_rfl) rfl ?_
  repeat (dsimp +instances only [go_sem, Nat.reduceBEq, Nat.reduceAdd, Nat.reduceSub, Nat.reduceLT, Nat.reduceLeDiff]; try simp only [bb, Nat.reduceAdd, Int.reduceToNat, Int.reduceLE, Int.reduceLT, Nat.reduceLT, Nat.reduceMul, Nat.reduceLeDiff])
  try simp only [nn, reduceCtorEq]
  (repeat' (first | refine And.intro ?_ ?_ | intro _)) <;> try first | omega | trivial
  all_goals grind (splits := 20) [fitsN]
def UrlGet (s : Str) : Url × Bool :=
  if 200 < s.length then (url0, false) else
  let t := schA [] (trimN s)
  let r := readN t.1.1 t.1.2
  if t.2 = true ∧ r.2 = true ∧ fitsN r.1 = true then (r.1, true) else (url0, false)
def E109 : Env := { T := Tz.tab, G := Gl, C := [(131, ct131), (130, ct130), (132, ct132), (133, ct133)], live := [(0, [0, 2]), (1, [0, 2, 11]), (2, [2, 3]), (3, [2, 4, 5, 6]), (4, [2, 4, 5, 21]), (5, [2, 3]), (6, [2, 7, 8]), (7, [2, 7, 35]), (8, [2, 3]), (9, [2, 3])] }
def ct109 : Ct := .im (dom1 tStr (fun text => True)) (fn1 tStr fun text => [tUrl.enc (UrlGet text).1, tBool.enc (UrlGet text).2])
attribute [go_sem] E109 ct109 Go.Proofs.Tryz.f109
set_option maxHeartbeats 1000000 in
theorem ok109 : CtOk Tryz.prog Gl 109 ct109 := okI1 (E := E109) (sound_of Tz.tab_ok Tz.mixed (AllOk.cons ok131 (AllOk.cons ok130 (AllOk.cons ok132 (AllOk.cons ok133 AllOk.nil))))) rfl Tryz.func109 (by kernel_rfl) fun text ftext hp => by
  have ftext := fit_str ftext
  refine vcFn_intro rfl rfl (by kernel_rfl) rfl ?_
  have h1 := trimN_len text
  have h2 := schA_len (trimN text) []
  have h3 := (readN_small (schA [] (trimN text)).1.1 (schA [] (trimN text)).1.2).sz
  simp only [List.length_nil] at h2
  repeat (dsimp +instances only [go_sem, Nat.reduceBEq, Nat.reduceAdd, Nat.reduceSub, Nat.reduceLT, Nat.reduceLeDiff]; try simp only [bb, Nat.reduceAdd, Int.reduceToNat, Int.reduceLE, Int.reduceLT, Nat.reduceLT, Nat.reduceMul, Nat.reduceLeDiff])
  repeat (dsimp +instances only [callIm_mk, killR, killA, killC, kill1, List.set_cons_zero, List.set_cons_succ]; repeat (dsimp +instances only [go_sem, Nat.reduceBEq, Nat.reduceAdd, Nat.reduceSub, Nat.reduceLT, Nat.reduceLeDiff]; try simp only [bb, Nat.reduceAdd, Int.reduceToNat, Int.reduceLE, Int.reduceLT, Nat.reduceLT, Nat.reduceMul, Nat.reduceLeDiff]))
  try simp only [nn, reduceCtorEq]
  by_cases a : 200 < text.length
  · simp only [UrlGet, if_pos a]
    (repeat' (first | refine And.intro ?_ ?_ | intro _)) <;> try first | omega | trivial
    all_goals first
    | (simp_all [url0]; done)
    | (rename_i h; rcases h with h | h <;> simp_all [url0])
  · simp only [UrlGet, if_neg a]
    (repeat' (first | refine And.intro ?_ ?_ | intro _)) <;> try first | omega | trivial
    all_goals first
    | (simp_all [url0]; done)
    | (rename_i h; rcases h with h | h <;> simp_all [url0])
def E111 : Env := { T := Tz.tab, G := Gl, C := [], live := [(0, [2, 3]), (1, [2, 3, 82]), (2, [4]), (3, [2, 3, 5]), (4, [2, 3, 5, 87]), (5, [2, 3, 5]), (6, [2, 3, 5, 100]), (7, [4]), (8, [4])] }
def ct111 : Ct := .scal (dom2 tUrl tUrl (fun a b => True)) (fn2 tUrl tUrl fun a b => [tBool.enc (decide (a = b))])
attribute [go_sem] E111 ct111 Go.Proofs.Tryz.f111
set_option maxHeartbeats 1000000 in
theorem ok111 : CtOk Tryz.prog Gl 111 ct111 := okA2 (E := E111) (sound_of Tz.tab_ok Tz.mixed AllOk.nil) rfl Tryz.func111 (by kernel_rfl) fun a b fa fb hp => by
  have ga := fa
  have fa := fit_url fa
  have gb := fb
  have fb := fit_url fb
  refine vcFn_intro rfl rfl (by kernel_rfl) rfl ?_
  have hpf := (fit_url ga).path
  have hne : a.Path.length = b.Path.length → (∀ i, i < a.Path.length → a.Path.getD i [] = b.Path.getD i []) → a.Path = b.Path := fun h1 h2 => by
    refine List.ext_getElem h1 fun i h3 h4 => ?_
    have := h2 i h3
    rwa [getD_lt h3, getD_lt h4] at this
  have he : a = b ↔ (a.Scheme = b.Scheme ∧ a.User = b.User ∧ a.Pass = b.Pass ∧ (a.Host.Kind = b.Host.Kind ∧ a.Host.Name = b.Host.Name ∧ a.Host.Addr = b.Host.Addr) ∧ a.Port = b.Port ∧ a.Path = b.Path ∧ a.Opaque = b.Opaque ∧ a.HasQuery = b.HasQuery ∧ a.Query = b.Query ∧ a.HasFrag = b.HasFrag ∧ a.Frag = b.Frag) := by
    constructor
    · rintro rfl; simp
    · rintro ⟨h1, h2, h3, ⟨h4, h5, h6⟩, h7, h8, h9, h10, h11, h12, h13⟩
      obtain ⟨_, _, _, ⟨_, _, _⟩, _, _, _, _, _, _, _⟩ := a
      obtain ⟨_, _, _, ⟨_, _, _⟩, _, _, _, _, _, _, _⟩ := b
      simp_all
  repeat (dsimp +instances only [go_sem, Nat.reduceBEq, Nat.reduceAdd, Nat.reduceSub, Nat.reduceLT, Nat.reduceLeDiff]; try simp only [bb, Nat.reduceAdd, Int.reduceToNat, Int.reduceLE, Int.reduceLT, Nat.reduceLT, Nat.reduceMul, Nat.reduceLeDiff])
  try simp only [nn, reduceCtorEq]
  refine ⟨fun _ => rfl, fun h => ?_, fun h => ?_⟩
  · rw [eq_comm, decide_eq_false_iff_not, he]
    clear he hne ga gb fa fb
    grind
  have hq : (a.HasQuery = b.HasQuery) ∧ (a.HasFrag = b.HasFrag) := by
    have h1 := h.1.1.1.2
    have h2 := h.1.2
    simp only [bne_eq_false_iff_eq] at h1 h2
    exact ⟨h1, h2⟩
  have hpl : a.Path.length = b.Path.length := h.1.1.1.1.1.1.1.1.1.1
  have he : a = b ↔ a.Path = b.Path := by
    rw [he]
    clear he hne ga gb fa fb
    grind
  clear h hq
  refine vcC_loop [2, 3, 5] (fun (i : Nat) => i ≤ a.Path.length ∧ ∀ j, j < i → a.Path.getD j [] = b.Path.getD j []) (fun i => [.ptr 0 13 0 0, .ptr 1 13 0 0, .cv (.int .i64 i)]) (fun _ => [.boxT 0 [.cv (.str a.Scheme), .cv (.str a.User), .cv (.str a.Pass), .cv (.int .i64 a.Host.Kind), .cv (.str a.Host.Name), .cv (.int .i64 a.Host.Addr), .cv (.int .i64 a.Port), .cv (.sl 1 (a.Path.map rStr.enc)), .cv (.str a.Opaque), .cv (.bool a.HasQuery), .cv (.str a.Query), .cv (.bool a.HasFrag), .cv (.str a.Frag)], .boxT 0 [.cv (.str b.Scheme), .cv (.str b.User), .cv (.str b.Pass), .cv (.int .i64 b.Host.Kind), .cv (.str b.Host.Name), .cv (.int .i64 b.Host.Addr), .cv (.int .i64 b.Port), .cv (.sl 1 (b.Path.map rStr.enc)), .cv (.str b.Opaque), .cv (.bool b.HasQuery), .cv (.str b.Query), .cv (.bool b.HasFrag), .cv (.str b.Frag)]]) (fun i => a.Path.length - i) 0 (by simp) ⟨rfl, rfl⟩ ?_
  rintro i ⟨hi, hj⟩
  rcases Nat.lt_or_ge i a.Path.length with hlt | hge
  · have hg := getD_at rStr hlt
    have hg2 := getD_at rStr (L := b.Path) (i := i) (by omega)
    try dsimp +instances only [go_sem, Nat.reduceBEq, Nat.reduceAdd, Nat.reduceSub, Nat.reduceLT, Nat.reduceLeDiff]
    repeat (simp only [hg, hg2, rStr_enc, Int.toNat_natCast, bb, Nat.reduceAdd, Int.reduceToNat, Int.reduceLE, Int.reduceLT, Nat.reduceLT, Nat.reduceMul, Nat.reduceLeDiff]; try dsimp +instances only [go_sem, Nat.reduceBEq, Nat.reduceAdd, Nat.reduceSub, Nat.reduceLT, Nat.reduceLeDiff])
    try simp only [nn, reduceCtorEq, hlt, decide_true]
    (repeat' (first | refine And.intro ?_ ?_ | intro _)) <;> try first | omega | trivial
    all_goals first
    | (refine nextL_intro (i + 1) ⟨by omega, fun j hj2 => ?_⟩ (by omega) rfl rfl
       rcases Nat.lt_or_ge j i with h3 | h3
       · exact hj j h3
       · obtain rfl : j = i := by omega
         rw [getD_lt hlt, getD_lt (by omega)]; assumption)
    | (rw [eq_comm, decide_eq_false_iff_not, he]
       intro h2
       rename_i h
       exact h (List.getElem_of_eq h2 _))
  · repeat (dsimp +instances only [go_sem, Nat.reduceBEq, Nat.reduceAdd, Nat.reduceSub, Nat.reduceLT, Nat.reduceLeDiff]; try simp only [bb, Nat.reduceAdd, Int.reduceToNat, Int.reduceLE, Int.reduceLT, Nat.reduceLT, Nat.reduceMul, Nat.reduceLeDiff])
    try simp only [nn, reduceCtorEq, Nat.not_lt.2 hge, decide_false]
    (repeat' (first | refine And.intro ?_ ?_ | intro _)) <;> try first | omega | trivial
    rw [eq_comm, decide_eq_true_eq, he]
    exact hne hpl fun j h => hj j (by omega)
def urlOk (u : Url) : Bool := (UrlGet (putU u)).2 && decide ((UrlGet (putU u)).1 = u)
def E86 : Env := { T := Tz.tab, G := Gl, C := [(110, ct110), (109, ct109), (111, ct111)], live := [(0, [1]), (1, [1, 3, 4]), (2, [2])] }
def ct86 : Ct := .scal (dom1 tUrl (fun u => urlSz u ≤ 16777216)) (fn1 tUrl fun u => [tBool.enc (urlOk u)])
attribute [go_sem] E86 ct86 Go.Proofs.Tryz.f86
theorem ok86 : CtOk Tryz.prog Gl 86 ct86 := okA1 (E := E86) (sound_of Tz.tab_ok Tz.mixed (AllOk.cons ok110 (AllOk.cons ok109 (AllOk.cons ok111 AllOk.nil)))) rfl Tryz.func86 (by kernel_rfl) fun u fu hp => by
  have gu := fu
  have fu := fit_url fu
  refine vcFn_intro rfl rfl (by kernel_rfl) rfl ?_
  repeat (dsimp +instances only [go_sem, Nat.reduceBEq, Nat.reduceAdd, Nat.reduceSub, Nat.reduceLT, Nat.reduceLeDiff]; try simp only [bb, Nat.reduceAdd, Int.reduceToNat, Int.reduceLE, Int.reduceLT, Nat.reduceLT, Nat.reduceMul, Nat.reduceLeDiff])
  repeat (dsimp +instances only [callIm_mk, killR, killA, killC, kill1, List.set_cons_zero, List.set_cons_succ]; repeat (dsimp +instances only [go_sem, Nat.reduceBEq, Nat.reduceAdd, Nat.reduceSub, Nat.reduceLT, Nat.reduceLeDiff]; try simp only [bb, Nat.reduceAdd, Int.reduceToNat, Int.reduceLE, Int.reduceLT, Nat.reduceLT, Nat.reduceMul, Nat.reduceLeDiff]))
  try simp only [nn, reduceCtorEq]
  (repeat' (first | refine And.intro ?_ ?_ | intro _)) <;> try first | omega | trivial
def E87 : Env := { T := Tz.tab, G := Gl, C := [], live := [(0, [1, 2]), (1, [1, 2, 6]), (2, [1, 2]), (3, [1, 2]), (4, [2])] }
def ct87 : Ct := .pure (dom1 tUrl (fun u => True)) (fn1 tUrl fun u => [tUrl.enc u])
attribute [go_sem] E87 ct87 Go.Proofs.Tryz.f87
theorem ok87 : CtOk Tryz.prog Gl 87 ct87 := okA1 (E := E87) (sound_of Tz.tab_ok Tz.mixed AllOk.nil) rfl Tryz.func87 (by kernel_rfl) fun u fu hp => by
  have gu := fu
  have fu := fit_url fu
  refine vcFn_intro rfl rfl (by kernel_rfl) rfl ?_
  have hf := (fit_url gu).path
  repeat (dsimp +instances only [go_sem, Nat.reduceBEq, Nat.reduceAdd, Nat.reduceSub, Nat.reduceLT, Nat.reduceLeDiff]; try simp only [bb, Nat.reduceAdd, Int.reduceToNat, Int.reduceLE, Int.reduceLT, Nat.reduceLT, Nat.reduceMul, Nat.reduceLeDiff])
  try simp only [nn, reduceCtorEq]
  (repeat' (first | refine And.intro ?_ ?_ | intro _)) <;> try first | omega | trivial
  rw [List.length_eq_zero_iff.1 (show u.Path.length = 0 by omega)]
  rfl
end Go.Gx
end
section
namespace Go.Gx
open Go.Proofs
def E226 : Env := { T := Tz.tab, G := Gl, C := [], live := [(0, [0, 1]), (1, [0, 1, 7, 8]), (2, [0, 1, 7, 8, 9]), (3, [0, 1, 5, 7, 8]), (4, [0, 1, 5, 7, 8, 16]), (5, [4]), (6, [0, 1, 7, 8]), (7, [4])] }
def ct226 : Ct := .scal (dom2 tStrs tStr (fun s v => True)) (fn2 tStrs tStr fun s v => [tInt.enc (if v ∈ s then (s.idxOf v : Int) else -1)])
attribute [go_sem] E226 ct226 Go.Proofs.Tryz.f226
theorem ok226 : CtOk Tryz.prog Gl 226 ct226 := okA2 (E := E226) (sound_of Tz.tab_ok Tz.mixed AllOk.nil) rfl Tryz.func226 (by kernel_rfl) fun s v fs fv hp => by
  have gs := fs
  have fs := fit_list fs
  have fv := fit_str fv
  refine vcFn_intro rfl rfl (by kernel_rfl) rfl ?_
  repeat (dsimp +instances only [go_sem, Nat.reduceBEq, Nat.reduceAdd, Nat.reduceSub, Nat.reduceLT, Nat.reduceLeDiff]; try simp only [bb, Nat.reduceAdd, Int.reduceToNat, Int.reduceLE, Int.reduceLT, Nat.reduceLT, Nat.reduceMul, Nat.reduceLeDiff])
  refine vcC_loop [0, 1, 7, 8] (fun (i : Nat) => i ≤ s.length ∧ v ∉ s.take i) (fun i => [.cv (.sl 1 (s.map rStr.enc)), .cv (.str v), .cv (.int .i64 s.length), .cv (.int .i64 i)]) (fun _ => []) (fun i => s.length - i) 0 (by simp) ⟨rfl, rfl⟩ ?_
  rintro i ⟨hi, hn⟩
  rcases Nat.lt_or_ge i s.length with hlt | hge
  · have hg := getD_at rStr hlt
    try dsimp +instances only [go_sem, Nat.reduceBEq, Nat.reduceAdd, Nat.reduceSub, Nat.reduceLT, Nat.reduceLeDiff]
    repeat (simp only [hg, rStr_enc, Int.toNat_natCast, bb, Nat.reduceAdd, Int.reduceToNat, Int.reduceLE, Int.reduceLT, Nat.reduceLT, Nat.reduceMul, Nat.reduceLeDiff]; try dsimp +instances only [go_sem, Nat.reduceBEq, Nat.reduceAdd, Nat.reduceSub, Nat.reduceLT, Nat.reduceLeDiff])
    try simp only [nn, reduceCtorEq, hlt, decide_true]
    have ht := take_snoc hlt
    (repeat' (first | refine And.intro ?_ ?_ | intro _)) <;> try first | omega | trivial
    · rename_i h
      rw [if_pos (h ▸ List.getElem_mem hlt)]
      have hd : s = s.take i ++ s[i] :: s.drop (i + 1) := by rw [← List.drop_eq_getElem_cons hlt, List.take_append_drop]
      have : s.idxOf v = i := by
        rw [hd, List.idxOf_append, if_neg hn, ← h, List.idxOf_cons_self]; simp; omega
      rw [this]
    · exact nextL_intro (i + 1) ⟨by omega, by rw [ht, List.mem_append, List.mem_singleton, not_or]; exact ⟨hn, by assumption⟩⟩ (by omega) rfl rfl
  · rw [List.take_of_length_le hge] at hn
    repeat (dsimp +instances only [go_sem, Nat.reduceBEq, Nat.reduceAdd, Nat.reduceSub, Nat.reduceLT, Nat.reduceLeDiff]; try simp only [bb, Nat.reduceAdd, Int.reduceToNat, Int.reduceLE, Int.reduceLT, Nat.reduceLT, Nat.reduceMul, Nat.reduceLeDiff])
    try simp only [nn, reduceCtorEq, Nat.not_lt.2 hge, decide_false]
    (repeat' (first | refine And.intro ?_ ?_ | intro _)) <;> try first | omega | trivial
    rw [if_neg hn]
def E202 : Env := { T := Tz.tab, G := Gl, C := [(226, ct226)], live := [(0, [0, 1]), (1, [4])] }
def ct202 : Ct := .scal (dom2 tStrs tStr (fun s v => True)) (fn2 tStrs tStr fun s v => [tBool.enc (decide (v ∈ s))])
attribute [go_sem] E202 ct202 Go.Proofs.Tryz.f202
theorem ok202 : CtOk Tryz.prog Gl 202 ct202 := okA2 (E := E202) (sound_of Tz.tab_ok Tz.mixed (AllOk.cons ok226 AllOk.nil)) rfl Tryz.func202 (by kernel_rfl) fun s v fs fv hp => by
  have gs := fs
  have fs := fit_list fs
  have fv := fit_str fv
  refine vcFn_intro rfl rfl (by kernel_rfl) rfl ?_
  repeat (dsimp +instances only [go_sem, Nat.reduceBEq, Nat.reduceAdd, Nat.reduceSub, Nat.reduceLT, Nat.reduceLeDiff]; try simp only [bb, Nat.reduceAdd, Int.reduceToNat, Int.reduceLE, Int.reduceLT, Nat.reduceLT, Nat.reduceMul, Nat.reduceLeDiff])
  try simp only [nn, reduceCtorEq]
  split <;> simp [*]
def E159 : Env := { T := Tz.tab, G := Gl, C := [], live := [(0, [0]), (1, [0, 4]), (2, [2]), (3, [2])] }
def ct159 : Ct := .pure (dom1 tStrs (fun s => True)) (fn1 tStrs fun s => [tStrs.enc s])
attribute [go_sem] E159 ct159 Go.Proofs.Tryz.f159
theorem ok159 : CtOk Tryz.prog Gl 159 ct159 := okA1 (E := E159) (sound_of Tz.tab_ok Tz.mixed AllOk.nil) rfl Tryz.func159 (by kernel_rfl) fun s fs hp => by
  have gs := fs
  have fs := fit_list fs
  refine vcFn_intro rfl rfl (by kernel_rfl) rfl ?_
  repeat (dsimp +instances only [go_sem, Nat.reduceBEq, Nat.reduceAdd, Nat.reduceSub, Nat.reduceLT, Nat.reduceLeDiff]; try simp only [bb, Nat.reduceAdd, Int.reduceToNat, Int.reduceLE, Int.reduceLT, Nat.reduceLT, Nat.reduceMul, Nat.reduceLeDiff])
  try simp only [nn, reduceCtorEq]
  (repeat' (first | refine And.intro ?_ ?_ | intro _)) <;> try first | omega | trivial
  rename_i h
  rw [h]
def E158 : Env := { T := Tz.tab, G := Gl, C := [], live := [(0, [0]), (1, [2])] }
def ct158 : Ct := inlK E158 Go.Proofs.Tryz.f158 #[ResultVar.tmp 2] 1
attribute [go_sem] E158 ct158 Go.Proofs.Tryz.f158
theorem ok158 : CtOk Tryz.prog Gl 158 ct158 := inl_ok (E := E158) (sound_of Tz.tab_ok Tz.mixed AllOk.nil) Tryz.func158 (by kernel_rfl) rfl rfl rfl (fun pin => by kernel_rfl)
def E121 : Env := { T := Tz.tab, G := Gl, C := [(159, ct159), (158, ct158)], live := [(0, [0]), (1, [2])] }
def ct121 : Ct := .pure (dom1 tStrs (fun list => True)) (fn1 tStrs fun list => [tStrs.enc list])
attribute [go_sem] E121 ct121 Go.Proofs.Tryz.f121
theorem ok121 : CtOk Tryz.prog Gl 121 ct121 := okA1 (E := E121) (sound_of Tz.tab_ok Tz.mixed (AllOk.cons ok159 (AllOk.cons ok158 AllOk.nil))) rfl Tryz.func121 (by kernel_rfl) fun list flist hp => by
  have glist := flist
  have flist := fit_list flist
  refine vcFn_intro rfl rfl (by kernel_rfl) rfl ?_
  repeat (dsimp +instances only [go_sem, Nat.reduceBEq, Nat.reduceAdd, Nat.reduceSub, Nat.reduceLT, Nat.reduceLeDiff]; try simp only [bb, Nat.reduceAdd, Int.reduceToNat, Int.reduceLE, Int.reduceLT, Nat.reduceLT, Nat.reduceMul, Nat.reduceLeDiff])
  try simp only [nn, reduceCtorEq]
  (repeat' (first | refine And.intro ?_ ?_ | intro _)) <;> try first | omega | trivial
def E120 : Env := { T := Tz.tab, G := Gl, C := [], live := [(0, [0, 1]), (1, [0, 1, 10]), (2, [4]), (3, [0, 1, 12, 13]), (4, [0, 1, 12, 13, 14]), (5, [0, 1, 5, 12, 13]), (6, [0, 1, 12, 13, 24]), (7, [4]), (8, [0, 1, 12, 13]), (9, [4])] }
def ct120 : Ct := .scal (dom2 tStrs tStrs (fun a b => True)) (fn2 tStrs tStrs fun a b => [tBool.enc (decide (a = b))])
attribute [go_sem] E120 ct120 Go.Proofs.Tryz.f120
theorem ok120 : CtOk Tryz.prog Gl 120 ct120 := okA2 (E := E120) (sound_of Tz.tab_ok Tz.mixed AllOk.nil) rfl Tryz.func120 (by kernel_rfl) fun a b fa fb hp => by
  have ga := fa
  have fa := fit_list fa
  have gb := fb
  have fb := fit_list fb
  refine vcFn_intro rfl rfl (by kernel_rfl) rfl ?_
  repeat (dsimp +instances only [go_sem, Nat.reduceBEq, Nat.reduceAdd, Nat.reduceSub, Nat.reduceLT, Nat.reduceLeDiff]; try simp only [bb, Nat.reduceAdd, Int.reduceToNat, Int.reduceLE, Int.reduceLT, Nat.reduceLT, Nat.reduceMul, Nat.reduceLeDiff])
  try simp only [nn, reduceCtorEq]
  refine ⟨fun h => ?_, fun h => ?_⟩
  · rw [eq_comm, decide_eq_false_iff_not]
    intro e; exact h (by rw [e])
  refine vcC_loop [0, 1, 12, 13] (fun (i : Nat) => i ≤ a.length ∧ ∀ j, j < i → a.getD j [] = b.getD j []) (fun i => [.cv (.sl 1 (a.map rStr.enc)), .cv (.sl 1 (b.map rStr.enc)), .cv (.int .i64 a.length), .cv (.int .i64 i)]) (fun _ => []) (fun i => a.length - i) 0 (by simp) ⟨rfl, rfl⟩ ?_
  rintro i ⟨hi, hj⟩
  rcases Nat.lt_or_ge i a.length with hlt | hge
  · have hg := getD_at rStr hlt
    have hg2 := getD_at rStr (L := b) (i := i) (by omega)
    try dsimp +instances only [go_sem, Nat.reduceBEq, Nat.reduceAdd, Nat.reduceSub, Nat.reduceLT, Nat.reduceLeDiff]
    repeat (simp only [hg, hg2, rStr_enc, Int.toNat_natCast, bb, Nat.reduceAdd, Int.reduceToNat, Int.reduceLE, Int.reduceLT, Nat.reduceLT, Nat.reduceMul, Nat.reduceLeDiff]; try dsimp +instances only [go_sem, Nat.reduceBEq, Nat.reduceAdd, Nat.reduceSub, Nat.reduceLT, Nat.reduceLeDiff])
    try simp only [nn, reduceCtorEq, hlt, decide_true]
    (repeat' (first | refine And.intro ?_ ?_ | intro _)) <;> try first | omega | trivial
    all_goals first
    | (refine nextL_intro (i + 1) ⟨by omega, fun j hj2 => ?_⟩ (by omega) rfl rfl
       rcases Nat.lt_or_ge j i with h3 | h3
       · exact hj j h3
       · obtain rfl : j = i := by omega
         rw [getD_lt hlt, getD_lt (by omega)]; assumption)
    | (rw [eq_comm, decide_eq_false_iff_not]
       intro h2
       rename_i h
       exact h (List.getElem_of_eq h2 _))
  · repeat (dsimp +instances only [go_sem, Nat.reduceBEq, Nat.reduceAdd, Nat.reduceSub, Nat.reduceLT, Nat.reduceLeDiff]; try simp only [bb, Nat.reduceAdd, Int.reduceToNat, Int.reduceLE, Int.reduceLT, Nat.reduceLT, Nat.reduceMul, Nat.reduceLeDiff])
    try simp only [nn, reduceCtorEq, Nat.not_lt.2 hge, decide_false]
    (repeat' (first | refine And.intro ?_ ?_ | intro _)) <;> try first | omega | trivial
    rw [eq_comm, decide_eq_true_eq]
    refine List.ext_getElem h fun i h3 h4 => ?_
    have := hj i (by omega)
    rwa [getD_lt h3, getD_lt h4] at this
theorem decN_eq : ∀ n : Nat, Lib.decDigits n = decN n := by
  intro n
  induction n using Nat.strongRecOn with
  | _ n ih =>
    rw [Lib.decDigits, decN]
    split
    · rfl
    · rw [ih (n / 10) (by omega)]
theorem tab_pow10 {w : World} (hG : GOk Gl (heapS w)) : Lib.TabIs Tryz.prog w "internal/strconv.uint64pow10" .u64 Lib.pow10Tab := by
  obtain ⟨cur, T, fr, h1, hz, h2⟩ := hG 2 (by simp [GlobOk, Env.glob, Gl, look])
  have h1 : w.heap[2]? = some (.cells cur T fr) := h1
  have hg : ({ T := [], G := Gl, C := [] } : Env).glob 2 = Lib.pow10Tab.map fun z => CV.int .u64 z := by kernel_rfl
  rw [hg] at hz h2
  unfold Lib.TabIs World.var?
  rw [show Tryz.prog.globalNamed "internal/strconv.uint64pow10" = some 2 by kernel_rfl]
  simp only [Option.bind_some, h1]
  congr 1
  rw [List.length_map] at hz
  refine Array.ext (by simpa using hz) fun i hi1 hi2 => ?_
  have hi : i < Lib.pow10Tab.length := by omega
  obtain ⟨x, hx, hr⟩ := h2 i (.int .u64 Lib.pow10Tab[i]) (by rw [List.getElem?_map, List.getElem?_eq_getElem hi]; rfl)
  rw [Array.getElem?_eq_getElem hi1] at hx
  injection hx with hx; subst hx
  generalize cur[i] = u at hr
  cases hr
  simp
def ct118 : Ct := .scal (dom1 tInt fun n => 0 ≤ n) (fn1 tInt fun n => [tStr.enc (decN n.toNat)])
attribute [go_sem] ct118
theorem ok118 : CtOk Tryz.prog Gl 118 ct118 := fun w cs vs hG ha hd => by
  obtain ⟨n, rfl, h0⟩ := dom1_inv hd
  obtain ⟨x, rfl, h1⟩ := ias1 ha
  obtain ⟨rfl, hn⟩ := ia_int h1
  refine ⟨⟨_, _, Tryz.func118, rfl, by kernel_rfl⟩, (Tryz.strconv_Itoa n hn.1 hn.2 w (tab_pow10 hG)).mono ?_⟩
  rintro e w' ⟨rfl, k, os, rfl⟩
  refine ⟨_, rfl, ⟨fun b hb => ?_, ?_, rfl, rfl, rfl⟩, fun _ => False, ?_, fun _ h => h.elim⟩
  · exact Lib.heap_grow_old w k os b hb
  · exact Lib.size_grow w k os
  · simp only [fn1, Ty.de]
    have e : Lib.itoa n = decN n.toNat := by rw [Lib.itoa, if_neg (by omega), decN_eq]
    rw [e]
    have := decN_len19 n hn
    exact oa_str (by omega)
theorem strs_cells {w : World} {l : List Str} {v : Value} (h : RepI (heapS w) (.sl 1 (l.map rStr.enc)) v) (hne : l ≠ []) :
    ∃ b o c, v = .slice (some ⟨b, o, none⟩) l.length c ∧ l.length ≤ c ∧ b < w.heap.size ∧ Fit l.length ∧ ∀ j x, l[j]? = some x → w.cell? ⟨b, o + j, none⟩ = some (.string ⟨x.toArray⟩) := by
  generalize hes : l.map rStr.enc = es at h
  cases h with
  | nil => simp at hes; exact absurd hes hne
  | sl vals h1 h2 h3 h4 h5 h6 =>
    rename_i b o c cur T fr
    have hl : es.length = l.length := by rw [← hes]; simp
    rw [hl] at h1 h4 ⊢
    have h3 : w.heap[b]? = some (.cells cur T fr) := h3
    refine ⟨b, o, c, rfl, h4, (Array.getElem?_eq_some_iff.1 h3).1, h1, fun j x hx => ?_⟩
    have hj : j < l.length := (List.getElem?_eq_some_iff.1 hx).1
    have hc := h5 j 0 (by omega) (by omega)
    have hr := h6 j 0 (by omega) (by omega)
    have hg : getC es j 0 = .str x := by
      unfold getC
      rw [← hes, getD_at rStr hj]
      have : l[j] = x := by rw [List.getElem?_eq_getElem hj] at hx; injection hx
      rw [this]; rfl
    rw [hg] at hr
    generalize vals j 0 = u at hc hr
    cases hr
    simp only [Nat.mul_one, Nat.add_zero] at hc
    simp [World.cell?, h3, hc]
def ct154 : Ct := .scal (dom2 tStrs tStr fun l p => l ≠ [] ∧ (Lib.join l p).length ≤ 16777216) (fn2 tStrs tStr fun l p => [tStr.enc (Lib.join l p)])
attribute [go_sem] ct154
theorem ok154 : CtOk Tryz.prog Gl 154 ct154 := fun w cs vs hG ha hd => by
  obtain ⟨l, p, rfl, hne, hlen⟩ := dom2_inv hd
  obtain ⟨x, y, rfl, h1, h2⟩ := ias2 ha
  obtain ⟨rfl, hf⟩ := ia_str h2
  obtain ⟨c0, hc0, h1⟩ := h1
  injection hc0 with hc0 _; subst hc0
  obtain ⟨b, o, c, rfl, hc, hb, hfl, hcell⟩ := strs_cells h1 hne
  have hm : (l.map fun s => (⟨s.toArray⟩ : ByteArray)).map (fun x => x.data.toList) = l := by
    rw [List.map_map]
    conv => rhs; rw [← List.map_id l]
    exact List.map_congr_left fun a _ => rfl
  have := Tryz.strings_Join b o c (l.map fun s => ⟨s.toArray⟩) ⟨p.toArray⟩ w (fun j x hx => by
      rw [List.getElem?_map, Option.map_eq_some_iff] at hx
      obtain ⟨s, hs, rfl⟩ := hx
      exact hcell j s hs) hb (by simp; omega) (by simpa using hc) (by rw [hm]; simp; omega)
  rw [hm, List.length_map] at this
  refine ⟨⟨_, _, Tryz.func154, rfl, by kernel_rfl⟩, this.mono ?_⟩
  rintro e w' ⟨rfl, hw⟩
  refine ⟨_, rfl, later_below hw, fun _ => False, ?_, fun _ h => h.elim⟩
  simp only [fn2, Ty.de]
  exact oa_str (by omega)
theorem count_le1 (s p : Str) (h : p ≠ []) : Lib.count s p ≤ s.length := by
  have := Lib.countB_le ⟨p.toArray⟩ (by simp [ByteArray.size]; exact List.length_pos_iff.2 h) s.length ⟨s.toArray⟩ (by simp [ByteArray.size])
  simpa [Lib.countB, ByteArray.size] using this
def ct204 : Ct := .scal (dom3 tStr tStr tStr fun s o n => s.length ≤ 1073741824 ∧ o ≠ [] ∧ n.length ≤ 1 ∧ (Lib.replaceAll s o n).length ≤ 1073741824) (fn3 tStr tStr tStr fun s o n => [tStr.enc (Lib.replaceAll s o n)])
attribute [go_sem] ct204
theorem ok204 : CtOk Tryz.prog Gl 204 ct204 := fun w cs vs hG ha hd => by
  obtain ⟨s, o, n, rfl, hs, ho, hn, hr⟩ := dom3_inv hd
  obtain ⟨x, y, z, rfl, h1, h2, h3⟩ := ias3 ha
  obtain ⟨rfl, hf⟩ := ia_str h1
  obtain ⟨rfl, _⟩ := ia_str h2
  obtain ⟨rfl, _⟩ := ia_str h3
  obtain ⟨m, hm⟩ := maxLen_cell hG
  have hc := count_le1 s o ho
  have ho1 : 1 ≤ o.length := List.length_pos_iff.2 ho
  refine ⟨⟨_, _, Tryz.func204, rfl, by kernel_rfl⟩, (Tryz.strings_ReplaceAll ⟨s.toArray⟩ ⟨o.toArray⟩ ⟨n.toArray⟩ m w (by rw [str_size]; omega) hm (by rw [str_size]; omega) ?_).mono ?_⟩
  · rw [str_size, str_size]
    have : Lib.countB ⟨s.toArray⟩ ⟨o.toArray⟩ * n.length ≤ s.length * 1 := Nat.mul_le_mul hc hn
    omega
  rintro e w' ⟨rfl, hw⟩
  refine ⟨_, rfl, later_below hw, fun _ => False, ?_, fun _ h => h.elim⟩
  simp only [fn3, Ty.de]
  exact oa_str (by omega)
end Go.Gx
end
section
namespace Go.Gx
open Go.Proofs
def E31 : Env := { T := Tz.tab, G := Gl, C := [], live := [(0, [0, 1, 2]), (1, [6])] }
def ct31 : Ct := .scal (dom3 tInt tInt tInt (fun n lo hi => True)) (fn3 tInt tInt tInt fun n lo hi => [tBool.enc (decide (lo ≤ n ∧ n ≤ hi))])
attribute [go_sem] E31 ct31 Go.Proofs.Tryz.f31
theorem ok31 : CtOk Tryz.prog Gl 31 ct31 := okA3 (E := E31) (sound_of Tz.tab_ok Tz.mixed AllOk.nil) rfl Tryz.func31 (by kernel_rfl) fun n lo hi fn flo fhi hp => by
  have fn := fit_int fn
  have flo := fit_int flo
  have fhi := fit_int fhi
  refine vcFn_intro rfl rfl (by kernel_rfl) rfl ?_
  try dsimp +instances only [go_sem, Nat.reduceBEq, Nat.reduceAdd, Nat.reduceSub, Nat.reduceLT, Nat.reduceLeDiff]
  try simp only [bb, Nat.reduceAdd, Int.reduceToNat, Int.reduceLE, Int.reduceLT, Nat.reduceLT, Nat.reduceMul, Nat.reduceLeDiff]
  grind
def E198 : Env := { T := Tz.tab, G := Gl, C := [], live := [(0, [0]), (1, [0, 3]), (2, [2]), (3, [0, 13]), (4, [2]), (5, [0, 24]), (6, [2]), (7, [2])] }
def ct198 : Ct := .scal (dom1 tByte (fun c => True)) (fn1 tByte fun c => [tInt.enc (hexv c)])
attribute [go_sem] E198 ct198 Go.Proofs.Tryz.f198
theorem ok198 : CtOk Tryz.prog Gl 198 ct198 := okA1 (E := E198) (sound_of Tz.tab_ok Tz.mixed AllOk.nil) rfl Tryz.func198 (by kernel_rfl) fun c fc hp => by
  refine vcFn_intro rfl rfl (by kernel_rfl) rfl ?_
  try dsimp +instances only [go_sem, Nat.reduceBEq, Nat.reduceAdd, Nat.reduceSub, Nat.reduceLT, Nat.reduceLeDiff]
  try simp only [bb, Nat.reduceAdd, Int.reduceToNat, Int.reduceLE, Int.reduceLT, Nat.reduceLT, Nat.reduceMul, Nat.reduceLeDiff]
  (repeat' (first | refine And.intro ?_ ?_ | intro _)) <;> try first | omega | trivial
  all_goals grind [hexv]
def E169 : Env := { T := Tz.tab, G := Gl, C := [], live := [(0, [0]), (1, [2])] }
def ct169 : Ct := .scal (dom1 tByte (fun c => True)) (fn1 tByte fun c => [tBool.enc (decide (48 ≤ c.toNat ∧ c.toNat ≤ 57))])
attribute [go_sem] E169 ct169 Go.Proofs.Tryz.f169
theorem ok169 : CtOk Tryz.prog Gl 169 ct169 := okA1 (E := E169) (sound_of Tz.tab_ok Tz.mixed AllOk.nil) rfl Tryz.func169 (by kernel_rfl) fun c fc hp => by
  refine vcFn_intro rfl rfl (by kernel_rfl) rfl ?_
  try dsimp +instances only [go_sem, Nat.reduceBEq, Nat.reduceAdd, Nat.reduceSub, Nat.reduceLT, Nat.reduceLeDiff]
  try simp only [bb, Nat.reduceAdd, Int.reduceToNat, Int.reduceLE, Int.reduceLT, Nat.reduceLT, Nat.reduceMul, Nat.reduceLeDiff]
  grind
def E168 : Env := { T := Tz.tab, G := Gl, C := [], live := [(0, [0]), (1, [2])] }
def ct168 : Ct := .scal (dom1 tByte (fun c => True)) (fn1 tByte fun c => [tBool.enc (decide ((97 ≤ c.toNat ∧ c.toNat ≤ 122) ∨ (65 ≤ c.toNat ∧ c.toNat ≤ 90)))])
attribute [go_sem] E168 ct168 Go.Proofs.Tryz.f168
theorem ok168 : CtOk Tryz.prog Gl 168 ct168 := okA1 (E := E168) (sound_of Tz.tab_ok Tz.mixed AllOk.nil) rfl Tryz.func168 (by kernel_rfl) fun c fc hp => by
  refine vcFn_intro rfl rfl (by kernel_rfl) rfl ?_
  try dsimp +instances only [go_sem, Nat.reduceBEq, Nat.reduceAdd, Nat.reduceSub, Nat.reduceLT, Nat.reduceLeDiff]
  try simp only [bb, Nat.reduceAdd, Int.reduceToNat, Int.reduceLE, Int.reduceLT, Nat.reduceLT, Nat.reduceMul, Nat.reduceLeDiff]
  grind
def E147 : Env := { T := Tz.tab, G := Gl, C := [], live := [(0, [0]), (1, [2])] }
def ct147 : Ct := .scal (dom1 tByte (fun c => True)) (fn1 tByte fun c => [tBool.enc (slashC c)])
attribute [go_sem] E147 ct147 Go.Proofs.Tryz.f147
theorem ok147 : CtOk Tryz.prog Gl 147 ct147 := okA1 (E := E147) (sound_of Tz.tab_ok Tz.mixed AllOk.nil) rfl Tryz.func147 (by kernel_rfl) fun c fc hp => by
  refine vcFn_intro rfl rfl (by kernel_rfl) rfl ?_
  try dsimp +instances only [go_sem, Nat.reduceBEq, Nat.reduceAdd, Nat.reduceSub, Nat.reduceLT, Nat.reduceLeDiff]
  try simp only [bb, Nat.reduceAdd, Int.reduceToNat, Int.reduceLE, Int.reduceLT, Nat.reduceLT, Nat.reduceMul, Nat.reduceLeDiff]
  grind [slashC]
def E115 : Env := { T := Tz.tab, G := Gl, C := [], live := [(0, [0]), (1, [4]), (2, [4, 5]), (3, [2, 3]), (4, [7]), (5, [2, 3]), (6, [2, 3])] }
def ct115 : Ct := .scal (dom1 tStr (fun scheme => True)) (fn1 tStr fun scheme => [tInt.enc (ownN scheme), tBool.enc (decide (0 ≤ ownN scheme))])
attribute [go_sem] E115 ct115 Go.Proofs.Tryz.f115
theorem ok115 : CtOk Tryz.prog Gl 115 ct115 := okA1 (E := E115) (sound_of Tz.tab_ok Tz.mixed AllOk.nil) rfl Tryz.func115 (by kernel_rfl) fun scheme fscheme hp => by
  have fscheme := fit_str fscheme
  refine vcFn_intro rfl rfl (by kernel_rfl) rfl ?_
  repeat (dsimp +instances only [go_sem, Nat.reduceBEq, Nat.reduceAdd, Nat.reduceSub, Nat.reduceLT, Nat.reduceLeDiff]; try simp only [bb, Nat.reduceAdd, Int.reduceToNat, Int.reduceLE, Int.reduceLT, Nat.reduceLT, Nat.reduceMul, Nat.reduceLeDiff])
  try simp only [nn, reduceCtorEq]
  (repeat' (first | refine And.intro ?_ ?_ | intro _)) <;> try first | omega | trivial
  all_goals grind (splits := 20) [ownN]
theorem low_step {s : Str} {i : Nat} (h : i < s.length) : lower (s.take (i + 1)) ++ s.drop (i + 1) = (lower (s.take i) ++ s.drop i).set i (lowB s[i]) := by
  rw [take_snoc h, List.drop_eq_getElem_cons h, lower, List.map_append, List.set_append_right _ _ (by simp [lower]; omega)]
  rw [lower, List.length_map, List.length_take, Nat.min_eq_left (Nat.le_of_lt h), Nat.sub_self]
  simp only [List.map_cons, List.map_nil, List.append_assoc, List.singleton_append, List.set_cons_zero]
def E170 : Env := { T := Tz.tab, G := Gl, C := [], live := [(0, [0]), (1, [3]), (2, [3, 8, 9, 10]), (3, [3, 8, 9, 10, 11]), (4, [3, 4, 5, 8, 9, 10]), (5, [3, 4, 5, 8, 9, 10, 20]), (6, [3, 8, 9, 10]), (7, [3, 8, 9, 10]), (8, [2])] }
def ct170 : Ct := .scal (dom1 tStr (fun text => True)) (fn1 tStr fun text => [tStr.enc (lower text)])
attribute [go_sem] E170 ct170 Go.Proofs.Tryz.f170
theorem ok170 : CtOk Tryz.prog Gl 170 ct170 := okA1 (E := E170) (sound_of Tz.tab_ok Tz.mixed AllOk.nil) rfl Tryz.func170 (by kernel_rfl) fun text ftext hp => by
  have ftext := fit_str ftext
  refine vcFn_intro rfl rfl (by kernel_rfl) rfl ?_
  repeat (dsimp +instances only [go_sem, Nat.reduceBEq, Nat.reduceAdd, Nat.reduceSub, Nat.reduceLT, Nat.reduceLeDiff]; try simp only [bb, Nat.reduceAdd, Int.reduceToNat, Int.reduceLE, Int.reduceLT, Nat.reduceLT, Nat.reduceMul, Nat.reduceLeDiff])
  refine ⟨by omega, by omega, ?_⟩
  refine vcC_loop [3, 8, 9, 10] (fun (i : Nat) => i ≤ text.length) (fun i => [.pth 0 1 0 text.length, .pth 0 1 0 text.length, .cv (.int .i64 text.length), .cv (.int .i64 i)]) (fun i => [.byt (lower (text.take i) ++ text.drop i)]) (fun i => text.length - i) 0 (by simp) ⟨rfl, by simp [lower]; rfl⟩ ?_
  intro i hi
  rcases Nat.lt_or_ge i text.length with hlt | hge
  · have hg : (lower (text.take i) ++ text.drop i).getD i 0 = text[i] := by
      rw [getD_lt (by simp [lower]; omega), List.getElem_append_right (by simp [lower]; omega)]; simp [lower, Nat.min_eq_left (Nat.le_of_lt hlt)]
    have hln : (lower (text.take i)).length + (text.drop i).length = text.length := by simp [lower]; omega
    have hst := low_step hlt
    have hset : (lower (text.take i) ++ text.drop i).set i text[i] = lower (text.take i) ++ text.drop i := by
      conv => lhs; arg 3; rw [← hg]
      rw [getD_lt (by simp [lower]; omega)]; exact List.set_getElem_self (by simp [lower]; omega)
    repeat (dsimp +instances only [go_sem, Nat.reduceBEq, Nat.reduceAdd, Nat.reduceSub, Nat.reduceLT, Nat.reduceLeDiff]; try simp only [bb, Nat.reduceAdd, Int.reduceToNat, Int.reduceLE, Int.reduceLT, Nat.reduceLT, Nat.reduceMul, Nat.reduceLeDiff])
    try simp only [nn, reduceCtorEq, hlt, decide_true]
    simp only [hg, hln]
    (repeat' (first | refine And.intro ?_ ?_ | intro _)) <;> try first | omega | trivial
    all_goals first
    | (refine nextL_intro (i + 1) (by omega) (by omega) rfl ?_
       rw [hst, u8_eq (c := lowB text[i]) (by rw [lowB_toNat]; split <;> omega)])
    | (refine nextL_intro (i + 1) (by omega) (by omega) rfl ?_
       rw [hst, show lowB text[i] = text[i] by (apply UInt8.toNat_inj.1; rw [lowB_toNat, if_neg (by omega)]), hset])
  · have hm : lower (text.take i) ++ text.drop i = lower text := by rw [List.drop_eq_nil_of_le hge, List.take_of_length_le hge, List.append_nil]
    have hm2 := lower_len text
    simp only [hm]
    repeat (dsimp +instances only [go_sem, Nat.reduceBEq, Nat.reduceAdd, Nat.reduceSub, Nat.reduceLT, Nat.reduceLeDiff]; try simp only [bb, Nat.reduceAdd, Int.reduceToNat, Int.reduceLE, Int.reduceLT, Nat.reduceLT, Nat.reduceMul, Nat.reduceLeDiff])
    try simp only [nn, reduceCtorEq, Nat.not_lt.2 hge, decide_false]
    (repeat' (first | refine And.intro ?_ ?_ | intro _)) <;> try first | omega | trivial
    rw [List.take_of_length_le (by omega)]
def E199 : Env := { T := Tz.tab, G := Gl, C := [(203, ct203)], live := [(0, [0]), (1, [3]), (2, [3, 4]), (3, [3, 4, 18]), (4, [3]), (5, [2])] }
def ct199 : Ct := .pure (dom1 tStr (fun text => text.length ≤ 1073741823)) (fn1 tStr fun text => [tStrs.enc (partsH text)])
attribute [go_sem] E199 ct199 Go.Proofs.Tryz.f199
theorem ok199 : CtOk Tryz.prog Gl 199 ct199 := okA1 (E := E199) (sound_of Tz.tab_ok Tz.mixed (AllOk.cons ok203 AllOk.nil)) rfl Tryz.func199 (by kernel_rfl) fun text ftext hp => by
  have ftext := fit_str ftext
  refine vcFn_intro rfl rfl (by kernel_rfl) rfl ?_
  have hne : splitB 46 text ≠ [] := splitG_ne _ _ _
  have hlen := splitG_len 46 text []
  have hg := getD_last hne
  repeat (dsimp +instances only [go_sem, Nat.reduceBEq, Nat.reduceAdd, Nat.reduceSub, Nat.reduceLT, Nat.reduceLeDiff]; try simp only [bb, Nat.reduceAdd, Int.reduceToNat, Int.reduceLE, Int.reduceLT, Nat.reduceLT, Nat.reduceMul, Nat.reduceLeDiff])
  try simp only [nn, reduceCtorEq]
  have hlen' : 0 < (splitB 46 text).length := List.length_pos_iff.2 hne
  have hlen'' : (splitB 46 text).length ≤ text.length + 1 := hlen
  simp only [hg]
  repeat (dsimp +instances only [go_sem, Nat.reduceBEq, Nat.reduceAdd, Nat.reduceSub, Nat.reduceLT, Nat.reduceLeDiff]; try simp only [bb, Nat.reduceAdd, Int.reduceToNat, Int.reduceLE, Int.reduceLT, Nat.reduceLT, Nat.reduceMul, Nat.reduceLeDiff])
  try simp only [nn, reduceCtorEq]
  have hgl : (splitB 46 text).getLast?.getD [] = [] ↔ (splitB 46 text).getLast? = some [] := by
    cases h : (splitB 46 text).getLast? with
    | none => rw [List.getLast?_eq_none_iff] at h; exact absurd h hne
    | some x => simp
  (repeat' (first | refine And.intro ?_ ?_ | intro _)) <;> try first | omega | trivial
  · rename_i h
    simp only [partsH]
    rw [if_pos ⟨by omega, hgl.1 h.2⟩, List.dropLast_eq_take, List.map_take]
  · rename_i h
    simp only [partsH]
    rw [if_neg]
    rintro ⟨h1, h2⟩
    rw [← hgl] at h2
    grind
end Go.Gx
end

/- Part 8 of the proof of the card of laws.Rows.FnExactWindowShow: lemmas. No condition. -/
import Derived.Test.YtknhiboiffmaeaaGreatDoorK07
import Derived.KernelRfl
import Derived.Shelf.Strings.IndexAnyAll
import Derived.Laws.RangeAny
import Derived.Laws.Runes
import Derived.Lib.OthersKept
import Derived.WalkMore
import Derived.Shelf.Small.Utf8
import Derived.Shelf.RegionOpenPlain
import Derived.Deep.Draws
import Derived.Deep.QuietTactic
import Derived.Shelf.Sort.Plain
import Derived.Shelf.Slices.CompactI
import Derived.Shelf.Slices.In.SortNone
import Derived.Test.YtknhiboiffmaeaaGreatDoorK01
import Derived.Test.YtknhiboiffmaeaaGreatDoorK02
import Derived.Test.YtknhiboiffmaeaaGreatDoorK03
import Derived.Test.YtknhiboiffmaeaaGreatDoorK04
import Derived.Test.YtknhiboiffmaeaaGreatDoorK05
import Derived.Test.YtknhiboiffmaeaaGreatDoorK06
set_option linter.unusedVariables false
set_option linter.unusedSimpArgs false
set_option maxRecDepth 100000
section
namespace Go.Gx
open Go.Proofs
def E128 : Env := { T := Tz.tab, G := Gl, C := [(37, ct37), (39, ct39)], live := [(0, [0]), (1, [0, 3]), (2, [3, 6, 7, 8]), (3, [3, 6, 7, 8, 9]), (4, [3, 5, 6, 7, 8]), (5, [3, 6, 7, 8]), (6, [3, 6, 7, 8]), (7, [2])] }
def ct128 : Ct := .scal (dom1 tStrs (fun path => (PathPut path).length ≤ 16777216)) (fn1 tStrs fun path => [tStr.enc (PathPut path)])
attribute [go_sem] E128 ct128 Go.Proofs.Tryz.f128
theorem ok128 : CtOk Tryz.prog Gl 128 ct128 := okA1 (E := E128) (sound_of Tz.tab_ok Tz.mixed (AllOk.cons ok37 (AllOk.cons ok39 AllOk.nil))) rfl Tryz.func128 (by kernel_rfl) fun path fpath hp => by
  have gpath := fpath
  have fpath := fit_list fpath
  refine vcFn_intro rfl rfl (by kernel_rfl) rfl ?_
  repeat (dsimp +instances only [go_sem, Nat.reduceBEq, Nat.reduceAdd, Nat.reduceSub, Nat.reduceLT, Nat.reduceLeDiff]; try simp only [bb, Nat.reduceAdd, Int.reduceToNat, Int.reduceLE, Int.reduceLT, Nat.reduceLT, Nat.reduceMul, Nat.reduceLeDiff])
  refine vcC_loop [3, 6, 7, 8] (fun (i : Nat) => i ≤ path.length) (fun i => [.ptr 0 2 0 0, .cv (.sl 1 (path.map rStr.enc)), .cv (.int .i64 path.length), .cv (.int .i64 i)]) (fun i => [.boxT 66 [.slf 0, .pth0 1 (PathPut (path.take i)).length], .byt0 5 (PathPut (path.take i))]) (fun i => path.length - i) 0 (by simp) ⟨rfl, rfl⟩ ?_
  intro i hi
  rcases Nat.lt_or_ge i path.length with hlt | hge
  · have hg := getD_at rStr hlt
    have hn : PathPut (path.take (i + 1)) = PathPut (path.take i) ++ [47] ++ path[i] := by rw [take_snoc hlt, PathPut_append]; simp [PathPut]
    have hn2 := congrArg List.length hn
    have hn3 := congrArg List.length (PathPut_append (path.take (i + 1)) (path.drop (i + 1)))
    rw [List.take_append_drop] at hn3
    simp only [List.length_append, List.length_cons, List.length_nil] at hn2 hn3
    try dsimp +instances only [go_sem, Nat.reduceBEq, Nat.reduceAdd, Nat.reduceSub, Nat.reduceLT, Nat.reduceLeDiff]
    repeat (simp only [hg, rStr_enc, Int.toNat_natCast, bb, Nat.reduceAdd, Int.reduceToNat, Int.reduceLE, Int.reduceLT, Nat.reduceLT, Nat.reduceMul, Nat.reduceLeDiff]; try dsimp +instances only [go_sem, Nat.reduceBEq, Nat.reduceAdd, Nat.reduceSub, Nat.reduceLT, Nat.reduceLeDiff])
    try simp only [nn, reduceCtorEq, hlt, decide_true]
    (repeat' (first | refine And.intro ?_ ?_ | intro _)) <;> try first | omega | trivial
    all_goals first
    | (refine nextL_intro (i + 1) ?_ ?_ ?_ ?_ <;> first | (simp only; done) | rfl | (simp only; omega) | (simp; done) | (simp; omega) | grind [])
    | grind (splits := 20) []
  · repeat (dsimp +instances only [go_sem, Nat.reduceBEq, Nat.reduceAdd, Nat.reduceSub, Nat.reduceLT, Nat.reduceLeDiff]; try simp only [bb, Nat.reduceAdd, Int.reduceToNat, Int.reduceLE, Int.reduceLT, Nat.reduceLT, Nat.reduceMul, Nat.reduceLeDiff])
    try simp only [nn, reduceCtorEq, Nat.not_lt.2 hge, decide_false]
    rw [List.take_of_length_le hge]
    simp
def tailT (u : Url) : Str := (if u.HasQuery = true then [63] ++ u.Query else []) ++ (if u.HasFrag = true then [35] ++ u.Frag else [])
def E126 : Env := { T := Tz.tab, G := Gl, C := [], live := [(0, [1]), (1, [1, 3]), (2, [1, 3, 5]), (3, [1, 3]), (4, [1, 3, 12]), (5, [3]), (6, [2])] }
def ct126 : Ct := .scal (dom1 tUrl (fun u => urlSz u ≤ 16777216)) (fn1 tUrl fun u => [tStr.enc (tailT u)])
attribute [go_sem] E126 ct126 Go.Proofs.Tryz.f126
theorem ok126 : CtOk Tryz.prog Gl 126 ct126 := okA1 (E := E126) (sound_of Tz.tab_ok Tz.mixed AllOk.nil) rfl Tryz.func126 (by kernel_rfl) fun u fu hp => by
  have gu := fu
  have fu := fit_url fu
  refine vcFn_intro rfl rfl (by kernel_rfl) rfl ?_
  have hp1 := hp
  simp only [urlSz] at hp1
  have hf := fit_url gu
  repeat (dsimp +instances only [go_sem, Nat.reduceBEq, Nat.reduceAdd, Nat.reduceSub, Nat.reduceLT, Nat.reduceLeDiff]; try simp only [bb, Nat.reduceAdd, Int.reduceToNat, Int.reduceLE, Int.reduceLT, Nat.reduceLT, Nat.reduceMul, Nat.reduceLeDiff])
  try simp only [nn, reduceCtorEq]
  (repeat' (first | refine And.intro ?_ ?_ | intro _)) <;> try first | omega | trivial
  all_goals simp [tailT, *]
def fourP (a : Nat) : List Str := [decN (a / 16777216), decN (a / 65536 % 256), decN (a / 256 % 256), decN (a % 256)]
def E127 : Env := { T := Tz.tab, G := Gl, C := [(159, ct159), (38, ct38), (124, ct124)], live := [(0, [1]), (1, [1, 12]), (2, [1, 15]), (3, [2]), (4, [2]), (5, [1, 3]), (6, [1, 3, 4]), (7, [1, 3, 4, 19]), (8, [1, 3, 4]), (9, [1, 3, 4]), (10, [2])] }
def ct127 : Ct := .scal (dom1 tHost (fun h => h.Name.length ≤ 1073741823)) (fn1 tHost fun h => [tStr.enc (hostPut h)])
attribute [go_sem] E127 ct127 Go.Proofs.Tryz.f127
theorem ok127 : CtOk Tryz.prog Gl 127 ct127 := okA1 (E := E127) (sound_of Tz.tab_ok Tz.mixed (AllOk.cons ok159 (AllOk.cons ok38 (AllOk.cons ok124 AllOk.nil)))) rfl Tryz.func127 (by kernel_rfl) fun h fh hp => by
  have gh := fh
  have fh := fit_host fh
  refine vcFn_intro rfl rfl (by kernel_rfl) rfl ?_
  repeat (dsimp +instances only [go_sem, Nat.reduceBEq, Nat.reduceAdd, Nat.reduceSub, Nat.reduceLT, Nat.reduceLeDiff]; try simp only [bb, Nat.reduceAdd, Int.reduceToNat, Int.reduceLE, Int.reduceLT, Nat.reduceLT, Nat.reduceMul, Nat.reduceLeDiff])
  try simp only [nn, reduceCtorEq]
  refine ⟨hp, fun _ => ⟨hp, fun h1 => ?_, fun h1 => ?_⟩, fun h1 => ?_⟩
  · simp [hostPut, h1]
  · have hk : h.Kind ≠ 2 := by
      rintro hk; simp_all
    simp [hostPut, h1, hk]
  · have hb : 0 ≤ h.Addr ∧ h.Addr ≤ 4294967295 := by
      have := h1.1
      simp [hostOk, h1.2] at this; omega
    refine vcC_loopN [1, 3, 4] (fun (k : Nat) => k ≤ 4) (fun k => [.ptr 0 3 0 0, .pth 1 1 0 k, .cv (.int .i64 (24 - 8 * k))]) (fun k => [.boxT 0 [.cv (.int .i64 h.Kind), .cv (.str h.Name), .cv (.int .i64 h.Addr)], .row 1 (((fourP h.Addr.toNat).take k).map rStr.enc) []]) (fun k => 4 - k) 0 [(3, false)] (by simp) ⟨rfl, rfl⟩ ?_
    obtain ⟨a, ha⟩ := Int.eq_ofNat_of_zero_le hb.1
    have hj : Lib.join (fourP a) [46] = fourT a := by simp [fourP, fourT, Lib.join]
    have hh : hostPut h = fourT a := by simp [hostPut, h1.1, h1.2, ha]
    have hl := fourT_len a (by omega)
    have an : ∀ n : Nat, n &&& 255 = n % 256 := fun n => Nat.and_two_pow_sub_one_eq_mod n 8
    rw [ha] at hb
    rintro k hk
    have ek : k = 0 ∨ k = 1 ∨ k = 2 ∨ k = 3 ∨ k = 4 := by omega
    rcases ek with rfl | rfl | rfl | rfl | rfl
    · repeat (dsimp +instances only [go_sem, Nat.reduceBEq, Nat.reduceAdd, Nat.reduceSub, Nat.reduceLT, Nat.reduceLeDiff]; try simp only [bb, Nat.reduceAdd, Int.reduceToNat, Int.reduceLE, Int.reduceLT, Nat.reduceLT, Nat.reduceMul, Nat.reduceLeDiff])
      try simp only [nn, reduceCtorEq]
      rw [ha]
      have e1 : (24 - 8 * ((0 : Nat) : Int)).toNat = 24 := rfl
      have e2 : ((a : Int) / 2 ^ 24).toNat &&& 255 = a / 16777216 := by rw [an]; omega
      refine ⟨fun _ => ⟨by omega, by rw [e1]; omega, by omega, by omega, nextL_intro 1 (by omega) (by omega) rfl ?_⟩, fun h9 => absurd (by omega) h9⟩
      rw [e1, e2]; rfl
    · repeat (dsimp +instances only [go_sem, Nat.reduceBEq, Nat.reduceAdd, Nat.reduceSub, Nat.reduceLT, Nat.reduceLeDiff]; try simp only [bb, Nat.reduceAdd, Int.reduceToNat, Int.reduceLE, Int.reduceLT, Nat.reduceLT, Nat.reduceMul, Nat.reduceLeDiff])
      try simp only [nn, reduceCtorEq]
      rw [ha]
      have e1 : (24 - 8 * ((1 : Nat) : Int)).toNat = 16 := rfl
      have e2 : ((a : Int) / 2 ^ 16).toNat &&& 255 = a / 65536 % 256 := by rw [an]; omega
      refine ⟨fun _ => ⟨by omega, by rw [e1]; omega, ⟨Nat.le_refl 1, by omega⟩, by omega, nextL_intro 2 (by omega) (by omega) rfl ?_⟩, fun h9 => absurd (by omega) h9⟩
      rw [e1, e2]; rfl
    · repeat (dsimp +instances only [go_sem, Nat.reduceBEq, Nat.reduceAdd, Nat.reduceSub, Nat.reduceLT, Nat.reduceLeDiff]; try simp only [bb, Nat.reduceAdd, Int.reduceToNat, Int.reduceLE, Int.reduceLT, Nat.reduceLT, Nat.reduceMul, Nat.reduceLeDiff])
      try simp only [nn, reduceCtorEq]
      rw [ha]
      have e1 : (24 - 8 * ((2 : Nat) : Int)).toNat = 8 := rfl
      have e2 : ((a : Int) / 2 ^ 8).toNat &&& 255 = a / 256 % 256 := by rw [an]; omega
      refine ⟨fun _ => ⟨by omega, by rw [e1]; omega, ⟨Nat.le_refl 2, by omega⟩, by omega, nextL_intro 3 (by omega) (by omega) rfl ?_⟩, fun h9 => absurd (by omega) h9⟩
      rw [e1, e2]; rfl
    · repeat (dsimp +instances only [go_sem, Nat.reduceBEq, Nat.reduceAdd, Nat.reduceSub, Nat.reduceLT, Nat.reduceLeDiff]; try simp only [bb, Nat.reduceAdd, Int.reduceToNat, Int.reduceLE, Int.reduceLT, Nat.reduceLT, Nat.reduceMul, Nat.reduceLeDiff])
      try simp only [nn, reduceCtorEq]
      rw [ha]
      have e1 : (24 - 8 * ((3 : Nat) : Int)).toNat = 0 := rfl
      have e2 : ((a : Int) / 2 ^ 0).toNat &&& 255 = a % 256 := by rw [an]; omega
      refine ⟨fun _ => ⟨by omega, by rw [e1]; omega, ⟨Nat.le_refl 3, by omega⟩, by omega, nextL_intro 4 (by omega) (by omega) rfl ?_⟩, fun h9 => absurd (by omega) h9⟩
      rw [e1, e2]; rfl
    · repeat (dsimp +instances only [go_sem, Nat.reduceBEq, Nat.reduceAdd, Nat.reduceSub, Nat.reduceLT, Nat.reduceLeDiff]; try simp only [bb, Nat.reduceAdd, Int.reduceToNat, Int.reduceLE, Int.reduceLT, Nat.reduceLT, Nat.reduceMul, Nat.reduceLeDiff])
      try simp only [nn, reduceCtorEq]
      refine ⟨fun h9 => absurd h9 (by omega), fun _ => ⟨Nat.le_refl 4, ⟨⟨_, List.take_of_length_le (Nat.le_refl _)⟩, fun h9 => ?_, ?_⟩, ?_⟩⟩
      · exact absurd (congrArg List.length h9) (by simp [fourP])
      · show (Lib.join (fourP h.Addr.toNat) [46]).length ≤ _
        rw [ha, Int.toNat_natCast, hj]; omega
      · show Lib.join (fourP h.Addr.toNat) [46] = _
        rw [ha, Int.toNat_natCast, hj, hh]
theorem tailT_len (u : Url) : (tailT u).length ≤ u.Query.length + u.Frag.length + 2 := by
  unfold tailT; (repeat' split) <;> simp <;> omega
theorem putU_tail (u : Url) : putU u = u.Scheme ++ [58] ++ (if ownN u.Scheme < 0 then u.Opaque else putH u) ++ tailT u := by
  simp [putU, tailT]
def E78 : Env := { T := Tz.tab, G := Gl, C := [(125, ct125), (126, ct126), (127, ct127), (38, ct38), (128, ct128)], live := [(0, [1]), (1, [1, 3]), (2, [1, 3, 5]), (3, [1, 3, 16]), (4, [2]), (5, [1, 3]), (6, [1, 3, 33]), (7, [1, 3]), (8, [1, 3, 40]), (9, [1, 3]), (10, [1, 3]), (11, [1, 3]), (12, [1, 3, 55]), (13, [1, 3]), (14, [2])] }
def ct78 : Ct := .scal (dom1 tUrl (fun u => urlSz u ≤ 16777216)) (fn1 tUrl fun u => [tStr.enc (putU u)])
attribute [go_sem] E78 ct78 Go.Proofs.Tryz.f78
set_option maxHeartbeats 1000000 in
theorem ok78 : CtOk Tryz.prog Gl 78 ct78 := okA1 (E := E78) (sound_of Tz.tab_ok Tz.mixed (AllOk.cons ok125 (AllOk.cons ok126 (AllOk.cons ok127 (AllOk.cons ok38 (AllOk.cons ok128 AllOk.nil)))))) rfl Tryz.func78 (by kernel_rfl) fun u fu hp => by
  have gu := fu
  have fu := fit_url fu
  refine vcFn_intro rfl rfl (by kernel_rfl) rfl ?_
  have hp1 := hp
  simp only [urlSz] at hp1
  have h1 := hostPut_len u.Host
  have hf := fit_url gu
  have h2 := decN_len19 u.Port hf.port
  have h3 := tailT_len u
  rw [putU_tail]
  repeat (dsimp +instances only [go_sem, Nat.reduceBEq, Nat.reduceAdd, Nat.reduceSub, Nat.reduceLT, Nat.reduceLeDiff]; try simp only [bb, Nat.reduceAdd, Int.reduceToNat, Int.reduceLE, Int.reduceLT, Nat.reduceLT, Nat.reduceMul, Nat.reduceLeDiff])
  try simp only [nn, reduceCtorEq]
  by_cases a1 : 0 ≤ ownN u.Scheme
  · have a0 : ¬ ownN u.Scheme < 0 := by omega
    simp only [a1, a0, putH, if_false, true_implies, not_true_eq_false, false_implies, true_and]
    by_cases a2 : u.User = [] <;> by_cases a3 : u.Pass = [] <;> by_cases a4 : 0 ≤ u.Port
    all_goals simp only [a2, a3, a4, decide_true, decide_false, Bool.not_true, Bool.not_false, or_true, true_or, or_false, and_self, and_false, false_and, if_true, if_false, true_implies, false_implies, not_true_eq_false, not_false_eq_true, reduceCtorEq, true_and, and_true]
    all_goals (repeat' (first | refine And.intro ?_ ?_ | intro _)) <;> try first | omega | trivial
    all_goals first | (simp only [List.length_nil]; omega) | (simp; done)
  · have a0 : ownN u.Scheme < 0 := by omega
    simp only [a1, a0, if_true, not_false_eq_true, true_implies, false_implies, and_true]
    (repeat' (first | refine And.intro ?_ ?_ | intro _)) <;> try first | omega | trivial
def E155 : Env := { T := Tz.tab, G := Gl, C := [(193, ct193)], live := [(0, [2, 3]), (1, [4])] }
def ct155 : Ct := .scal (dom2 tUrl tUrl (fun u v => True)) (fn2 tUrl tUrl fun u v => [tBool.enc (decide (u = v))])
attribute [go_sem] E155 ct155 Go.Proofs.Tryz.f155
set_option maxHeartbeats 1000000 in
theorem ok155 : CtOk Tryz.prog Gl 155 ct155 := okA2 (E := E155) (sound_of Tz.tab_ok Tz.mixed (AllOk.cons ok193 AllOk.nil)) rfl Tryz.func155 (by kernel_rfl) fun u v fu fv hp => by
  have gu := fu
  have fu := fit_url fu
  have gv := fv
  have fv := fit_url fv
  refine vcFn_intro rfl rfl (by kernel_rfl) rfl ?_
  repeat (dsimp +instances only [go_sem, Nat.reduceBEq, Nat.reduceAdd, Nat.reduceSub, Nat.reduceLT, Nat.reduceLeDiff]; try simp only [bb, Nat.reduceAdd, Int.reduceToNat, Int.reduceLE, Int.reduceLT, Nat.reduceLT, Nat.reduceMul, Nat.reduceLeDiff])
  try simp only [nn, reduceCtorEq]
  refine ⟨fun _ => rfl, ?_⟩
  rw [Bool.eq_iff_iff]
  simp only [Bool.and_eq_true, decide_eq_true_eq, beq_iff_eq, and_true]
  clear gu gv fu fv
  constructor
  · rintro ⟨⟨⟨⟨⟨⟨⟨⟨⟨⟨h1, h2⟩, h3⟩, h4, h5, h6⟩, h7⟩, h8⟩, h9⟩, h10⟩, h11⟩, h12⟩, h13⟩
    obtain ⟨_, _, _, ⟨_, _, _⟩, _, _, _, _, _, _, _⟩ := u
    obtain ⟨_, _, _, ⟨_, _, _⟩, _, _, _, _, _, _, _⟩ := v
    simp_all
  · rintro rfl; simp
attribute [go_sem] Go.Proofs.Tryz.f187
end Go.Gx
end
section
namespace Go.Gx
open Go Go.Proofs Go.Shelf Go.RowKit Go.Lib
variable {P : Program} {ρ : Ren}
theorem indexByte_none (c : UInt8) : ∀ l : List UInt8, (∀ b ∈ l, b ≠ c) → Lib.indexByte l c = -1
  | [], _ => rfl
  | b :: l, h => by
    have h1 := indexByte_none c l fun x hx => h x (.tail _ hx)
    have h2 : (b == c) = false := by simpa using h b (.head _)
    simp [Lib.indexByte, h1, h2]
set_option maxHeartbeats 4000000 in
set_option maxRecDepth 1000000 in
theorem IndexRune_bad (L : Lays.n152 P ρ) (s : ByteArray) (w : World) (hascii : ∀ (j : Nat) b, s.data.toList[j]? = some b → b.toNat < 128) :
    Calls P (ρ.f 152) #[.string s, .int .i32 65533] w fun e w' => e = .returned (.int .i64 (-1)) ∧ ∃ pos, w' = w.iter s pos := by
  have HA : Aside (∀ (j : Nat) b, s.data.toList[j]? = some b → b.toNat < 128) := hascii
  clear hascii
  have t3 := L.t3; have a3 := L.a3; have z3 := L.z3; have v3 := L.v3
  have t4 := L.t4; have a4 := L.a4; have z4 := L.z4; have v4 := L.v4
  have t5 := L.t5; have a5 := L.a5; have z5 := L.z5; have v5 := L.v5
  have t9 := L.t9; have a9 := L.a9; have z9 := L.z9; have v9 := L.v9
  have t21 := L.t21; have a21 := L.a21; have z21 := L.z21; have v21 := L.v21
  go_enter L.f152, Body.n152_ntmps ρ
  go_wp2
  go_loopg [5, 6] s.size (fun g _ _ wx => ∃ i : Nat, i + g = s.size ∧ wx = w.iter s i)
  case atStart => exact ⟨0, by omega, rfl⟩
  case round =>
    obtain ⟨i, hig, rfl⟩ := hrel
    cases gk with
    | zero =>
      obtain rfl : i = s.size := by omega
      have hnx := run_next_end (P := P) w s s.size
      go_wp2
      go_ret
      exact ⟨rfl, _, rfl⟩
    | succ g =>
      have hi : i < s.size := by omega
      obtain ⟨x, hx⟩ : ∃ x : UInt8, s[i]'hi = x := ⟨_, rfl⟩
      have hxl : s.data.toList[i]? = some x := by rw [← hx]; exact Lib.data_getElem? s i hi
      have hx128 : x.toNat < 128 := HA.out i x hxl
      have hnx := fun ty => run_next_ascii (P := P) w s i ty hi (by rw [hx]; exact hx128)
      rw [hx] at hnx
      clear hxl hx
      have hne : ((x.toNat : Int) == 65533) = false := beq_eq_false_iff_ne.2 (by omega)
      go_wp2
      go_roundg g
      case measure => omega
      case rel => exact ⟨i + 1, by omega, rfl⟩
theorem valid_of {r : Int} (h : Lib.validRune r = true) : Utf8.valid r = true := by
  simp only [Lib.validRune, decide_eq_true_eq] at h
  simp only [Utf8.valid, Bool.or_eq_true, Bool.and_eq_true, decide_eq_true_eq]
  omega
set_option maxHeartbeats 4000000 in
set_option maxRecDepth 1000000 in
theorem IndexRune_inv (L : Lays.n152 P ρ) (s : ByteArray) (r : Int) (w : World) (h1 : 128 ≤ r) (h2 : r ≠ 65533) (hv : Lib.validRune r = false) :
    Calls P (ρ.f 152) #[.string s, .int .i32 r] w fun e w' => e = .returned (.int .i64 (-1)) ∧ w' = w := by
  have t3 := L.t3; have a3 := L.a3; have z3 := L.z3; have v3 := L.v3
  have t4 := L.t4; have a4 := L.a4; have z4 := L.z4; have v4 := L.v4
  have t5 := L.t5; have a5 := L.a5; have z5 := L.z5; have v5 := L.v5
  have t9 := L.t9; have a9 := L.a9; have z9 := L.z9; have v9 := L.v9
  have t21 := L.t21; have a21 := L.a21; have z21 := L.z21; have v21 := L.v21
  have hge : ¬ (r < 128) := by omega
  have h0 : (0 : Int) ≤ r := by omega
  have hb : (r == 65533) = false := beq_eq_false_iff_ne.2 h2
  have e119 : ∀ args w, (callFunc (ρ.f 119) args).run P w = .ok (.enter (ρ.f 119) args) w := enters_of L.f119 (by kernel_rfl) rfl
  go_enter L.f152, Body.n152_ntmps ρ
  go_wp2_with (go_at_fn (ρ.f 119); refine (Any.utf8_ValidRune { L with } _ _).mono ?_; rintro e w' ⟨rfl, hw⟩; rw [hw, hv])
  go_ret
  exact ⟨rfl, rfl⟩
set_option maxHeartbeats 4000000 in
set_option maxRecDepth 1000000 in
theorem IndexRune_high (L : Lays.n152 P ρ) (s : ByteArray) (r : Int) (w : World) (h1 : 128 ≤ r) (h2 : r ≠ 65533) (hv : Lib.validRune r = true) (hsz : s.size < 4294967281) (hascii : ∀ (j : Nat) b, s.data.toList[j]? = some b → b.toNat < 128) :
    Calls P (ρ.f 152) #[.string s, .int .i32 r] w fun e w' => e = .returned (.int .i64 (-1)) ∧ Below w.heap.size w w' := by
  have mixed := L.mixed
  obtain ⟨f1, f2, f3⟩ := encode_facts r (valid_of hv) h1
  obtain ⟨u, hu⟩ : ∃ u, Utf8.encode r = u := ⟨_, rfl⟩
  rw [hu] at f1 f2 f3
  have HA : Aside (∀ (j : Nat) b, s.data.toList[j]? = some b → b.toNat < 128) := hascii
  clear hascii
  obtain ⟨m, hm⟩ : ∃ m, u.size = m + 1 := ⟨u.size - 1, by omega⟩
  have hum : m < u.size := by omega
  obtain ⟨c, hc⟩ : ∃ c : UInt8, u[m]'hum = c := ⟨_, rfl⟩
  have f3 : 128 ≤ c.toNat := by
    rw [← hc]
    have := f3 (by omega)
    simpa [hm] using this
  have hm1 : (u.size : Int) - 1 = (m : Int) := by omega
  have hm2 : 1 ≤ m := by omega
  have hm3 : (m : Int) < (u.size : Int) := by omega
  have t3 := L.t3; have a3 := L.a3; have z3 := L.z3; have v3 := L.v3
  have t4 := L.t4; have a4 := L.a4; have z4 := L.z4; have v4 := L.v4
  have t5 := L.t5; have a5 := L.a5; have z5 := L.z5; have v5 := L.v5
  have t9 := L.t9; have a9 := L.a9; have z9 := L.z9; have v9 := L.v9
  have t21 := L.t21; have a21 := L.a21; have z21 := L.z21; have v21 := L.v21
  have hge : ¬ (r < 128) := by omega
  have h0 : (0 : Int) ≤ r := by omega
  have hb : (r == 65533) = false := beq_eq_false_iff_ne.2 h2
  have e119 : ∀ args w, (callFunc (ρ.f 119) args).run P w = .ok (.enter (ρ.f 119) args) w := enters_of L.f119 (by kernel_rfl) rfl
  have e137 : ∀ args w, (callFunc (ρ.f 137) args).run P w = .ok (.enter (ρ.f 137) args) w := enters_of L.f137 (by kernel_rfl) rfl
  go_enter L.f152, Body.n152_ntmps ρ
  go_wp2_with (go_at_fn (ρ.f 119); refine (Any.utf8_ValidRune { L with } _ _).mono ?_; rintro e w' ⟨rfl, hw⟩; rw [hw, hv])
  apply wp_scope_straight
  go_wp2
  go_loopg [9] 0 (fun g s9 wx => g = 0 ∧ s9 = .int .i64 (m : Int) ∧ wx = w)
  case atStart => exact ⟨rfl, by first | rfl | (simp; omega) | (congr 1; omega), rfl⟩
  case round =>
    obtain ⟨_, rfl, rfl⟩ := hrel
    by_cases hlt : m < s.size
    · have hlz : (m : Int) < (s.size : Int) := by omega
      obtain ⟨x, hx⟩ : ∃ x : UInt8, s[m]'hlt = x := ⟨_, rfl⟩
      have hxl : s.data.toList[m]? = some x := by rw [← hx]; exact Lib.data_getElem? s m hlt
      have hx128 : x.toNat < 128 := HA.out m x hxl
      have hne : ((x.toNat : Int) == (c.toNat : Int)) = false := beq_eq_false_iff_ne.2 (by omega)
      clear hxl
      go_wp2
      apply wp_scope_straight
      go_wp2
      clear hm hm1 f1 f2
      go_quiet_o (fail)
      go_wp2
      have hib : Lib.indexByte (List.take (s.size - (m + 1)) (List.drop (m + 1) s.data.toList)) c = -1 := indexByte_none c _ fun b hb e => by
        have hb' : b ∈ s.data.toList := List.mem_of_mem_drop (List.mem_of_mem_take hb)
        obtain ⟨j, hj⟩ := List.mem_iff_getElem?.1 hb'
        have := HA.out j b hj
        subst e; omega
      have hwr : IntKind.i64.wrap ((m : Int) + 1) = (m : Int) + 1 := wrap_small _ (by omega) (by omega)
      have hm4 : (m : Int) + 1 ≤ (s.size : Int) := by omega
      have hm5 : (0 : Int) ≤ (m : Int) + 1 := by omega
      go_quiet_o (first | (go_at_fn (ρ.f 137); exact (Any.strings_IndexByte { L with } _ _ _).mono fun e w' ⟨he, hw⟩ => ⟨he, _, hw⟩))
      go_wp2
      simp only [Exit.noGoto, Exit.inBlock, Exit.then]
      go_ret
      exact ⟨rfl, (Below.refl _ _).trans ⟨rfl, rfl, rfl, Nat.le_refl _, fun _ _ => rfl⟩⟩
    · have hlz : ¬ (m : Int) < (s.size : Int) := by omega
      go_wp2
      go_ret
      exact ⟨rfl, Below.refl _ _⟩
end Go.Gx
end
section
namespace Go.Gx
open Go Go.Proofs Go.Shelf Go.RowKit Go.Lib
variable {P : Program} {ρ : Ren}
theorem IndexRune_ge (L : Lays.n152 P ρ) (s : ByteArray) (r : Int) (w : World) (h1 : 128 ≤ r) (hsz : s.size < 4294967281) (hascii : ∀ (j : Nat) b, s.data.toList[j]? = some b → b.toNat < 128) :
    Calls P (ρ.f 152) #[.string s, .int .i32 r] w fun e w' => e = .returned (.int .i64 (-1)) ∧ Below w.heap.size w w' := by
  by_cases h2 : r = 65533
  · subst h2
    exact (IndexRune_bad L s w hascii).mono fun e w' ⟨he, pos, hw⟩ => ⟨he, by rw [hw]; exact (Below.refl _ _).alloc (Nat.le_refl _) _⟩
  · cases hv : Lib.validRune r with
    | false => exact (IndexRune_inv L s r w h1 h2 hv).mono fun e w' ⟨he, hw⟩ => ⟨he, by rw [hw]; exact Below.refl _ _⟩
    | true => exact IndexRune_high L s r w h1 h2 hv hsz hascii
theorem decode_bytes (s : ByteArray) (i : Nat) (h : i < s.size) (ha : 128 ≤ (s[i]'h).toNat) : 1 ≤ (Utf8.decode s i).2 ∧ ∀ j, j < (Utf8.decode s i).2 → i + j < s.size ∧ 128 ≤ (s.get! (i + j)).toNat := by
  have h0 : 128 ≤ (s.get! (i + 0)).toNat := by rw [get_at s i h]; exact ha
  have hn : ¬ (s.get! (i + 0)).toNat < 128 := by omega
  have one : ∀ j, j < 1 → i + j < s.size ∧ 128 ≤ (s.get! (i + j)).toNat := fun j hj => by
    obtain rfl : j = 0 := by omega
    exact ⟨h, h0⟩
  simp only [Utf8.decode, hn, if_false]
  split
  · rename_i h1
    simp only [Bool.and_eq_true, decide_eq_true_eq, beq_iff_eq] at h1
    split
    · refine ⟨by simp, fun j hj => ?_⟩
      simp only at hj
      match j, hj with
      | 0, _ => exact ⟨h, h0⟩
      | 1, _ => exact ⟨h1.2.1, by omega⟩
    · exact ⟨by simp, one⟩
  · split
    · rename_i h1
      simp only [Bool.and_eq_true, decide_eq_true_eq, beq_iff_eq] at h1
      split
      · refine ⟨by simp, fun j hj => ?_⟩
        simp only at hj
        match j, hj with
        | 0, _ => exact ⟨h, h0⟩
        | 1, _ => exact ⟨h1.1.2.1, by omega⟩
        | 2, _ => exact ⟨h1.2.1, by omega⟩
      · exact ⟨by simp, one⟩
    · split
      · rename_i h1
        simp only [Bool.and_eq_true, decide_eq_true_eq, beq_iff_eq] at h1
        split
        · refine ⟨by simp, fun j hj => ?_⟩
          simp only at hj
          match j, hj with
          | 0, _ => exact ⟨h, h0⟩
          | 1, _ => exact ⟨h1.1.1.2.1, by omega⟩
          | 2, _ => exact ⟨h1.1.2.1, by omega⟩
          | 3, _ => exact ⟨h1.2.1, by omega⟩
        · exact ⟨by simp, one⟩
      · exact ⟨by simp, one⟩
theorem NoAny_more {s : ByteArray} {chars : List UInt8} {i k : Nat} (h : Lib.NoAny s.data.toList chars i) (hc : ∀ b ∈ chars, b.toNat < 128) (hk : ∀ j, j < k → i + j < s.size ∧ 128 ≤ (s.get! (i + j)).toNat) : Lib.NoAny s.data.toList chars (i + k) := fun j b hj hb => by
  by_cases e : j < i
  · exact h j b e hb
  · obtain ⟨h1, h2⟩ := hk (j - i) (by omega)
    have e2 : i + (j - i) = j := by omega
    rw [e2] at h1 h2
    have h3 : s.get! j = b := by
      have := Lib.data_getElem? s j h1
      rw [hb] at this
      have h4 := get_at s j h1
      simp only [Nat.add_zero] at h4
      rw [h4]; injection this with this; exact this.symm
    rw [h3] at h2
    cases hcon : chars.contains b with
    | false => rfl
    | true =>
      have := hc b (by simpa using hcon)
      omega
set_option maxHeartbeats 8000000 in
set_option maxRecDepth 1000000 in
theorem IndexAny_short (L : Lays.n153 P ρ) (s chars : ByteArray) (w : World) (h2 : 2 ≤ chars.size) (hcs : chars.size < 4294967281) (h8 : s.size ≤ 8) (hascii : ∀ (j : Nat) b, chars.data.toList[j]? = some b → b.toNat < 128) :
    Calls P (ρ.f 153) #[.string s, .string chars] w fun e w' => e = .returned (.int .i64 (Lib.indexAny s.data.toList chars.data.toList)) ∧ Below w.heap.size w w' := by
  have HA : Aside (∀ (j : Nat) b, chars.data.toList[j]? = some b → b.toNat < 128) := hascii
  have hmem : ∀ b ∈ chars.data.toList, b.toNat < 128 := fun b hb => by
    obtain ⟨j, hj⟩ := List.mem_iff_getElem?.1 hb
    exact hascii j b hj
  have HM : Aside (∀ b ∈ chars.data.toList, b.toNat < 128) := hmem
  clear hascii hmem
  have hemp : chars.toList.isEmpty = false := by
    rw [Lib.toList_data]
    cases h : chars.data.toList with
    | nil => have := Lib.size_eq chars; rw [h, List.length_nil] at this; omega
    | cons _ _ => rfl
  have hn1 : ((chars.size : Int) == 1) = false := beq_eq_false_iff_ne.2 (by omega)
  have h8z : decide ((8 : Int) < (s.size : Int)) = false := decide_eq_false (by omega)
  have t3 := L.t3; have a3 := L.a3; have z3 := L.z3; have v3 := L.v3
  have t4 := L.t4; have a4 := L.a4; have z4 := L.z4; have v4 := L.v4
  have t5 := L.t5; have a5 := L.a5; have z5 := L.z5; have v5 := L.v5
  have t9 := L.t9; have a9 := L.a9; have z9 := L.z9; have v9 := L.v9
  have t21 := L.t21; have a21 := L.a21; have z21 := L.z21; have v21 := L.v21
  have e152 : ∀ args w, (callFunc (ρ.f 152) args).run P w = .ok (.enter (ρ.f 152) args) w := enters_of L.f152 (by kernel_rfl) rfl
  have e226 : ∀ args w, (callFunc (ρ.f 226) args).run P w = .ok (.enter (ρ.f 226) args) w := enters_of L.f226 (by kernel_rfl) rfl
  go_enter L.f153, Body.n153_ntmps ρ
  go_wp2_with (go_at_fn (ρ.f 226); refine (Any.strings_shouldUseASCIISet { L with } _ _).mono ?_; rintro e w' ⟨rfl, hw⟩; rw [hw, h8z])
  go_loopg [9, 10] s.size (fun g _ _ wx => ∃ i : Nat, i + g = s.size ∧ wx.heap[w.heap.size]? = some (.stringIter s i) ∧ Below w.heap.size w wx ∧ Lib.NoAny s.data.toList chars.data.toList i)
  case atStart => exact ⟨0, by omega, World.iter_heap w s 0, (Below.refl _ _).alloc (Nat.le_refl _) _, Lib.NoAny.zero _ _⟩
  case round =>
    obtain ⟨i, hig, hit, hbel, hno⟩ := hrel
    have HN : Aside (Lib.NoAny s.data.toList chars.data.toList i) := hno
    have HB : Aside (Below w.heap.size w wr) := hbel
    have HI : Aside (wr.heap[w.heap.size]? = some (.stringIter s i)) := hit
    clear hno hbel
    cases gk with
    | zero =>
      obtain rfl : i = s.size := by omega
      have hnx := fun ty => run_next_end_at (P := P) wr w.heap.size s s.size ty hit (by omega)
      go_wp2
      go_ret
      exact ⟨by rw [Lib.indexAny_none (by rw [← Lib.size_eq]; exact HN.out)]; rfl, HB.out⟩
    | succ g =>
      have hi : i < s.size := by omega
      obtain ⟨x, hx⟩ : ∃ x : UInt8, s[i]'hi = x := ⟨_, rfl⟩
      have hxl : s.data.toList[i]? = some x := by rw [← hx]; exact Lib.data_getElem? s i hi
      have Hx : Aside (s.data.toList[i]? = some x) := hxl
      have HX : Aside (s[i]'hi = x) := hx
      by_cases hx128 : x.toNat < 128
      · have hnx := fun ty => run_next_ascii_at (P := P) wr w.heap.size s i ty hit hi (by rw [hx]; exact hx128)
        rw [hx] at hnx
        clear hxl hx hit
        have hcon := Lib.contains_iff_indexByte chars.data.toList x
        have hback : ((x.toNat : Int)).toNat.toUInt8 = x := by simp
        cases hin : chars.data.toList.contains x
        · rw [hin] at hcon
          have hlt : ¬ ((0 : Int) ≤ Lib.indexByte chars.data.toList x) := of_decide_eq_false hcon.symm
          clear hcon
          go_wp2_with (go_at_fn (ρ.f 152); refine (Any.strings_IndexRune_ascii { L with } _ _ _ (by omega) (by omega)).mono ?_; rintro e w' ⟨rfl, hw⟩; rw [hw, hback])
          go_roundg g
          case measure => omega
          case rel => exact ⟨i + 1, by omega, iterAt_heap _ _ _ _ _ HI.out, below_iterAt HB.out (Nat.le_refl _) _ _, HN.out.succ Hx.out hin⟩
        · rw [hin] at hcon
          have hge : (0 : Int) ≤ Lib.indexByte chars.data.toList x := of_decide_eq_true hcon.symm
          clear hcon
          go_wp2_with (go_at_fn (ρ.f 152); refine (Any.strings_IndexRune_ascii { L with } _ _ _ (by omega) (by omega)).mono ?_; rintro e w' ⟨rfl, hw⟩; rw [hw, hback])
          go_ret
          exact ⟨by rw [Lib.indexAny_hit HN.out Hx.out hin]; rfl, below_iterAt HB.out (Nat.le_refl _) _ _⟩
      · have hnx := fun ty => run_next_any_at (P := P) wr w.heap.size s i ty hit hi
        have hd := decode_high s i hi (by rw [hx]; omega)
        have hd2 := decode_bytes s i hi (by rw [hx]; omega)
        obtain ⟨⟨cp, k⟩, hck⟩ : ∃ d, Utf8.decode s i = d := ⟨_, rfl⟩
        rw [hck] at hd hd2
        simp only [hck] at hnx
        have H2 : Aside (1 ≤ k ∧ ∀ j, j < k → i + j < s.size ∧ 128 ≤ (s.get! (i + j)).toNat) := hd2
        have hcp : (128 : Int) ≤ (cp : Int) := by have := hd.1; simp only at this; omega
        clear hxl hx hit hd hd2 hck
        go_wp2_with (go_at_fn (ρ.f 152); refine (IndexRune_ge { L with } _ _ _ hcp hcs HA.out).mono ?_; rintro e w' ⟨rfl, hw⟩; have HW : Aside _ := hw; clear hw)
        have hk1 := (H2.out.2 (k - 1) (by have := H2.out.1; omega)).1
        go_roundg (s.size - (i + k))
        case measure => have := H2.out.1; omega
        case rel =>
          have hsz : w.heap.size < (wr.iterAt w.heap.size s (i + k)).heap.size := (Array.getElem?_eq_some_iff.1 (iterAt_heap _ _ _ _ (i + k) HI.out)).1
          exact ⟨i + k, by have := H2.out.1; omega, by rw [HW.out.block _ hsz]; exact iterAt_heap _ _ _ _ _ HI.out, (below_iterAt HB.out (Nat.le_refl _) s (i + k)).trans (HW.out.mono (Nat.le_of_lt hsz)), NoAny_more HN.out HM.out H2.out.2⟩
end Go.Gx
end
section
namespace Go.Gx
open Go.Proofs
def ct247 : Ct := .scal (dom2 tStr tStr fun s p => s.length ≤ 1073741823 ∧ 2 ≤ p.length ∧ p.length ≤ 16 ∧ ∀ c ∈ p, c.toNat < 128) (fn2 tStr tStr fun s p => [tInt.enc (if atAny p s < s.length then (atAny p s : Int) else -1)])
open Go.RowKit
theorem indexAny_at (p : Str) : ∀ s : Str, Lib.indexAny s p = if atAny p s < s.length then (atAny p s : Int) else -1
  | [] => rfl
  | b :: l => by
    have ih := indexAny_at p l
    have hle := atAny_le p l
    have hu : Lib.indexAny (b :: l) p = if p.contains b then 0 else if Lib.indexAny l p == -1 then -1 else Lib.indexAny l p + 1 := rfl
    rw [hu, atAny_cons, ih]
    by_cases h : b ∈ p
    · simp [h]
    · have h2 : p.contains b = false := by simpa using h
      simp only [h2, h, if_false, Bool.false_eq_true, List.length_cons]
      by_cases h3 : atAny p l < l.length
      · have h4 : ((atAny p l : Int) == -1) = false := beq_eq_false_iff_ne.2 (by omega)
        simp only [h3, if_true, h4, Bool.false_eq_true, if_false, Nat.add_lt_add_iff_right]; push_cast; rfl
      · simp only [h3, if_false, beq_self_eq_true, if_true, Nat.add_lt_add_iff_right]
attribute [go_sem] ct247
theorem ok247 : CtOk Tryz.prog Gl 247 ct247 := fun w cs vs hG ha hd => by
  obtain ⟨s, p, rfl, hp1, hp2, hp3, hp4⟩ := dom2_inv hd
  obtain ⟨x, y, rfl, hx, hy⟩ := ias2 ha
  obtain ⟨rfl, hs⟩ := ia_str hx
  obtain ⟨rfl, _⟩ := ia_str hy
  have hc : ∀ (j : Nat) (b : UInt8), (⟨p.toArray⟩ : ByteArray).data.toList[j]? = some b → b.toNat < 128 := fun j b hb => hp4 b (List.mem_of_getElem? hb)
  refine ⟨⟨_, _, Tryz.func247, rfl, by kernel_rfl⟩, ?_⟩
  have hfit := atAny_le p s
  have key : Calls Tryz.prog 247 #[.string ⟨s.toArray⟩, .string ⟨p.toArray⟩] w fun e w' => e = .returned (.int .i64 (Lib.indexAny s p)) ∧ Below w.heap.size w w' := by
    have hz : (Tryz.prog.info? (Tryz.lays153_ren.t 116)).map (fun i => (i.zero, i.size)) = some (some (.agg (Array.replicate 256 (.bool false))), 256) := by kernel_rfl
    rcases Nat.lt_or_ge 8 s.length with h8 | h8
    · refine (Any.strings_IndexAny_long Tryz.lays153 (zero_of_info hz).1 (zero_of_info hz).2 ⟨s.toArray⟩ ⟨p.toArray⟩ w (by rw [str_size]; omega) (by rw [str_size]; omega) (by rw [str_size]; omega) (by rw [str_size]; omega) hc).mono fun e w' ⟨h1, h2⟩ => ⟨h1, ?_⟩
      rw [h2]
      exact ((Below.refl _ _).alloc (Nat.le_refl _) _).alloc (by simp) _
    · exact IndexAny_short Tryz.lays153 ⟨s.toArray⟩ ⟨p.toArray⟩ w (by rw [str_size]; omega) (by rw [str_size]; omega) (by rw [str_size]; omega) hc
  refine key.mono fun e w' ⟨h1, h2⟩ => ⟨_, h1, later_below h2, fun _ => False, ?_, fun b h => h.elim⟩
  rw [indexAny_at]
  simp only [fn2, Ty.de]
  exact oa_int (by unfold R64; split <;> omega)
def E222 : Env := { T := Tz.tab, G := Gl, C := [(247, ct247)], live := [(0, [0, 1]), (1, [0, 6]), (2, [0, 6, 11]), (3, [4, 5]), (4, [4, 5])] }
def ct222 : Ct := .scal (dom2 tStr tStr (fun text bytes => text.length ≤ 1073741823 ∧ 2 ≤ bytes.length ∧ bytes.length ≤ 16 ∧ ∀ c ∈ bytes, c.toNat < 128)) (fn2 tStr tStr fun text bytes => [tStr.enc (text.take (atAny bytes text)), tStr.enc (text.drop (atAny bytes text))])
attribute [go_sem] E222 ct222 Go.Proofs.Tryz.f222
theorem ok222 : CtOk Tryz.prog Gl 222 ct222 := okA2 (E := E222) (sound_of Tz.tab_ok Tz.mixed (AllOk.cons ok247 AllOk.nil)) rfl Tryz.func222 (by kernel_rfl) fun text bytes ftext fbytes hp => by
  have ftext := fit_str ftext
  have fbytes := fit_str fbytes
  refine vcFn_intro rfl rfl (by kernel_rfl) rfl ?_
  have hk := atAny_le bytes text
  repeat (dsimp +instances only [go_sem, Nat.reduceBEq, Nat.reduceAdd, Nat.reduceSub, Nat.reduceLT, Nat.reduceLeDiff]; try simp only [bb, Nat.reduceAdd, Int.reduceToNat, Int.reduceLE, Int.reduceLT, Nat.reduceLT, Nat.reduceMul, Nat.reduceLeDiff])
  try simp only [nn, reduceCtorEq]
  refine ⟨hp, fun h => ?_, fun h => ?_⟩
  · have h1 : ¬ atAny bytes text < text.length := fun h2 => by rw [if_pos h2] at h; omega
    rw [List.take_of_length_le (by omega), List.drop_eq_nil_of_le (by omega)]
    exact ⟨rfl, rfl⟩
  · have h1 : atAny bytes text < text.length := Nat.lt_of_not_le fun h2 => h (by rw [if_neg (by omega)]; omega)
    rw [if_pos h1, Int.toNat_natCast]
    exact ⟨⟨by omega, by omega⟩, ⟨by omega, by omega, Nat.le_refl _⟩, rfl, rfl⟩
def E224 : Env := { T := Tz.tab, G := Gl, C := [(227, ct227), (223, ct223)], live := [(0, [0, 4, 5, 6]), (1, [0, 4]), (2, [0, 4]), (3, [0, 4, 29]), (4, [])] }
def ct224 : Ct := inlK E224 Go.Proofs.Tryz.f224 #[] 2
attribute [go_sem] E224 ct224 Go.Proofs.Tryz.f224
theorem ok224 : CtOk Tryz.prog Gl 224 ct224 := inl_ok (E := E224) (sound_of Tz.tab_ok Tz.mixed (AllOk.cons ok227 (AllOk.cons ok223 AllOk.nil))) Tryz.func224 (by kernel_rfl) rfl rfl rfl (fun pin => by kernel_rfl)
end Go.Gx
end
section
namespace Go.Gx
open Go.Proofs
def E239i : Env := { T := Tz.tab, G := Gl, C := [], live := [(0, [0]), (1, [0, 4]), (2, [2]), (3, [2])] }
def ct239i : Ct := inlK E239i Go.Proofs.Tryz.f239 #[ResultVar.tmp 2] 1
attribute [go_sem] E239i ct239i Go.Proofs.Tryz.f239
theorem ok239i : CtOk Tryz.prog Gl 239 ct239i := inl_ok (E := E239i) (sound_of Tz.tab_ok Tz.mixed AllOk.nil) Tryz.func239 (by kernel_rfl) rfl rfl rfl (fun pin => by kernel_rfl)
def E213i : Env := { T := Tz.tab, G := Gl, C := [(239, ct239i), (238, ct238)], live := [(0, [0]), (1, [2])] }
def ct213i : Ct := inlK E213i Go.Proofs.Tryz.f213 #[ResultVar.tmp 2] 1
attribute [go_sem] E213i ct213i Go.Proofs.Tryz.f213
theorem ok213i : CtOk Tryz.prog Gl 213 ct213i := inl_ok (E := E213i) (sound_of Tz.tab_ok Tz.mixed (AllOk.cons ok239i (AllOk.cons ok238 AllOk.nil))) Tryz.func213 (by kernel_rfl) rfl rfl rfl (fun pin => by kernel_rfl)
def E253 : Env := { T := Tz.tab, G := Gl, C := [(213, ct213i), (268, ct268), (211, ct211), (269, ct269), (223, ct223)], live := [(0, [0, 1]), (1, [1, 5]), (2, [5, 6]), (3, [5, 6, 15, 16, 17]), (4, [5, 6, 15, 16, 17, 18]), (5, [5, 6, 7, 8, 15, 16, 17]), (6, [5, 6, 7, 8, 9, 15, 16, 17]), (7, [5, 6, 7, 8, 9, 15, 16, 17, 25]), (8, [5, 6, 15, 16, 17]), (9, [5, 6, 7, 15, 16, 17, 37]), (10, [5, 6, 7, 15, 16, 17]), (11, [5, 6, 15, 16, 17, 47]), (12, [5, 6, 15, 16, 17]), (13, [5, 6, 15, 16, 17]), (14, [4])] }
def ct253 : Ct := inlK E253 Go.Proofs.Tryz.f253 #[ResultVar.tmp 4] 2
attribute [go_sem] E253 ct253 Go.Proofs.Tryz.f253
theorem ok253 : CtOk Tryz.prog Gl 253 ct253 := inl_ok (E := E253) (sound_of Tz.tab_ok Tz.mixed (AllOk.cons ok213i (AllOk.cons ok268 (AllOk.cons ok211 (AllOk.cons ok269 (AllOk.cons ok223 AllOk.nil)))))) Tryz.func253 (by kernel_rfl) rfl rfl rfl (fun pin => by kernel_rfl)
theorem splitG_mem_len (b : UInt8) : ∀ (s cur : Str) (p : Str), p ∈ splitG b cur s → p.length ≤ cur.length + s.length
  | [], cur, p, h => by simp only [splitG, List.mem_singleton] at h; subst h; simp
  | c :: r, cur, p, h => by
    rw [splitG] at h
    split at h
    · rcases List.mem_cons.1 h with rfl | h
      · simp only [List.length_cons]; omega
      · have := splitG_mem_len b r [] p h
        simp only [List.length_cons, List.length_nil] at *; omega
    · have := splitG_mem_len b r _ p h
      simp only [List.length_cons, List.length_append, List.length_nil] at *; omega
theorem ra_slash_len (x : Str) : (Lib.replaceAll x [92] [47]).length = x.length := by rw [ra_slash]; simp
theorem pieces_len (x : Str) : (splitB 47 (Lib.replaceAll x [92] [47])).length ≤ x.length + 1 := by
  have := splitG_len 47 (Lib.replaceAll x [92] [47]) []
  rw [ra_slash_len] at this
  exact this
theorem pieces_mem (x : Str) (i : Nat) (h : i < (splitB 47 (Lib.replaceAll x [92] [47])).length) : (splitB 47 (Lib.replaceAll x [92] [47]))[i].length ≤ x.length := by
  have := splitG_mem_len 47 (Lib.replaceAll x [92] [47]) [] _ (List.getElem_mem h)
  rw [ra_slash_len, List.length_nil, Nat.zero_add] at this
  exact this
def E230 : Env := { T := Tz.tab, G := Gl, C := [(225, ct225), (253, ct253)], live := [(0, [0]), (1, [0, 5]), (2, [2]), (3, [0, 12]), (4, [0]), (5, [2])] }
def ct230 : Ct := .pure (dom1 tStr (fun text => True)) (fn1 tStr fun text => [tStrs.enc (PathGet text)])
attribute [go_sem] E230 ct230 Go.Proofs.Tryz.f230
set_option maxHeartbeats 4000000 in
theorem ok230 : CtOk Tryz.prog Gl 230 ct230 := okA1 (E := E230) (sound_of Tz.tab_ok Tz.mixed (AllOk.cons ok225 (AllOk.cons ok253 AllOk.nil))) rfl Tryz.func230 (by kernel_rfl) fun text ftext hp => by
  have ftext := fit_str ftext
  by_cases h200 : (200 : Int) < text.length
  · skip
    refine vcFn_intro rfl rfl (by kernel_rfl) rfl ?_
    try dsimp +instances only [go_sem, Nat.reduceBEq, Nat.reduceAdd, Nat.reduceSub, Nat.reduceLT, Nat.reduceLeDiff]
    try simp only [bb, Nat.reduceAdd, Int.reduceToNat, Int.reduceLE, Int.reduceLT, Nat.reduceLT, Nat.reduceMul, Nat.reduceLeDiff]
    repeat (dsimp +instances only [go_sem, Nat.reduceBEq, Nat.reduceAdd, Nat.reduceSub, Nat.reduceLT, Nat.reduceLeDiff]; try simp only [bb, Nat.reduceAdd, Int.reduceToNat, Int.reduceLE, Int.reduceLT, Nat.reduceLT, Nat.reduceMul, Nat.reduceLeDiff])
    try simp only [nn, reduceCtorEq, h200]
    have hz : PathGet text = [] := by unfold PathGet; rw [if_pos (by omega)]
    rw [hz]
    (repeat' (first | refine And.intro ?_ ?_ | intro _)) <;> try first | omega | trivial
  match text, ftext, h200 with
  | [], ftext, h200 =>
    have hl2 := pieces_len ([] : Str)
    have hl3 := ra_slash_len ([] : Str)
    have hm := pieces_mem ([] : Str)
    have hres : PathGet [] = walkL [] (splitB 47 (Lib.replaceAll ([] : Str) [92] [47])) := by
      rw [ra_slash]
      simp only [PathGet, piecesH]
      rw [if_neg (by simp only [List.length_cons, List.length_nil] at h200 ⊢; omega)]
      try rfl
    have h201 : (([] : Str) : Str).length ≤ 200 := by simp only [List.length_cons, List.length_nil] at h200 ⊢; omega
    try simp only [List.length_cons, List.length_nil] at h201 hl2 hl3 hm
    refine vcFn_intro rfl rfl (by kernel_rfl) rfl ?_
    try dsimp +instances only [go_sem, Nat.reduceBEq, Nat.reduceAdd, Nat.reduceSub, Nat.reduceLT, Nat.reduceLeDiff]
    try simp only [bb, Nat.reduceAdd, Int.reduceToNat, Int.reduceLE, Int.reduceLT, Nat.reduceLT, Nat.reduceMul, Nat.reduceLeDiff]
    repeat (dsimp +instances only [go_sem, Nat.reduceBEq, Nat.reduceAdd, Nat.reduceSub, Nat.reduceLT, Nat.reduceLeDiff]; try simp only [bb, Nat.reduceAdd, Int.reduceToNat, Int.reduceLE, Int.reduceLT, Nat.reduceLT, Nat.reduceMul, Nat.reduceLeDiff])
    try simp only [nn, reduceCtorEq, h200]
    (repeat' (first | refine And.intro ?_ ?_ | intro _)) <;> try first | omega | trivial
    all_goals try first | (simp only [List.length_cons]; omega) | omega
    · rw [hres]
      generalize splitB 47 (Lib.replaceAll ([] : Str) [92] [47]) = parts at *
      refine vcC_loopN [5, 6, 15, 16, 17] (fun (x : Nat × List Str × List Str) => x.1 ≤ parts.length ∧ x.2.1.length ≤ x.1 ∧ walkL x.2.1 (parts.drop x.1) = walkL [] parts) (fun x => [.pth 0 1 0 x.2.1.length, .pth 1 1 0 parts.length, .pth 1 1 0 parts.length, .cv (.int .i64 parts.length), .cv (.int .i64 x.1)]) (fun x => [.row 1 ((x.2.1 ++ x.2.2).map rStr.enc) [], .row 1 (parts.map rStr.enc) []]) (fun x => parts.length - x.1) (0, [], []) [(5, false)] (by simp) ⟨rfl, rfl⟩ ?_
      rintro ⟨i, o, j⟩ ⟨hi, hlo, he⟩
      simp only at hi hlo he
      rcases Nat.lt_or_ge i parts.length with hlt | hge
      · have hg := getD_at rStr hlt
        rw [List.drop_eq_getElem_cons hlt, walkL_cons] at he
        have hm := hm i hlt
        have hE : encS (setB 1) parts[i] = Encode 1 parts[i] := by rw [Encode, if_pos (by omega)]
        try dsimp +instances only [go_sem, Nat.reduceBEq, Nat.reduceAdd, Nat.reduceSub, Nat.reduceLT, Nat.reduceLeDiff]
        repeat (simp only [hg, rStr_enc, Int.toNat_natCast, hE, bb, Nat.reduceAdd, Int.reduceToNat, Int.reduceLE, Int.reduceLT, Nat.reduceLT, Nat.reduceMul, Nat.reduceLeDiff]; try dsimp +instances only [go_sem, Nat.reduceBEq, Nat.reduceAdd, Nat.reduceSub, Nat.reduceLT, Nat.reduceLeDiff])
        try simp only [nn, reduceCtorEq, hlt, decide_true]
        have hwl := walkS_len o parts[i]
        have hdn : parts.drop (i + 1) = [] ↔ (i : Int) = parts.length - 1 := by simp only [List.drop_eq_nil_iff]; omega
        have hW : walkS o parts[i] (decide ((i : Int) = parts.length - 1)) = (if dotsN parts[i] = 2 ∧ 0 < o.length then (if (i : Int) = parts.length - 1 then o.dropLast ++ [[]] else o.dropLast) else if dotsN parts[i] = 0 then o ++ [Encode 1 parts[i]] else if (i : Int) = parts.length - 1 then o ++ [[]] else o) := by
          unfold walkS
          cases o with
          | nil => grind
          | cons a o => grind
        simp only [hdn, hW] at he
        try simp only [nn, reduceCtorEq, decide_eq_true_eq]
        clear hg hW hwl hdn hE hres
        (repeat' (first | refine And.intro ?_ ?_ | intro _)) <;> try first | omega | trivial
        all_goals first
        | (refine nextL_intro ((i + 1, o.dropLast ++ [[]], [])) ?_ ?_ ?_ ?_ <;> first | (simp only; done) | rfl | (simp only; omega) | (simp; done) | (simp; omega) | grind [dropLast_app])
        | (refine nextL_intro ((i + 1, o.dropLast, o.drop (o.length - 1) ++ j)) ?_ ?_ ?_ ?_ <;> first | (simp only; done) | rfl | (simp only; omega) | (simp; done) | (simp; omega) | grind [dropLast_app])
        | (refine nextL_intro ((i + 1, o ++ [Encode 1 parts[i]], [])) ?_ ?_ ?_ ?_ <;> first | (simp only; done) | rfl | (simp only; omega) | (simp; done) | (simp; omega) | grind [dropLast_app])
        | (refine nextL_intro ((i + 1, o ++ [[]], [])) ?_ ?_ ?_ ?_ <;> first | (simp only; done) | rfl | (simp only; omega) | (simp; done) | (simp; omega) | grind [dropLast_app])
        | (refine nextL_intro ((i + 1, o, j)) ?_ ?_ ?_ ?_ <;> first | (simp only; done) | rfl | (simp only; omega) | (simp; done) | (simp; omega) | grind [dropLast_app])
        | grind (splits := 20) [dropLast_app]
      · rw [List.drop_eq_nil_of_le hge, walkL] at he
        repeat (dsimp +instances only [go_sem, Nat.reduceBEq, Nat.reduceAdd, Nat.reduceSub, Nat.reduceLT, Nat.reduceLeDiff]; try simp only [bb, Nat.reduceAdd, Int.reduceToNat, Int.reduceLE, Int.reduceLT, Nat.reduceLT, Nat.reduceMul, Nat.reduceLeDiff])
        try simp only [nn, reduceCtorEq, Nat.not_lt.2 hge, decide_false]
        rw [← he]
        (repeat' (first | refine And.intro ?_ ?_ | intro _)) <;> try first | omega | trivial
        rename_i h
        rw [List.length_eq_zero_iff.1 h]; rfl
    · rw [hres]
      generalize splitB 47 (Lib.replaceAll ([] : Str) [92] [47]) = parts at *
      refine vcC_loop [5, 6, 15, 16, 17] (fun (x : Nat × List Str × List Str) => x.1 ≤ parts.length ∧ x.2.1.length ≤ x.1 ∧ walkL x.2.1 (parts.drop x.1) = walkL [] parts) (fun x => [.pth 0 1 0 x.2.1.length, .pth 1 1 0 parts.length, .pth 1 1 0 parts.length, .cv (.int .i64 parts.length), .cv (.int .i64 x.1)]) (fun x => [.row 1 ((x.2.1 ++ x.2.2).map rStr.enc) [], .row 1 (parts.map rStr.enc) []]) (fun x => parts.length - x.1) (0, [], []) (by simp) ⟨rfl, rfl⟩ ?_
      rintro ⟨i, o, j⟩ ⟨hi, hlo, he⟩
      simp only at hi hlo he
      rcases Nat.lt_or_ge i parts.length with hlt | hge
      · have hg := getD_at rStr hlt
        rw [List.drop_eq_getElem_cons hlt, walkL_cons] at he
        have hm := hm i hlt
        have hE : encS (setB 1) parts[i] = Encode 1 parts[i] := by rw [Encode, if_pos (by omega)]
        try dsimp +instances only [go_sem, Nat.reduceBEq, Nat.reduceAdd, Nat.reduceSub, Nat.reduceLT, Nat.reduceLeDiff]
        repeat (simp only [hg, rStr_enc, Int.toNat_natCast, hE, bb, Nat.reduceAdd, Int.reduceToNat, Int.reduceLE, Int.reduceLT, Nat.reduceLT, Nat.reduceMul, Nat.reduceLeDiff]; try dsimp +instances only [go_sem, Nat.reduceBEq, Nat.reduceAdd, Nat.reduceSub, Nat.reduceLT, Nat.reduceLeDiff])
        try simp only [nn, reduceCtorEq, hlt, decide_true]
        have hwl := walkS_len o parts[i]
        have hdn : parts.drop (i + 1) = [] ↔ (i : Int) = parts.length - 1 := by simp only [List.drop_eq_nil_iff]; omega
        have hW : walkS o parts[i] (decide ((i : Int) = parts.length - 1)) = (if dotsN parts[i] = 2 ∧ 0 < o.length then (if (i : Int) = parts.length - 1 then o.dropLast ++ [[]] else o.dropLast) else if dotsN parts[i] = 0 then o ++ [Encode 1 parts[i]] else if (i : Int) = parts.length - 1 then o ++ [[]] else o) := by
          unfold walkS
          cases o with
          | nil => grind
          | cons a o => grind
        simp only [hdn, hW] at he
        try simp only [nn, reduceCtorEq, decide_eq_true_eq]
        clear hg hW hwl hdn hE hres
        (repeat' (first | refine And.intro ?_ ?_ | intro _)) <;> try first | omega | trivial
        all_goals first
        | (refine nextL_intro ((i + 1, o.dropLast ++ [[]], [])) ?_ ?_ ?_ ?_ <;> first | (simp only; done) | rfl | (simp only; omega) | (simp; done) | (simp; omega) | grind [dropLast_app])
        | (refine nextL_intro ((i + 1, o.dropLast, o.drop (o.length - 1) ++ j)) ?_ ?_ ?_ ?_ <;> first | (simp only; done) | rfl | (simp only; omega) | (simp; done) | (simp; omega) | grind [dropLast_app])
        | (refine nextL_intro ((i + 1, o ++ [Encode 1 parts[i]], [])) ?_ ?_ ?_ ?_ <;> first | (simp only; done) | rfl | (simp only; omega) | (simp; done) | (simp; omega) | grind [dropLast_app])
        | (refine nextL_intro ((i + 1, o ++ [[]], [])) ?_ ?_ ?_ ?_ <;> first | (simp only; done) | rfl | (simp only; omega) | (simp; done) | (simp; omega) | grind [dropLast_app])
        | (refine nextL_intro ((i + 1, o, j)) ?_ ?_ ?_ ?_ <;> first | (simp only; done) | rfl | (simp only; omega) | (simp; done) | (simp; omega) | grind [dropLast_app])
        | grind (splits := 20) [dropLast_app]
      · rw [List.drop_eq_nil_of_le hge, walkL] at he
        repeat (dsimp +instances only [go_sem, Nat.reduceBEq, Nat.reduceAdd, Nat.reduceSub, Nat.reduceLT, Nat.reduceLeDiff]; try simp only [bb, Nat.reduceAdd, Int.reduceToNat, Int.reduceLE, Int.reduceLT, Nat.reduceLT, Nat.reduceMul, Nat.reduceLeDiff])
        try simp only [nn, reduceCtorEq, Nat.not_lt.2 hge, decide_false]
        rw [← he]
        (repeat' (first | refine And.intro ?_ ?_ | intro _)) <;> try first | omega | trivial
        rename_i h
        rw [List.length_eq_zero_iff.1 h]; rfl
  | c :: r, ftext, h200 =>
    cases hsl : slashC c
    · skip
      have hl2 := pieces_len (c :: r)
      have hl3 := ra_slash_len (c :: r)
      have hm := pieces_mem (c :: r)
      have hres : PathGet (c :: r) = walkL [] (splitB 47 (Lib.replaceAll (c :: r) [92] [47])) := by
        rw [ra_slash]
        simp only [PathGet, piecesH]
        rw [if_neg (by simp only [List.length_cons, List.length_nil] at h200 ⊢; omega)]
        simp only [slashC, decide_eq_false_iff_not] at hsl; rw [if_neg hsl]; try rfl
      have h201 : ((c :: r) : Str).length ≤ 200 := by simp only [List.length_cons, List.length_nil] at h200 ⊢; omega
      try simp only [List.length_cons, List.length_nil] at h201 hl2 hl3 hm
      refine vcFn_intro rfl rfl (by kernel_rfl) rfl ?_
      try dsimp +instances only [go_sem, Nat.reduceBEq, Nat.reduceAdd, Nat.reduceSub, Nat.reduceLT, Nat.reduceLeDiff]
      try simp only [bb, Nat.reduceAdd, Int.reduceToNat, Int.reduceLE, Int.reduceLT, Nat.reduceLT, Nat.reduceMul, Nat.reduceLeDiff]
      repeat (dsimp +instances only [go_sem, Nat.reduceBEq, Nat.reduceAdd, Nat.reduceSub, Nat.reduceLT, Nat.reduceLeDiff]; try simp only [bb, Nat.reduceAdd, Int.reduceToNat, Int.reduceLE, Int.reduceLT, Nat.reduceLT, Nat.reduceMul, Nat.reduceLeDiff])
      try simp only [nn, reduceCtorEq, hsl, h200]
      (repeat' (first | refine And.intro ?_ ?_ | intro _)) <;> try first | omega | trivial
      all_goals try first | (simp only [List.length_cons]; omega) | omega
      · rw [hres]
        generalize splitB 47 (Lib.replaceAll (c :: r) [92] [47]) = parts at *
        refine vcC_loopN [5, 6, 15, 16, 17] (fun (x : Nat × List Str × List Str) => x.1 ≤ parts.length ∧ x.2.1.length ≤ x.1 ∧ walkL x.2.1 (parts.drop x.1) = walkL [] parts) (fun x => [.pth 0 1 0 x.2.1.length, .pth 1 1 0 parts.length, .pth 1 1 0 parts.length, .cv (.int .i64 parts.length), .cv (.int .i64 x.1)]) (fun x => [.row 1 ((x.2.1 ++ x.2.2).map rStr.enc) [], .row 1 (parts.map rStr.enc) []]) (fun x => parts.length - x.1) (0, [], []) [(5, false)] (by simp) ⟨rfl, rfl⟩ ?_
        rintro ⟨i, o, j⟩ ⟨hi, hlo, he⟩
        simp only at hi hlo he
        rcases Nat.lt_or_ge i parts.length with hlt | hge
        · have hg := getD_at rStr hlt
          rw [List.drop_eq_getElem_cons hlt, walkL_cons] at he
          have hm := hm i hlt
          have hE : encS (setB 1) parts[i] = Encode 1 parts[i] := by rw [Encode, if_pos (by omega)]
          try dsimp +instances only [go_sem, Nat.reduceBEq, Nat.reduceAdd, Nat.reduceSub, Nat.reduceLT, Nat.reduceLeDiff]
          repeat (simp only [hg, rStr_enc, Int.toNat_natCast, hE, bb, Nat.reduceAdd, Int.reduceToNat, Int.reduceLE, Int.reduceLT, Nat.reduceLT, Nat.reduceMul, Nat.reduceLeDiff]; try dsimp +instances only [go_sem, Nat.reduceBEq, Nat.reduceAdd, Nat.reduceSub, Nat.reduceLT, Nat.reduceLeDiff])
          try simp only [nn, reduceCtorEq, hlt, decide_true]
          have hwl := walkS_len o parts[i]
          have hdn : parts.drop (i + 1) = [] ↔ (i : Int) = parts.length - 1 := by simp only [List.drop_eq_nil_iff]; omega
          have hW : walkS o parts[i] (decide ((i : Int) = parts.length - 1)) = (if dotsN parts[i] = 2 ∧ 0 < o.length then (if (i : Int) = parts.length - 1 then o.dropLast ++ [[]] else o.dropLast) else if dotsN parts[i] = 0 then o ++ [Encode 1 parts[i]] else if (i : Int) = parts.length - 1 then o ++ [[]] else o) := by
            unfold walkS
            cases o with
            | nil => grind
            | cons a o => grind
          simp only [hdn, hW] at he
          try simp only [nn, reduceCtorEq, decide_eq_true_eq]
          clear hg hW hwl hdn hE hres
          (repeat' (first | refine And.intro ?_ ?_ | intro _)) <;> try first | omega | trivial
          all_goals first
          | (refine nextL_intro ((i + 1, o.dropLast ++ [[]], [])) ?_ ?_ ?_ ?_ <;> first | (simp only; done) | rfl | (simp only; omega) | (simp; done) | (simp; omega) | grind [dropLast_app])
          | (refine nextL_intro ((i + 1, o.dropLast, o.drop (o.length - 1) ++ j)) ?_ ?_ ?_ ?_ <;> first | (simp only; done) | rfl | (simp only; omega) | (simp; done) | (simp; omega) | grind [dropLast_app])
          | (refine nextL_intro ((i + 1, o ++ [Encode 1 parts[i]], [])) ?_ ?_ ?_ ?_ <;> first | (simp only; done) | rfl | (simp only; omega) | (simp; done) | (simp; omega) | grind [dropLast_app])
          | (refine nextL_intro ((i + 1, o ++ [[]], [])) ?_ ?_ ?_ ?_ <;> first | (simp only; done) | rfl | (simp only; omega) | (simp; done) | (simp; omega) | grind [dropLast_app])
          | (refine nextL_intro ((i + 1, o, j)) ?_ ?_ ?_ ?_ <;> first | (simp only; done) | rfl | (simp only; omega) | (simp; done) | (simp; omega) | grind [dropLast_app])
          | grind (splits := 20) [dropLast_app]
        · rw [List.drop_eq_nil_of_le hge, walkL] at he
          repeat (dsimp +instances only [go_sem, Nat.reduceBEq, Nat.reduceAdd, Nat.reduceSub, Nat.reduceLT, Nat.reduceLeDiff]; try simp only [bb, Nat.reduceAdd, Int.reduceToNat, Int.reduceLE, Int.reduceLT, Nat.reduceLT, Nat.reduceMul, Nat.reduceLeDiff])
          try simp only [nn, reduceCtorEq, Nat.not_lt.2 hge, decide_false]
          rw [← he]
          (repeat' (first | refine And.intro ?_ ?_ | intro _)) <;> try first | omega | trivial
          rename_i h
          rw [List.length_eq_zero_iff.1 h]; rfl
      · rw [hres]
        generalize splitB 47 (Lib.replaceAll (c :: r) [92] [47]) = parts at *
        refine vcC_loop [5, 6, 15, 16, 17] (fun (x : Nat × List Str × List Str) => x.1 ≤ parts.length ∧ x.2.1.length ≤ x.1 ∧ walkL x.2.1 (parts.drop x.1) = walkL [] parts) (fun x => [.pth 0 1 0 x.2.1.length, .pth 1 1 0 parts.length, .pth 1 1 0 parts.length, .cv (.int .i64 parts.length), .cv (.int .i64 x.1)]) (fun x => [.row 1 ((x.2.1 ++ x.2.2).map rStr.enc) [], .row 1 (parts.map rStr.enc) []]) (fun x => parts.length - x.1) (0, [], []) (by simp) ⟨rfl, rfl⟩ ?_
        rintro ⟨i, o, j⟩ ⟨hi, hlo, he⟩
        simp only at hi hlo he
        rcases Nat.lt_or_ge i parts.length with hlt | hge
        · have hg := getD_at rStr hlt
          rw [List.drop_eq_getElem_cons hlt, walkL_cons] at he
          have hm := hm i hlt
          have hE : encS (setB 1) parts[i] = Encode 1 parts[i] := by rw [Encode, if_pos (by omega)]
          try dsimp +instances only [go_sem, Nat.reduceBEq, Nat.reduceAdd, Nat.reduceSub, Nat.reduceLT, Nat.reduceLeDiff]
          repeat (simp only [hg, rStr_enc, Int.toNat_natCast, hE, bb, Nat.reduceAdd, Int.reduceToNat, Int.reduceLE, Int.reduceLT, Nat.reduceLT, Nat.reduceMul, Nat.reduceLeDiff]; try dsimp +instances only [go_sem, Nat.reduceBEq, Nat.reduceAdd, Nat.reduceSub, Nat.reduceLT, Nat.reduceLeDiff])
          try simp only [nn, reduceCtorEq, hlt, decide_true]
          have hwl := walkS_len o parts[i]
          have hdn : parts.drop (i + 1) = [] ↔ (i : Int) = parts.length - 1 := by simp only [List.drop_eq_nil_iff]; omega
          have hW : walkS o parts[i] (decide ((i : Int) = parts.length - 1)) = (if dotsN parts[i] = 2 ∧ 0 < o.length then (if (i : Int) = parts.length - 1 then o.dropLast ++ [[]] else o.dropLast) else if dotsN parts[i] = 0 then o ++ [Encode 1 parts[i]] else if (i : Int) = parts.length - 1 then o ++ [[]] else o) := by
            unfold walkS
            cases o with
            | nil => grind
            | cons a o => grind
          simp only [hdn, hW] at he
          try simp only [nn, reduceCtorEq, decide_eq_true_eq]
          clear hg hW hwl hdn hE hres
          (repeat' (first | refine And.intro ?_ ?_ | intro _)) <;> try first | omega | trivial
          all_goals first
          | (refine nextL_intro ((i + 1, o.dropLast ++ [[]], [])) ?_ ?_ ?_ ?_ <;> first | (simp only; done) | rfl | (simp only; omega) | (simp; done) | (simp; omega) | grind [dropLast_app])
          | (refine nextL_intro ((i + 1, o.dropLast, o.drop (o.length - 1) ++ j)) ?_ ?_ ?_ ?_ <;> first | (simp only; done) | rfl | (simp only; omega) | (simp; done) | (simp; omega) | grind [dropLast_app])
          | (refine nextL_intro ((i + 1, o ++ [Encode 1 parts[i]], [])) ?_ ?_ ?_ ?_ <;> first | (simp only; done) | rfl | (simp only; omega) | (simp; done) | (simp; omega) | grind [dropLast_app])
          | (refine nextL_intro ((i + 1, o ++ [[]], [])) ?_ ?_ ?_ ?_ <;> first | (simp only; done) | rfl | (simp only; omega) | (simp; done) | (simp; omega) | grind [dropLast_app])
          | (refine nextL_intro ((i + 1, o, j)) ?_ ?_ ?_ ?_ <;> first | (simp only; done) | rfl | (simp only; omega) | (simp; done) | (simp; omega) | grind [dropLast_app])
          | grind (splits := 20) [dropLast_app]
        · rw [List.drop_eq_nil_of_le hge, walkL] at he
          repeat (dsimp +instances only [go_sem, Nat.reduceBEq, Nat.reduceAdd, Nat.reduceSub, Nat.reduceLT, Nat.reduceLeDiff]; try simp only [bb, Nat.reduceAdd, Int.reduceToNat, Int.reduceLE, Int.reduceLT, Nat.reduceLT, Nat.reduceMul, Nat.reduceLeDiff])
          try simp only [nn, reduceCtorEq, Nat.not_lt.2 hge, decide_false]
          rw [← he]
          (repeat' (first | refine And.intro ?_ ?_ | intro _)) <;> try first | omega | trivial
          rename_i h
          rw [List.length_eq_zero_iff.1 h]; rfl
    · skip
      have hl2 := pieces_len r
      have hl3 := ra_slash_len r
      have hm := pieces_mem r
      have hres : PathGet (c :: r) = walkL [] (splitB 47 (Lib.replaceAll r [92] [47])) := by
        rw [ra_slash]
        simp only [PathGet, piecesH]
        rw [if_neg (by simp only [List.length_cons, List.length_nil] at h200 ⊢; omega)]
        simp only [slashC, decide_eq_true_eq] at hsl; rw [if_pos hsl]; try rfl
      have h201 : (r : Str).length ≤ 200 := by simp only [List.length_cons, List.length_nil] at h200 ⊢; omega
      try simp only [List.length_cons, List.length_nil] at h201 hl2 hl3 hm
      refine vcFn_intro rfl rfl (by kernel_rfl) rfl ?_
      try dsimp +instances only [go_sem, Nat.reduceBEq, Nat.reduceAdd, Nat.reduceSub, Nat.reduceLT, Nat.reduceLeDiff]
      try simp only [bb, Nat.reduceAdd, Int.reduceToNat, Int.reduceLE, Int.reduceLT, Nat.reduceLT, Nat.reduceMul, Nat.reduceLeDiff]
      repeat (dsimp +instances only [go_sem, Nat.reduceBEq, Nat.reduceAdd, Nat.reduceSub, Nat.reduceLT, Nat.reduceLeDiff]; try simp only [bb, Nat.reduceAdd, Int.reduceToNat, Int.reduceLE, Int.reduceLT, Nat.reduceLT, Nat.reduceMul, Nat.reduceLeDiff])
      try simp only [nn, reduceCtorEq, hsl, h200]
      (repeat' (first | refine And.intro ?_ ?_ | intro _)) <;> try first | omega | trivial
      all_goals try first | (simp only [List.length_cons]; omega) | omega
      · rw [hres]
        generalize splitB 47 (Lib.replaceAll r [92] [47]) = parts at *
        refine vcC_loopN [5, 6, 15, 16, 17] (fun (x : Nat × List Str × List Str) => x.1 ≤ parts.length ∧ x.2.1.length ≤ x.1 ∧ walkL x.2.1 (parts.drop x.1) = walkL [] parts) (fun x => [.pth 0 1 0 x.2.1.length, .pth 1 1 0 parts.length, .pth 1 1 0 parts.length, .cv (.int .i64 parts.length), .cv (.int .i64 x.1)]) (fun x => [.row 1 ((x.2.1 ++ x.2.2).map rStr.enc) [], .row 1 (parts.map rStr.enc) []]) (fun x => parts.length - x.1) (0, [], []) [(5, false)] (by simp) ⟨rfl, rfl⟩ ?_
        rintro ⟨i, o, j⟩ ⟨hi, hlo, he⟩
        simp only at hi hlo he
        rcases Nat.lt_or_ge i parts.length with hlt | hge
        · have hg := getD_at rStr hlt
          rw [List.drop_eq_getElem_cons hlt, walkL_cons] at he
          have hm := hm i hlt
          have hE : encS (setB 1) parts[i] = Encode 1 parts[i] := by rw [Encode, if_pos (by omega)]
          try dsimp +instances only [go_sem, Nat.reduceBEq, Nat.reduceAdd, Nat.reduceSub, Nat.reduceLT, Nat.reduceLeDiff]
          repeat (simp only [hg, rStr_enc, Int.toNat_natCast, hE, bb, Nat.reduceAdd, Int.reduceToNat, Int.reduceLE, Int.reduceLT, Nat.reduceLT, Nat.reduceMul, Nat.reduceLeDiff]; try dsimp +instances only [go_sem, Nat.reduceBEq, Nat.reduceAdd, Nat.reduceSub, Nat.reduceLT, Nat.reduceLeDiff])
          try simp only [nn, reduceCtorEq, hlt, decide_true]
          have hwl := walkS_len o parts[i]
          have hdn : parts.drop (i + 1) = [] ↔ (i : Int) = parts.length - 1 := by simp only [List.drop_eq_nil_iff]; omega
          have hW : walkS o parts[i] (decide ((i : Int) = parts.length - 1)) = (if dotsN parts[i] = 2 ∧ 0 < o.length then (if (i : Int) = parts.length - 1 then o.dropLast ++ [[]] else o.dropLast) else if dotsN parts[i] = 0 then o ++ [Encode 1 parts[i]] else if (i : Int) = parts.length - 1 then o ++ [[]] else o) := by
            unfold walkS
            cases o with
            | nil => grind
            | cons a o => grind
          simp only [hdn, hW] at he
          try simp only [nn, reduceCtorEq, decide_eq_true_eq]
          clear hg hW hwl hdn hE hres
          (repeat' (first | refine And.intro ?_ ?_ | intro _)) <;> try first | omega | trivial
          all_goals first
          | (refine nextL_intro ((i + 1, o.dropLast ++ [[]], [])) ?_ ?_ ?_ ?_ <;> first | (simp only; done) | rfl | (simp only; omega) | (simp; done) | (simp; omega) | grind [dropLast_app])
          | (refine nextL_intro ((i + 1, o.dropLast, o.drop (o.length - 1) ++ j)) ?_ ?_ ?_ ?_ <;> first | (simp only; done) | rfl | (simp only; omega) | (simp; done) | (simp; omega) | grind [dropLast_app])
          | (refine nextL_intro ((i + 1, o ++ [Encode 1 parts[i]], [])) ?_ ?_ ?_ ?_ <;> first | (simp only; done) | rfl | (simp only; omega) | (simp; done) | (simp; omega) | grind [dropLast_app])
          | (refine nextL_intro ((i + 1, o ++ [[]], [])) ?_ ?_ ?_ ?_ <;> first | (simp only; done) | rfl | (simp only; omega) | (simp; done) | (simp; omega) | grind [dropLast_app])
          | (refine nextL_intro ((i + 1, o, j)) ?_ ?_ ?_ ?_ <;> first | (simp only; done) | rfl | (simp only; omega) | (simp; done) | (simp; omega) | grind [dropLast_app])
          | grind (splits := 20) [dropLast_app]
        · rw [List.drop_eq_nil_of_le hge, walkL] at he
          repeat (dsimp +instances only [go_sem, Nat.reduceBEq, Nat.reduceAdd, Nat.reduceSub, Nat.reduceLT, Nat.reduceLeDiff]; try simp only [bb, Nat.reduceAdd, Int.reduceToNat, Int.reduceLE, Int.reduceLT, Nat.reduceLT, Nat.reduceMul, Nat.reduceLeDiff])
          try simp only [nn, reduceCtorEq, Nat.not_lt.2 hge, decide_false]
          rw [← he]
          (repeat' (first | refine And.intro ?_ ?_ | intro _)) <;> try first | omega | trivial
          rename_i h
          rw [List.length_eq_zero_iff.1 h]; rfl
      · rw [hres]
        generalize splitB 47 (Lib.replaceAll r [92] [47]) = parts at *
        refine vcC_loop [5, 6, 15, 16, 17] (fun (x : Nat × List Str × List Str) => x.1 ≤ parts.length ∧ x.2.1.length ≤ x.1 ∧ walkL x.2.1 (parts.drop x.1) = walkL [] parts) (fun x => [.pth 0 1 0 x.2.1.length, .pth 1 1 0 parts.length, .pth 1 1 0 parts.length, .cv (.int .i64 parts.length), .cv (.int .i64 x.1)]) (fun x => [.row 1 ((x.2.1 ++ x.2.2).map rStr.enc) [], .row 1 (parts.map rStr.enc) []]) (fun x => parts.length - x.1) (0, [], []) (by simp) ⟨rfl, rfl⟩ ?_
        rintro ⟨i, o, j⟩ ⟨hi, hlo, he⟩
        simp only at hi hlo he
        rcases Nat.lt_or_ge i parts.length with hlt | hge
        · have hg := getD_at rStr hlt
          rw [List.drop_eq_getElem_cons hlt, walkL_cons] at he
          have hm := hm i hlt
          have hE : encS (setB 1) parts[i] = Encode 1 parts[i] := by rw [Encode, if_pos (by omega)]
          try dsimp +instances only [go_sem, Nat.reduceBEq, Nat.reduceAdd, Nat.reduceSub, Nat.reduceLT, Nat.reduceLeDiff]
          repeat (simp only [hg, rStr_enc, Int.toNat_natCast, hE, bb, Nat.reduceAdd, Int.reduceToNat, Int.reduceLE, Int.reduceLT, Nat.reduceLT, Nat.reduceMul, Nat.reduceLeDiff]; try dsimp +instances only [go_sem, Nat.reduceBEq, Nat.reduceAdd, Nat.reduceSub, Nat.reduceLT, Nat.reduceLeDiff])
          try simp only [nn, reduceCtorEq, hlt, decide_true]
          have hwl := walkS_len o parts[i]
          have hdn : parts.drop (i + 1) = [] ↔ (i : Int) = parts.length - 1 := by simp only [List.drop_eq_nil_iff]; omega
          have hW : walkS o parts[i] (decide ((i : Int) = parts.length - 1)) = (if dotsN parts[i] = 2 ∧ 0 < o.length then (if (i : Int) = parts.length - 1 then o.dropLast ++ [[]] else o.dropLast) else if dotsN parts[i] = 0 then o ++ [Encode 1 parts[i]] else if (i : Int) = parts.length - 1 then o ++ [[]] else o) := by
            unfold walkS
            cases o with
            | nil => grind
            | cons a o => grind
          simp only [hdn, hW] at he
          try simp only [nn, reduceCtorEq, decide_eq_true_eq]
          clear hg hW hwl hdn hE hres
          (repeat' (first | refine And.intro ?_ ?_ | intro _)) <;> try first | omega | trivial
          all_goals first
          | (refine nextL_intro ((i + 1, o.dropLast ++ [[]], [])) ?_ ?_ ?_ ?_ <;> first | (simp only; done) | rfl | (simp only; omega) | (simp; done) | (simp; omega) | grind [dropLast_app])
          | (refine nextL_intro ((i + 1, o.dropLast, o.drop (o.length - 1) ++ j)) ?_ ?_ ?_ ?_ <;> first | (simp only; done) | rfl | (simp only; omega) | (simp; done) | (simp; omega) | grind [dropLast_app])
          | (refine nextL_intro ((i + 1, o ++ [Encode 1 parts[i]], [])) ?_ ?_ ?_ ?_ <;> first | (simp only; done) | rfl | (simp only; omega) | (simp; done) | (simp; omega) | grind [dropLast_app])
          | (refine nextL_intro ((i + 1, o ++ [[]], [])) ?_ ?_ ?_ ?_ <;> first | (simp only; done) | rfl | (simp only; omega) | (simp; done) | (simp; omega) | grind [dropLast_app])
          | (refine nextL_intro ((i + 1, o, j)) ?_ ?_ ?_ ?_ <;> first | (simp only; done) | rfl | (simp only; omega) | (simp; done) | (simp; omega) | grind [dropLast_app])
          | grind (splits := 20) [dropLast_app]
        · rw [List.drop_eq_nil_of_le hge, walkL] at he
          repeat (dsimp +instances only [go_sem, Nat.reduceBEq, Nat.reduceAdd, Nat.reduceSub, Nat.reduceLT, Nat.reduceLeDiff]; try simp only [bb, Nat.reduceAdd, Int.reduceToNat, Int.reduceLE, Int.reduceLT, Nat.reduceLT, Nat.reduceMul, Nat.reduceLeDiff])
          try simp only [nn, reduceCtorEq, Nat.not_lt.2 hge, decide_false]
          rw [← he]
          (repeat' (first | refine And.intro ?_ ?_ | intro _)) <;> try first | omega | trivial
          rename_i h
          rw [List.length_eq_zero_iff.1 h]; rfl
end Go.Gx
end
section
namespace Go.Gx
open Go.Proofs
theorem schA_sum (s : Str) (h : (schA [] s).2 = true) : (schA [] s).1.1.length + (schA [] s).1.2.length + 1 = s.length := by
  rw [schA_eq] at h ⊢
  split
  · rename_i h2
    simp only [lower_len, List.length_take, List.length_drop]; omega
  · rename_i h2
    rw [if_neg h2] at h; simp at h
def tlU (u : Url) (B : Str) : Url := { u with HasQuery := decide (B.take (atAny [35] B) ≠ []), Query := encS (setB 2) ((B.take (atAny [35] B)).drop 1), HasFrag := decide (atAny [35] B < B.length), Frag := encS (setB 3) (B.drop (atAny [35] B + 1)) }
theorem Encode_le (n : Int) (s : Str) (h : s.length ≤ 200) : Encode n s = encS (setB n) s := by rw [Encode, if_pos h]
theorem tail_eq (u : Url) (B : Str) (hB : B.length ≤ 200) (h1 : u.HasQuery = false) (h2 : u.Query = []) (h3 : u.HasFrag = false) (h4 : u.Frag = []) : withTail u B = tlU u B := by
  have hk := atAny_le [35] B
  obtain ⟨a1, a2, a3, a4, a5, a6, a7, b1, b2, b3, b4⟩ := u
  simp only at h1 h2 h3 h4
  subst h1 h2 h3 h4
  unfold withTail tlU
  simp only
  rw [Encode_le 3 _ (by simp only [List.length_drop]; omega), Encode_le 2 _ (by simp only [List.length_drop, List.length_take]; omega)]
  by_cases c1 : atAny [35] B < B.length <;> by_cases c2 : B.take (atAny [35] B) = []
  · simp [c1, c2, encS]
  · simp [c1, c2]
  · have : B.drop (atAny [35] B + 1) = [] := List.drop_eq_nil_of_le (by omega)
    simp [c1, c2, this, encS]
  · have : B.drop (atAny [35] B + 1) = [] := List.drop_eq_nil_of_le (by omega)
    simp [c1, c2, this, encS]
theorem tlU_len (u : Url) (B : Str) : (tailT (tlU u B)).length ≤ 3 * B.length := by
  have h1 := encS_len (setB 2) ((B.take (atAny [35] B)).drop 1)
  have h2 := encS_len (setB 3) (B.drop (atAny [35] B + 1))
  have hk := atAny_le [35] B
  have h3 : B.take (atAny [35] B) ≠ [] → 1 ≤ atAny [35] B := fun h => by
    rcases Nat.eq_zero_or_pos (atAny [35] B) with h0 | h0
    · rw [h0] at h; simp at h
    · exact h0
  simp only [List.length_drop, List.length_take] at h1 h2
  simp only [tailT, tlU, decide_eq_true_eq]
  by_cases c1 : atAny [35] B < B.length <;> by_cases c2 : B.take (atAny [35] B) = []
  all_goals simp only [c1, c2, ne_eq, not_true_eq_false, not_false_eq_true, if_true, if_false, List.length_append, List.length_cons, List.length_nil]
  · omega
  · have := h3 c2; omega
  · omega
  · have := h3 c2; omega
def opU (s r : Str) : Url := tlU { url0 with Scheme := s, Port := -1, Opaque := encS (setB 5) (r.take (atAny [63, 35] r)) } (r.drop (atAny [63, 35] r))
theorem uget_no {text : Str} (hl : text.length ≤ 200) (h : (schA [] (trimN text)).2 = false) : UrlGet text = (url0, false) := by
  unfold UrlGet; rw [if_neg (by omega)]; simp [h]
theorem opU_put (s r : Str) (h : s.length + r.length ≤ 199) (ho : ownN s < 0) : (putU (opU s r)).length ≤ 600 := by
  have h1 := tlU_len { url0 with Scheme := s, Port := -1, Opaque := encS (setB 5) (r.take (atAny [63, 35] r)) } (r.drop (atAny [63, 35] r))
  have h2 := encS_len (setB 5) (r.take (atAny [63, 35] r))
  have hk := atAny_le [63, 35] r
  rw [putU_tail]
  have e1 : (opU s r).Scheme = s := rfl
  have e2 : (opU s r).Opaque = encS (setB 5) (r.take (atAny [63, 35] r)) := rfl
  rw [e1, if_pos ho, e2]
  simp only [List.length_append, List.length_cons, List.length_nil, List.length_take, List.length_drop] at *
  show s.length + (0 + 1) + _ + (tailT (opU s r)).length ≤ 600
  simp only [opU]
  omega
theorem uget_op {text : Str} (hl : text.length ≤ 200) (h : (schA [] (trimN text)).2 = true) (ho : ownN (schA [] (trimN text)).1.1 < 0) : UrlGet text = (opU (schA [] (trimN text)).1.1 (schA [] (trimN text)).1.2, true) := by
  have hs := schA_sum _ h
  have ht := trimN_len text
  have hr : readN (schA [] (trimN text)).1.1 (schA [] (trimN text)).1.2 = (opU (schA [] (trimN text)).1.1 (schA [] (trimN text)).1.2, true) := by
    unfold readN
    simp only
    rw [if_pos ho, tail_eq _ _ (by simp only [List.length_drop]; omega) rfl rfl rfl rfl, Encode_le _ _ (by simp only [List.length_take]; omega)]
    rfl
  unfold UrlGet; rw [if_neg (by omega)]
  simp only [h, hr, true_and]
  rw [if_pos]
  unfold fitsN
  simp only [decide_eq_true_eq]
  exact ⟨by simp [opU, tlU, url0], opU_put _ _ (by omega) ho⟩
theorem opU_sz (s r : Str) (h : s.length + r.length ≤ 199) : urlSz (opU s r) ≤ 16777216 := by
  have h1 := encS_len (setB 5) (r.take (atAny [63, 35] r))
  have h2 := encS_len (setB 2) (((r.drop (atAny [63, 35] r)).take (atAny [35] (r.drop (atAny [63, 35] r)))).drop 1)
  have h3 := encS_len (setB 3) ((r.drop (atAny [63, 35] r)).drop (atAny [35] (r.drop (atAny [63, 35] r)) + 1))
  simp only [List.length_drop, List.length_take] at h1 h2 h3
  simp only [urlSz, opU, tlU, url0, PathPut, List.length_nil]
  omega
def whoU (u : Url) (Y : Str) : Url := if 0 ≤ lastF 64 0 (-1) Y then { u with User := encS (setB 4) ((Y.take (lastF 64 0 (-1) Y).toNat).take (atAny [58] (Y.take (lastF 64 0 (-1) Y).toNat))), Pass := encS (setB 4) ((Y.take (lastF 64 0 (-1) Y).toNat).drop (atAny [58] (Y.take (lastF 64 0 (-1) Y).toNat) + 1)) } else u
def hoA (Y : Str) : Str := Y.drop (lastF 64 0 (-1) Y + 1).toNat
def hoQ (s Y : Str) : Int := portN ((hoA Y).drop (atAny [58] (hoA Y) + 1)) (ownN s)
def hoU (s Y : Str) : Url := tlU { whoU { url0 with Scheme := s, Port := -1 } (Y.take (atAny [47, 92, 63, 35] Y)) with Host := (HostGet ((hoA (Y.take (atAny [47, 92, 63, 35] Y))).take (atAny [58] (hoA (Y.take (atAny [47, 92, 63, 35] Y)))))).1, Port := hoQ s (Y.take (atAny [47, 92, 63, 35] Y)), Path := PathGet ((Y.drop (atAny [47, 92, 63, 35] Y)).take (atAny [63, 35] (Y.drop (atAny [47, 92, 63, 35] Y)))) } ((Y.drop (atAny [47, 92, 63, 35] Y)).drop (atAny [63, 35] (Y.drop (atAny [47, 92, 63, 35] Y))))
def hoK (s Y : Str) : Bool := (HostGet ((hoA (Y.take (atAny [47, 92, 63, 35] Y))).take (atAny [58] (hoA (Y.take (atAny [47, 92, 63, 35] Y)))))).2 && !decide (hoQ s (Y.take (atAny [47, 92, 63, 35] Y)) = -2)
theorem who_eq (u : Url) (Y : Str) (hY : Y.length ≤ 200) (hp : u.Pass = []) : (if 0 ≤ lastF 64 0 (-1) Y then withWho u (Y.take (lastF 64 0 (-1) Y).toNat) else u) = whoU u Y := by
  unfold whoU
  split
  · generalize hZ : Y.take (lastF 64 0 (-1) Y).toNat = Z
    have hl : Z.length ≤ 200 := by subst hZ; simp only [List.length_take]; omega
    unfold withWho
    simp only
    rw [Encode_le 4 _ (by simp only [List.length_take]; omega), Encode_le 4 _ (by simp only [List.length_drop]; omega)]
    split
    · rfl
    · have : Z.drop (atAny [58] Z + 1) = [] := List.drop_eq_nil_of_le (by omega)
      rw [this, encS, ← hp]
  · rfl
theorem auth_eq (s Y : Str) (hY : Y.length ≤ 200) : authG { url0 with Scheme := s, Port := -1 } Y = ({ whoU { url0 with Scheme := s, Port := -1 } Y with Host := (HostGet ((hoA Y).take (atAny [58] (hoA Y)))).1, Port := hoQ s Y }, (HostGet ((hoA Y).take (atAny [58] (hoA Y)))).2 && !decide (hoQ s Y = -2)) := by
  have hs : ∀ u : Url, (whoU u Y).Scheme = u.Scheme := fun u => by unfold whoU; split <;> rfl
  have hq : (if atAny [58] (hoA Y) < (hoA Y).length then portN ((hoA Y).drop (atAny [58] (hoA Y) + 1)) (ownN s) else -1) = hoQ s Y := by
    unfold hoQ
    split
    · rfl
    · have : (hoA Y).drop (atAny [58] (hoA Y) + 1) = [] := List.drop_eq_nil_of_le (by omega)
      rw [this, portN, if_pos rfl]
  unfold authG
  simp only
  rw [who_eq _ _ hY rfl, hs]
  simp only [← hq]
  rfl
theorem uget_sp {text : Str} (hl : text.length ≤ 200) (h : (schA [] (trimN text)).2 = true) (ho : 0 ≤ ownN (schA [] (trimN text)).1.1) : UrlGet text = if hoK (schA [] (trimN text)).1.1 ((schA [] (trimN text)).1.2.dropWhile slashC) = true ∧ (hoU (schA [] (trimN text)).1.1 ((schA [] (trimN text)).1.2.dropWhile slashC)).Path.length ≤ 12 ∧ (putU (hoU (schA [] (trimN text)).1.1 ((schA [] (trimN text)).1.2.dropWhile slashC))).length ≤ 600 then (hoU (schA [] (trimN text)).1.1 ((schA [] (trimN text)).1.2.dropWhile slashC), true) else (url0, false) := by
  have hs := schA_sum _ h
  have ht := trimN_len text
  have hd := len_dropWhile slashC (schA [] (trimN text)).1.2
  unfold UrlGet; rw [if_neg (by omega)]
  simp only [h, true_and]
  generalize (schA [] (trimN text)).1.1 = s at *
  have hr : readN s (schA [] (trimN text)).1.2 = hostedG { url0 with Scheme := s, Port := -1 } ((schA [] (trimN text)).1.2.dropWhile slashC) := by
    unfold readN; simp only; rw [if_neg (by omega)]
  rw [hr]
  generalize (schA [] (trimN text)).1.2.dropWhile slashC = Y at *
  have hk := atAny_le [47, 92, 63, 35] Y
  have hh : hostedG { url0 with Scheme := s, Port := -1 } Y = if hoK s Y = true then (hoU s Y, true) else (url0, false) := by
    unfold hostedG
    simp only
    rw [auth_eq s _ (by simp only [List.length_take]; omega)]
    by_cases hK : hoK s Y = true
    · rw [if_pos hK]
      unfold hoK at hK
      simp only
      rw [if_pos hK, tail_eq _ _ (by simp only [List.length_drop]; omega)]
      · rfl
      all_goals simp only [whoU]; split <;> rfl
    · rw [if_neg hK]
      unfold hoK at hK
      simp only
      rw [if_neg hK]
  rw [hh]
  cases hoK s Y
  · simp
  · simp only [if_true, true_and, fitsN, decide_eq_true_eq]
theorem PathPut_ge : ∀ p : List Str, p.length ≤ (PathPut p).length
  | [] => Nat.le_refl _
  | x :: r => by have := PathPut_ge r; simp only [PathPut, List.length_cons, List.length_append]; omega
theorem whoU_user (u : Url) (Y : Str) (h : Y.length ≤ 200) (h1 : u.User = []) (h2 : u.Pass = []) : (whoU u Y).User.length ≤ 600 ∧ (whoU u Y).Pass.length ≤ 600 := by
  unfold whoU
  split
  · have h1 := encS_len (setB 4) ((Y.take (lastF 64 0 (-1) Y).toNat).take (atAny [58] (Y.take (lastF 64 0 (-1) Y).toNat)))
    have h2 := encS_len (setB 4) ((Y.take (lastF 64 0 (-1) Y).toNat).drop (atAny [58] (Y.take (lastF 64 0 (-1) Y).toNat) + 1))
    simp only [List.length_take, List.length_drop] at h1 h2
    exact ⟨by simp only; omega, by simp only; omega⟩
  · rw [h1, h2]; simp
theorem hoU_sz (s Y : Str) (h : s.length + Y.length ≤ 199) : urlSz (hoU s Y) ≤ 16777216 := by
  have h1 := whoU_user { url0 with Scheme := s, Port := -1 } (Y.take (atAny [47, 92, 63, 35] Y)) (by simp only [List.length_take]; omega) rfl rfl
  have h2 := HostGet_small ((hoA (Y.take (atAny [47, 92, 63, 35] Y))).take (atAny [58] (hoA (Y.take (atAny [47, 92, 63, 35] Y)))))
  have h3 := PathGet_put ((Y.drop (atAny [47, 92, 63, 35] Y)).take (atAny [63, 35] (Y.drop (atAny [47, 92, 63, 35] Y))))
  have hB : ((Y.drop (atAny [47, 92, 63, 35] Y)).drop (atAny [63, 35] (Y.drop (atAny [47, 92, 63, 35] Y)))).length ≤ 200 := by simp only [List.length_drop]; omega
  have e1 : (whoU { url0 with Scheme := s, Port := -1 } (Y.take (atAny [47, 92, 63, 35] Y))).Scheme = s := by unfold whoU; split <;> rfl
  have e2 : (whoU { url0 with Scheme := s, Port := -1 } (Y.take (atAny [47, 92, 63, 35] Y))).Opaque = [] := by unfold whoU; split <;> rfl
  unfold hoU tlU urlSz
  simp only [e1, e2]
  generalize (Y.drop (atAny [47, 92, 63, 35] Y)).drop (atAny [63, 35] (Y.drop (atAny [47, 92, 63, 35] Y))) = B at *
  have h4 := encS_len (setB 2) ((B.take (atAny [35] B)).drop 1)
  have h5 := encS_len (setB 3) (B.drop (atAny [35] B + 1))
  simp only [List.length_take, List.length_drop, List.length_nil] at h4 h5 ⊢
  simp only at h1
  omega
def E192 : Env := { T := Tz.tab, G := Gl, C := [(221, ct221), (220, ct220), (125, ct125), (222, ct222), (223, ct223), (224, ct224), (78, ct78), (225, ct225), (226, ct226), (227, ct227), (228, ct228), (229, ct229), (230, ct230)], alt := [(10, some (.op 0 (.op 1 (.op 2 (.alt (.op 3 (.alt (.op 4 (.op 5 (.op 6 .done))) (.op 5 (.op 4 (.op 6 .done))))) (.op 5 (.op 3 (.op 4 (.op 6 .done)))))))))], live := [(0, [0, 2]), (1, [2, 4, 5, 6]), (2, [2, 4, 5, 34]), (3, [2, 3]), (4, [2, 4, 5, 7]), (5, [2, 5, 7, 8, 9]), (6, [2, 5, 7, 8, 44]), (7, [2, 7, 10, 11]), (8, [2, 7, 11]), (9, [2, 7]), (10, [2, 3]), (11, [2, 5, 7, 8, 66]), (12, [2, 5, 7, 8]), (13, [2, 5, 7, 8, 12]), (14, [2, 7, 8, 12, 13, 14]), (15, [2, 7, 8, 12, 13, 14, 15]), (16, [2, 7, 8, 12, 13, 14, 15, 82]), (17, [2, 7, 8, 12, 13, 14, 15, 16, 17]), (18, [2, 7, 8, 12, 13, 14, 15]), (19, [2, 7, 8, 12, 13, 14]), (20, [2, 7, 8, 13, 14, 19, 20]), (21, [2, 7, 8, 13, 14, 20, 22, 23]), (22, [2, 7, 13, 14, 22, 23, 24, 25]), (23, [2, 7, 14, 23, 25]), (24, [2, 7, 23, 25]), (25, [2, 7, 144]), (26, [2, 3]), (27, [2, 3])] }
def ct192 : Ct := .im (dom1 tStr (fun text => text.length ≤ 200)) (fn1 tStr fun text => [tUrl.enc (UrlGet text).1, tBool.enc (UrlGet text).2])
attribute [go_sem] E192 ct192 Go.Proofs.Tryz.f192
set_option maxHeartbeats 8000000 in
theorem ok192 : CtOk Tryz.prog Gl 192 ct192 := okI1 (E := E192) (sound_of Tz.tab_ok Tz.mixed (AllOk.cons ok221 (AllOk.cons ok220 (AllOk.cons ok125 (AllOk.cons ok222 (AllOk.cons ok223 (AllOk.cons ok224 (AllOk.cons ok78 (AllOk.cons ok225 (AllOk.cons ok226 (AllOk.cons ok227 (AllOk.cons ok228 (AllOk.cons ok229 (AllOk.cons ok230 AllOk.nil)))))))))))))) rfl Tryz.func192 (by kernel_rfl) fun text ftext hp => by
  have ftext := fit_str ftext
  refine vcFn_intro rfl rfl (by kernel_rfl) rfl ?_
  have ht := trimN_len text
  have hall : ∀ c : UInt8, c ∈ ([63, 35] : Str) → c.toNat < 128 := by decide
  repeat (dsimp +instances only [go_sem, Nat.reduceBEq, Nat.reduceAdd, Nat.reduceSub, Nat.reduceLT, Nat.reduceLeDiff]; try simp only [bb, Nat.reduceAdd, Int.reduceToNat, Int.reduceLE, Int.reduceLT, Nat.reduceLT, Nat.reduceMul, Nat.reduceLeDiff])
  try simp only [nn, reduceCtorEq]
  refine ⟨by omega, fun h => ?_, fun h => ⟨fun ho => ?_, fun ho => ?_⟩⟩
  · rw [uget_no hp h]
    simp [url0]
  · have hu := uget_op hp h (by omega)
    have hs := schA_sum _ h
    have hput := opU_put _ (schA [] (trimN text)).1.2 (by omega) (by omega : ownN (schA [] (trimN text)).1.1 < 0)
    have hz := opU_sz (schA [] (trimN text)).1.1 (schA [] (trimN text)).1.2 (by omega)
    rw [hu]
    generalize (schA [] (trimN text)).1.1 = s at *
    generalize (schA [] (trimN text)).1.2 = r at *
    have hk := atAny_le [63, 35] r
    have hk2 := atAny_le [35] (r.drop (atAny [63, 35] r))
    have l1 : (r.take (atAny [63, 35] r)).length ≤ 200 := by simp only [List.length_take]; omega
    have l2 : (r.drop (atAny [63, 35] r)).length ≤ 200 := by simp only [List.length_drop]; omega
    have l3 : ((r.drop (atAny [63, 35] r)).drop ((atAny [35] (r.drop (atAny [63, 35] r))) + 1)).length ≤ 200 := by simp only [List.length_drop] at *; omega
    have l4 : (((r.drop (atAny [63, 35] r)).take (atAny [35] (r.drop (atAny [63, 35] r)))).drop 1).length ≤ 200 := by simp only [List.length_drop, List.length_take] at *; omega
    by_cases c : (r.drop (atAny [63, 35] r)).take (atAny [35] (r.drop (atAny [63, 35] r))) = []
    · have e : opU s r = (⟨s, [], [], ⟨0, [], 0⟩, -1, [], encS (setB 5) (r.take (atAny [63, 35] r)), false, [], decide ((atAny [35] (r.drop (atAny [63, 35] r))) < (r.drop (atAny [63, 35] r)).length), encS (setB 3) ((r.drop (atAny [63, 35] r)).drop ((atAny [35] (r.drop (atAny [63, 35] r))) + 1))⟩ : Url) := by simp [opU, tlU, url0, c, encS]
      rw [e] at hz hput ⊢
      (repeat' (first | refine And.intro ?_ ?_ | intro _)) <;> try first | omega | trivial
      all_goals first
      | exact decide_eq_true (by omega)
      | exact hall _ (by assumption)
      | contradiction
    · have e : opU s r = (⟨s, [], [], ⟨0, [], 0⟩, -1, [], encS (setB 5) (r.take (atAny [63, 35] r)), true, encS (setB 2) (((r.drop (atAny [63, 35] r)).take (atAny [35] (r.drop (atAny [63, 35] r)))).drop 1), decide ((atAny [35] (r.drop (atAny [63, 35] r))) < (r.drop (atAny [63, 35] r)).length), encS (setB 3) ((r.drop (atAny [63, 35] r)).drop ((atAny [35] (r.drop (atAny [63, 35] r))) + 1))⟩ : Url) := by simp [opU, tlU, url0, c]
      have hc := List.length_pos_iff.2 c
      rw [e] at hz hput ⊢
      (repeat' (first | refine And.intro ?_ ?_ | intro _)) <;> try first | omega | trivial
      all_goals first
      | exact decide_eq_true (by omega)
      | exact hall _ (by assumption)
      | contradiction
  · have hu := uget_sp hp h (by omega)
    have hs := schA_sum _ h
    generalize (schA [] (trimN text)).1.1 = s at *
    generalize (schA [] (trimN text)).1.2 = r at *
    refine vcC_loop [2, 5, 7, 8] (fun (x : Str) => x.dropWhile slashC = r.dropWhile slashC ∧ x.length ≤ r.length) (fun x => [.ptr 0 13 0 0, .cv (.str x), .ptr 1 13 0 0, .cv (.int .i64 (ownN s))]) (fun _ => [.boxT 0 [.cv (.str []), .cv (.str []), .cv (.str []), .cv (.int .i64 0), .cv (.str []), .cv (.int .i64 0), .cv (.int .i64 0), .nil 1, .cv (.str []), .cv (.bool false), .cv (.str []), .cv (.bool false), .cv (.str [])], .boxT 0 [.cv (.str s), .cv (.str []), .cv (.str []), .cv (.int .i64 0), .cv (.str []), .cv (.int .i64 0), .cv (.int .i64 (-1)), .nil 1, .cv (.str []), .cv (.bool false), .cv (.str []), .cv (.bool false), .cv (.str [])]]) (fun x => x.length) r (by simp) ⟨rfl, rfl⟩ ?_
    rintro x ⟨hx, hl⟩
    have hd : x.dropWhile slashC = if ¬ x = [] ∧ slashC (x.getD 0 0) = true then (x.drop 1).dropWhile slashC else x := by
      cases x with
      | nil => rfl
      | cons c q => simp [List.dropWhile_cons]
    repeat (dsimp +instances only [go_sem, Nat.reduceBEq, Nat.reduceAdd, Nat.reduceSub, Nat.reduceLT, Nat.reduceLeDiff]; try simp only [bb, Nat.reduceAdd, Int.reduceToNat, Int.reduceLE, Int.reduceLT, Nat.reduceLT, Nat.reduceMul, Nat.reduceLeDiff])
    try simp only [nn, reduceCtorEq]
    refine ⟨fun h9 => by have := List.length_pos_iff.2 h9; omega, fun h9 => ?_, fun h9 => ?_⟩
    · have := List.length_pos_iff.2 h9.1
      rw [if_pos h9] at hd
      exact ⟨⟨by omega, by omega⟩, nextL_intro (x.drop 1) ⟨by rw [← hx, hd], by simp only [List.length_drop]; omega⟩ (by simp only [List.length_drop]; omega) rfl rfl⟩
    · rw [if_neg (by rintro ⟨h1, h2⟩; rcases h9 with h9 | h9 <;> simp_all)] at hd
      rw [← hx, hd] at hu
      clear hd hx h9
      have hzz := hoU_sz s x (by omega)
      have hall4 : ∀ c : UInt8, c ∈ ([47, 92, 63, 35] : Str) → c.toNat < 128 := by decide
      have hk1 := atAny_le [47, 92, 63, 35] x
      have e64 : u8 64 = 64 := rfl
      refine ⟨⟨by omega, hall4⟩, ⟨by simp only [List.length_drop]; omega, hall⟩, ?_⟩
      simp only [hoU, hoK, hoQ, hoA, whoU, tlU, e64] at hu hzz ⊢
      have hA : (x.take (atAny [47, 92, 63, 35] x)).length ≤ 200 := by simp only [List.length_take]; omega
      have hW : (x.drop (atAny [47, 92, 63, 35] x)).length ≤ 200 := by simp only [List.length_drop]; omega
      generalize x.take (atAny [47, 92, 63, 35] x) = A at *
      generalize x.drop (atAny [47, 92, 63, 35] x) = W at *
      have hB : (W.drop (atAny [63, 35] W)).length ≤ 200 := by simp only [List.length_drop]; omega
      have hM := PathPut_ge (PathGet (W.take (atAny [63, 35] W)))
      have hM2 := PathGet_put (W.take (atAny [63, 35] W))
      generalize PathGet (W.take (atAny [63, 35] W)) = P at *
      generalize W.drop (atAny [63, 35] W) = B at *
      have hk := atAny_le [35] B
      have l3 : (B.drop (atAny [35] B + 1)).length ≤ 200 := by simp only [List.length_drop]; omega
      have l4 : ((B.take (atAny [35] B)).drop 1).length ≤ 200 := by simp only [List.length_drop, List.length_take]; omega
      generalize B.drop (atAny [35] B + 1) = F at *
      have hp1 := lastF_rng 64 A 0 (-1) (by omega) (by omega)
      simp only [Int.natCast_zero, Int.zero_add] at hp1
      obtain ⟨p, hpe⟩ : ∃ p, lastF 64 0 (-1) A = p := ⟨_, rfl⟩
      simp only [hpe] at hu hzz hp1 ⊢
      clear hpe
      by_cases hp0 : 0 ≤ p
      · simp only [hp0, if_true, true_implies, not_true_eq_false, false_implies, and_true] at hu hzz ⊢
        have z1 : (A.take p.toNat).length ≤ 200 := by simp only [List.length_take]; omega
        generalize A.take p.toNat = Z at *
        have z2 : (Z.take (atAny [58] Z)).length ≤ 200 := by simp only [List.length_take]; omega
        have z3 : (Z.drop (atAny [58] Z + 1)).length ≤ 200 := by simp only [List.length_drop]; omega
        generalize Z.take (atAny [58] Z) = Z2 at *
        generalize Z.drop (atAny [58] Z + 1) = Z3 at *
        have a0 : (A.drop (p + 1).toNat).length ≤ 200 := by simp only [List.length_drop]; omega
        have a9 : R64 (p + 1) := by omega
        have a8 : 0 ≤ p + 1 ∧ p + 1 ≤ (A.length : Int) := by omega
        generalize A.drop (p + 1).toNat = A1 at *
        have a1 : (A1.drop (atAny [58] A1 + 1)).length ≤ 200 := by simp only [List.length_drop]; omega
        have a2 : (A1.take (atAny [58] A1)).length ≤ 200 := by simp only [List.length_take]; omega
        generalize HostGet (A1.take (atAny [58] A1)) = H at *
        generalize portN (A1.drop (atAny [58] A1 + 1)) (ownN s) = q at *
        by_cases c : B.take (atAny [35] B) = []
        · simp only [c, url0, encS, ne_eq, not_true_eq_false, not_false_eq_true, decide_true, decide_false, List.drop_nil, false_implies, true_implies, true_and, and_true] at hu hzz ⊢
          by_cases hq : q = -2
          · subst hq
            simp only [decide_true, Bool.not_true, Bool.and_false, Bool.false_eq_true, false_and, if_false] at hu
            rw [hu]
            (repeat' (first | refine And.intro ?_ ?_ | intro _)) <;> try first | omega | trivial
            all_goals first | omega | rfl | (exfalso; rename_i hd; simp at hd; done)
          · simp only [hq, if_false, decide_false, Bool.not_false, Bool.and_true] at hu hzz ⊢
            by_cases hc : H.2 = true ∧ P.length ≤ 12 ∧ (putU (⟨s, encS (setB 4) Z2, encS (setB 4) Z3, H.1, q, P, [], false, [], decide (atAny [35] B < B.length), encS (setB 3) F⟩ : Url)).length ≤ 600
            · rw [if_pos hc] at hu
              rw [hu]
              (repeat' (first | refine And.intro ?_ ?_ | intro _)) <;> try first | omega | trivial
              all_goals first
              | omega
              | rfl
              | (exfalso; rename_i hd; simp only [hc.1, Bool.not_true, not_false_eq_true, decide_true, Bool.false_eq_true, or_self, false_or] at hd; omega)
            · rw [if_neg hc] at hu
              rw [hu]
              (repeat' (first | refine And.intro ?_ ?_ | intro _)) <;> try first | omega | trivial
              all_goals first
              | omega
              | rfl
              | (exfalso; rename_i hd; exact absurd ⟨hd.1.1.1, by omega, by omega⟩ hc)
        · have hc0 := List.length_pos_iff.2 c
          simp only [c, url0, encS, ne_eq, not_true_eq_false, not_false_eq_true, decide_true, decide_false, List.drop_nil, false_implies, true_implies, true_and, and_true] at hu hzz ⊢
          by_cases hq : q = -2
          · subst hq
            simp only [decide_true, Bool.not_true, Bool.and_false, Bool.false_eq_true, false_and, if_false] at hu
            rw [hu]
            (repeat' (first | refine And.intro ?_ ?_ | intro _)) <;> try first | omega | trivial
            all_goals first | omega | rfl | (exfalso; rename_i hd; simp at hd; done)
          · simp only [hq, if_false, decide_false, Bool.not_false, Bool.and_true] at hu hzz ⊢
            by_cases hc : H.2 = true ∧ P.length ≤ 12 ∧ (putU (⟨s, encS (setB 4) Z2, encS (setB 4) Z3, H.1, q, P, [], true, encS (setB 2) ((B.take (atAny [35] B)).drop 1), decide (atAny [35] B < B.length), encS (setB 3) F⟩ : Url)).length ≤ 600
            · rw [if_pos hc] at hu
              rw [hu]
              (repeat' (first | refine And.intro ?_ ?_ | intro _)) <;> try first | omega | trivial
              all_goals first
              | omega
              | rfl
              | (exfalso; rename_i hd; simp only [hc.1, Bool.not_true, not_false_eq_true, decide_true, Bool.false_eq_true, or_self, false_or] at hd; omega)
            · rw [if_neg hc] at hu
              rw [hu]
              (repeat' (first | refine And.intro ?_ ?_ | intro _)) <;> try first | omega | trivial
              all_goals first
              | omega
              | rfl
              | (exfalso; rename_i hd; exact absurd ⟨hd.1.1.1, by omega, by omega⟩ hc)
      · have ep : (p + 1).toNat = 0 := by omega
        have ez : A.drop 0 = A := rfl
        simp only [ep, ez, hp0, if_false, not_false_eq_true, true_implies, false_implies, true_and] at hu hzz ⊢
        have a1 : (A.drop (atAny [58] A + 1)).length ≤ 200 := by simp only [List.length_drop]; omega
        have a2 : (A.take (atAny [58] A)).length ≤ 200 := by simp only [List.length_take]; omega
        generalize HostGet (A.take (atAny [58] A)) = H at *
        generalize portN (A.drop (atAny [58] A + 1)) (ownN s) = q at *
        by_cases c : B.take (atAny [35] B) = []
        · simp only [c, url0, encS, ne_eq, not_true_eq_false, not_false_eq_true, decide_true, decide_false, List.drop_nil, false_implies, true_implies, true_and, and_true] at hu hzz ⊢
          by_cases hq : q = -2
          · subst hq
            simp only [decide_true, Bool.not_true, Bool.and_false, Bool.false_eq_true, false_and, if_false] at hu
            rw [hu]
            (repeat' (first | refine And.intro ?_ ?_ | intro _)) <;> try first | omega | trivial
            all_goals first | omega | rfl | (exfalso; rename_i hd; simp at hd; done)
          · simp only [hq, if_false, decide_false, Bool.not_false, Bool.and_true] at hu hzz ⊢
            by_cases hc : H.2 = true ∧ P.length ≤ 12 ∧ (putU (⟨s, [], [], H.1, q, P, [], false, [], decide (atAny [35] B < B.length), encS (setB 3) F⟩ : Url)).length ≤ 600
            · rw [if_pos hc] at hu
              rw [hu]
              (repeat' (first | refine And.intro ?_ ?_ | intro _)) <;> try first | omega | trivial
              all_goals first
              | omega
              | rfl
              | (exfalso; rename_i hd; simp only [hc.1, Bool.not_true, not_false_eq_true, decide_true, Bool.false_eq_true, or_self, false_or] at hd; omega)
            · rw [if_neg hc] at hu
              rw [hu]
              (repeat' (first | refine And.intro ?_ ?_ | intro _)) <;> try first | omega | trivial
              all_goals first
              | omega
              | rfl
              | (exfalso; rename_i hd; exact absurd ⟨hd.1.1.1, by omega, by omega⟩ hc)
        · have hc0 := List.length_pos_iff.2 c
          simp only [c, url0, encS, ne_eq, not_true_eq_false, not_false_eq_true, decide_true, decide_false, List.drop_nil, false_implies, true_implies, true_and, and_true] at hu hzz ⊢
          by_cases hq : q = -2
          · subst hq
            simp only [decide_true, Bool.not_true, Bool.and_false, Bool.false_eq_true, false_and, if_false] at hu
            rw [hu]
            (repeat' (first | refine And.intro ?_ ?_ | intro _)) <;> try first | omega | trivial
            all_goals first | omega | rfl | (exfalso; rename_i hd; simp at hd; done)
          · simp only [hq, if_false, decide_false, Bool.not_false, Bool.and_true] at hu hzz ⊢
            by_cases hc : H.2 = true ∧ P.length ≤ 12 ∧ (putU (⟨s, [], [], H.1, q, P, [], true, encS (setB 2) ((B.take (atAny [35] B)).drop 1), decide (atAny [35] B < B.length), encS (setB 3) F⟩ : Url)).length ≤ 600
            · rw [if_pos hc] at hu
              rw [hu]
              (repeat' (first | refine And.intro ?_ ?_ | intro _)) <;> try first | omega | trivial
              all_goals first
              | omega
              | rfl
              | (exfalso; rename_i hd; simp only [hc.1, Bool.not_true, not_false_eq_true, decide_true, Bool.false_eq_true, or_self, false_or] at hd; omega)
            · rw [if_neg hc] at hu
              rw [hu]
              (repeat' (first | refine And.intro ?_ ?_ | intro _)) <;> try first | omega | trivial
              all_goals first
              | omega
              | rfl
              | (exfalso; rename_i hd; exact absurd ⟨hd.1.1.1, by omega, by omega⟩ hc)
end Go.Gx
end
section
namespace Go.Gx
open Go.Proofs
def E154 : Env := { T := Tz.tab, G := Gl, C := [(192, ct192)], live := [(0, [0, 2]), (1, [0, 2, 6]), (2, [2, 3]), (3, [2, 3])] }
def ct154 : Ct := .im (dom1 tStr (fun text => True)) (fn1 tStr fun text => [tUrl.enc (UrlGet text).1, tBool.enc (UrlGet text).2])
attribute [go_sem] E154 ct154 Go.Proofs.Tryz.f154
theorem ok154 : CtOk Tryz.prog Gl 154 ct154 := okI1 (E := E154) (sound_of Tz.tab_ok Tz.mixed (AllOk.cons ok192 AllOk.nil)) rfl Tryz.func154 (by kernel_rfl) fun text ftext hp => by
  have ftext := fit_str ftext
  refine vcFn_intro rfl rfl (by kernel_rfl) rfl ?_
  repeat (dsimp +instances only [go_sem, Nat.reduceBEq, Nat.reduceAdd, Nat.reduceSub, Nat.reduceLT, Nat.reduceLeDiff]; try simp only [bb, Nat.reduceAdd, Int.reduceToNat, Int.reduceLE, Int.reduceLT, Nat.reduceLT, Nat.reduceMul, Nat.reduceLeDiff])
  repeat (dsimp +instances only [callIm_mk, killR, killA, killC, kill1, List.set_cons_zero, List.set_cons_succ]; repeat (dsimp +instances only [go_sem, Nat.reduceBEq, Nat.reduceAdd, Nat.reduceSub, Nat.reduceLT, Nat.reduceLeDiff]; try simp only [bb, Nat.reduceAdd, Int.reduceToNat, Int.reduceLE, Int.reduceLT, Nat.reduceLT, Nat.reduceMul, Nat.reduceLeDiff]))
  try simp only [nn, reduceCtorEq]
  have hz : 200 < text.length → UrlGet text = (url0, false) := fun h => by unfold UrlGet; rw [if_pos h]
  refine ⟨fun h => ?_, fun h => by omega⟩
  rw [hz (by omega)]
  simp [url0]
def E117 : Env := { T := Tz.tab, G := Gl, C := [(78, ct78), (154, ct154), (155, ct155)], live := [(0, [1]), (1, [1, 3, 4]), (2, [2])] }
def ct117 : Ct := .scal (dom1 tUrl (fun u => urlSz u ≤ 16777216)) (fn1 tUrl fun u => [tBool.enc (urlOk u)])
attribute [go_sem] E117 ct117 Go.Proofs.Tryz.f117
theorem ok117 : CtOk Tryz.prog Gl 117 ct117 := okA1 (E := E117) (sound_of Tz.tab_ok Tz.mixed (AllOk.cons ok78 (AllOk.cons ok154 (AllOk.cons ok155 AllOk.nil)))) rfl Tryz.func117 (by kernel_rfl) fun u fu hp => by
  have gu := fu
  have fu := fit_url fu
  refine vcFn_intro rfl rfl (by kernel_rfl) rfl ?_
  repeat (dsimp +instances only [go_sem, Nat.reduceBEq, Nat.reduceAdd, Nat.reduceSub, Nat.reduceLT, Nat.reduceLeDiff]; try simp only [bb, Nat.reduceAdd, Int.reduceToNat, Int.reduceLE, Int.reduceLT, Nat.reduceLT, Nat.reduceMul, Nat.reduceLeDiff])
  repeat (dsimp +instances only [callIm_mk, killR, killA, killC, kill1, List.set_cons_zero, List.set_cons_succ]; repeat (dsimp +instances only [go_sem, Nat.reduceBEq, Nat.reduceAdd, Nat.reduceSub, Nat.reduceLT, Nat.reduceLeDiff]; try simp only [bb, Nat.reduceAdd, Int.reduceToNat, Int.reduceLE, Int.reduceLT, Nat.reduceLT, Nat.reduceMul, Nat.reduceLeDiff]))
  try simp only [nn, reduceCtorEq]
  exact ⟨hp, rfl⟩
end Go.Gx
end
section
namespace Go.Gx
open Go.Proofs
def fI {α : Type} (p : α → Bool) (l : List α) : Int := if l.findIdx p < l.length then (l.findIdx p : Int) else -1
theorem fI_go {α : Type} (p : α → Bool) (l : List α) (i : Nat) (hlt : i < l.length) (hi : i + (l.drop i).findIdx p = l.findIdx p) : (p l[i] = true → fI p l = i) ∧ (p l[i] = false → i + 1 + (l.drop (i + 1)).findIdx p = l.findIdx p) := by
  rw [List.drop_eq_getElem_cons hlt, List.findIdx_cons] at hi
  refine ⟨fun h => ?_, fun h => ?_⟩
  · rw [h, cond_true] at hi
    unfold fI; rw [if_pos (by omega)]; omega
  · rw [h, cond_false] at hi; omega
theorem fI_end {α : Type} (p : α → Bool) (l : List α) (hi : l.length + (l.drop l.length).findIdx p = l.findIdx p) : fI p l = -1 := by
  unfold fI; rw [if_neg (by omega)]
def E157 : Env := { T := Tz.tab, G := Gl, C := [], live := [(0, [1, 2]), (1, [3])] }
def ct157 : Ct := inlK E157 Go.Proofs.Tryz.f157 #[ResultVar.tmp 3] 2
attribute [go_sem] E157 ct157 Go.Proofs.Tryz.f157
theorem ok157 : CtOk Tryz.prog Gl 157 ct157 := inl_ok (E := E157) (sound_of Tz.tab_ok Tz.mixed AllOk.nil) Tryz.func157 (by kernel_rfl) rfl rfl rfl (fun pin => by kernel_rfl)
def E156 : Env := { T := Tz.tab, G := Gl, C := [(157, ct157)], live := [(0, [0, 1]), (1, [0, 1, 7, 8]), (2, [0, 1, 7, 8, 9]), (3, [0, 1, 5, 7, 8]), (4, [0, 1, 5, 7, 8, 16]), (5, [4]), (6, [0, 1, 7, 8]), (7, [4])] }
def ct156 : Ct := inlK E156 Go.Proofs.Tryz.f156 #[ResultVar.tmp 4] 2
attribute [go_sem] E156 ct156 Go.Proofs.Tryz.f156
theorem ok156 : CtOk Tryz.prog Gl 156 ct156 := inl_ok (E := E156) (sound_of Tz.tab_ok Tz.mixed (AllOk.cons ok157 AllOk.nil)) Tryz.func156 (by kernel_rfl) rfl rfl rfl (fun pin => by kernel_rfl)
def E118 : Env := { T := Tz.tab, G := Gl, C := [(156, ct156)], live := [(0, [0, 3]), (1, [4])] }
def ct118 : Ct := .scal (dom2 tEntryS tInt (fun l k => True)) (fn2 tEntryS tInt fun l k => [tInt.enc (fI (fun e => decide (e.Key = k)) l)])
attribute [go_sem] E118 ct118 Go.Proofs.Tryz.f118
theorem ok118 : CtOk Tryz.prog Gl 118 ct118 := okA2 (E := E118) (sound_of Tz.tab_ok Tz.mixed (AllOk.cons ok156 AllOk.nil)) rfl Tryz.func118 (by kernel_rfl) fun l k fl fk hp => by
  have gl := fl
  have fl := fit_list fl
  have fk := fit_int fk
  refine vcFn_intro rfl rfl (by kernel_rfl) rfl ?_
  repeat (dsimp +instances only [go_sem, Nat.reduceBEq, Nat.reduceAdd, Nat.reduceSub, Nat.reduceLT, Nat.reduceLeDiff]; try simp only [bb, Nat.reduceAdd, Int.reduceToNat, Int.reduceLE, Int.reduceLT, Nat.reduceLT, Nat.reduceMul, Nat.reduceLeDiff])
  refine vcC_loop [0, 1, 7, 8] (fun (i : Nat) => i ≤ l.length ∧ i + (l.drop i).findIdx (fun e => decide (e.Key = k)) = l.findIdx (fun e => decide (e.Key = k))) (fun i => [.cv (.sl 17 (l.map rEntry.enc)), .fn 157 [.ptr 0 1 0 0], .cv (.int .i64 l.length), .cv (.int .i64 i)]) (fun _ => [.boxT 0 [.cv (.int .i64 k)]]) (fun i => l.length - i) 0 (by simp) ⟨rfl, rfl⟩ ?_
  rintro i ⟨hi, he⟩
  rcases Nat.lt_or_ge i l.length with hlt | hge
  · have hg := getD_at rEntry hlt
    have hgo := fI_go _ l i hlt he
    try dsimp +instances only [go_sem, Nat.reduceBEq, Nat.reduceAdd, Nat.reduceSub, Nat.reduceLT, Nat.reduceLeDiff]
    repeat (simp only [hg, rEntry_enc, Int.toNat_natCast, bb, Nat.reduceAdd, Int.reduceToNat, Int.reduceLE, Int.reduceLT, Nat.reduceLT, Nat.reduceMul, Nat.reduceLeDiff]; try dsimp +instances only [go_sem, Nat.reduceBEq, Nat.reduceAdd, Nat.reduceSub, Nat.reduceLT, Nat.reduceLeDiff])
    try simp only [nn, reduceCtorEq, hlt, decide_true]
    exact ⟨fun h => (hgo.1 (by simpa using h)).symm, fun h => ⟨by omega, nextL_intro (i + 1) ⟨by omega, hgo.2 (by simpa using h)⟩ (by omega) rfl rfl⟩⟩
  · have : i = l.length := by omega
    subst this
    have := fI_end _ l he
    repeat (dsimp +instances only [go_sem, Nat.reduceBEq, Nat.reduceAdd, Nat.reduceSub, Nat.reduceLT, Nat.reduceLeDiff]; try simp only [bb, Nat.reduceAdd, Int.reduceToNat, Int.reduceLE, Int.reduceLT, Nat.reduceLT, Nat.reduceMul, Nat.reduceLeDiff])
    try simp only [nn, reduceCtorEq, Nat.lt_irrefl]
    exact fun _ => this.symm
def entOk (e : Entry) : Bool := decide (0 ≤ e.Step ∧ e.Step ≤ 60) && urlOk e.Url && decide (0 ≤ e.Doc ∧ e.Doc ≤ 9999) && decide (0 ≤ e.Key ∧ e.Key ≤ 9999) && decide (e.State.length ≤ 20)
def histGo (seen : List Int) (last : Int) : List Entry → Bool
  | [] => true
  | e :: r => decide (last < e.Step) && entOk e && !decide (e.Key ∈ seen) && histGo (seen ++ [e.Key]) e.Step r
def histOk (l : List Entry) : Bool := histGo [] (-1) l && decide (l.length ≤ 20)
def smallH (l : List Entry) : Prop := ∀ e ∈ l, urlSz e.Url ≤ 16777216
theorem keyAt_seen (l : List Entry) (i : Nat) (hlt : i < l.length) : fI (fun e => decide (e.Key = l[i].Key)) l = i ↔ ¬ l[i].Key ∈ (l.take i).map (·.Key) := by
  have h0 : l.findIdx (fun e => decide (e.Key = l[i].Key)) < l.length := List.findIdx_lt_length_of_exists ⟨l[i], List.getElem_mem hlt, by simp⟩
  unfold fI; rw [if_pos h0]
  have h1 : ((l.findIdx (fun e => decide (e.Key = l[i].Key)) : Int) = i) ↔ l.findIdx (fun e => decide (e.Key = l[i].Key)) = i := by omega
  rw [h1, List.findIdx_eq hlt]
  simp only [decide_true, true_and, List.mem_map, decide_eq_false_iff_not]
  constructor
  · rintro h ⟨e, he, hk⟩
    obtain ⟨j, hj, hje⟩ := List.mem_take_iff_getElem.1 he
    exact h j (by omega) (by rw [hje, hk])
  · intro h j hj hk
    exact h ⟨l[j], List.mem_take_iff_getElem.2 ⟨j, by omega, rfl⟩, hk⟩
theorem take_keys (l : List Entry) (i : Nat) (hlt : i < l.length) : (l.take (i + 1)).map (·.Key) = (l.take i).map (·.Key) ++ [l[i].Key] := by
  rw [take_snoc hlt, List.map_append]; rfl
def E71 : Env := { T := Tz.tab, G := Gl, C := [(49, ct49), (117, ct117), (118, ct118)], live := [(0, [0]), (1, [0, 3]), (2, [0, 3, 6, 7, 8]), (3, [0, 3, 6, 7, 8, 9]), (4, [0, 3, 4, 5, 6, 7, 8]), (5, [0, 5, 6, 7, 8, 50]), (6, [2]), (7, [0, 3, 6, 7, 8]), (8, [0, 3, 6, 7, 8]), (9, [2])] }
def ct71 : Ct := .scal (dom1 tEntryS (fun l => smallH l)) (fn1 tEntryS fun l => [tBool.enc (histOk l)])
attribute [go_sem] E71 ct71 Go.Proofs.Tryz.f71
set_option maxHeartbeats 8000000 in
theorem ok71 : CtOk Tryz.prog Gl 71 ct71 := okA1 (E := E71) (sound_of Tz.tab_ok Tz.mixed (AllOk.cons ok49 (AllOk.cons ok117 (AllOk.cons ok118 AllOk.nil)))) rfl Tryz.func71 (by kernel_rfl) fun l fl hp => by
  have gl := fl
  have fl := fit_list fl
  refine vcFn_intro rfl rfl (by kernel_rfl) rfl ?_
  repeat (dsimp +instances only [go_sem, Nat.reduceBEq, Nat.reduceAdd, Nat.reduceSub, Nat.reduceLT, Nat.reduceLeDiff]; try simp only [bb, Nat.reduceAdd, Int.reduceToNat, Int.reduceLE, Int.reduceLT, Nat.reduceLT, Nat.reduceMul, Nat.reduceLeDiff])
  refine vcC_loop [0, 3, 6, 7, 8] (fun (x : Nat × Int) => x.1 ≤ l.length ∧ -1 ≤ x.2 ∧ x.2 ≤ 60 ∧ histGo ((l.take x.1).map (·.Key)) x.2 (l.drop x.1) = histGo [] (-1) l) (fun x => [.cv (.sl 17 (l.map rEntry.enc)), .cv (.int .i64 x.2), .cv (.sl 17 (l.map rEntry.enc)), .cv (.int .i64 l.length), .cv (.int .i64 x.1)]) (fun _ => []) (fun x => l.length - x.1) (0, -1) (by simp) ⟨rfl, rfl⟩ ?_
  rintro ⟨i, q⟩ ⟨hi, hq, hq2, he⟩
  simp only at hi hq hq2 he
  rcases Nat.lt_or_ge i l.length with hlt | hge
  · have hg := getD_at rEntry hlt
    have hu := hp l[i] (List.getElem_mem hlt)
    have hks := keyAt_seen l i hlt
    rw [List.drop_eq_getElem_cons hlt, histGo, ← take_keys l i hlt] at he
    try dsimp +instances only [go_sem, Nat.reduceBEq, Nat.reduceAdd, Nat.reduceSub, Nat.reduceLT, Nat.reduceLeDiff]
    repeat (simp only [hg, rEntry_enc, Int.toNat_natCast, bb, Nat.reduceAdd, Int.reduceToNat, Int.reduceLE, Int.reduceLT, Nat.reduceLT, Nat.reduceMul, Nat.reduceLeDiff]; try dsimp +instances only [go_sem, Nat.reduceBEq, Nat.reduceAdd, Nat.reduceSub, Nat.reduceLT, Nat.reduceLeDiff])
    try simp only [nn, reduceCtorEq, hlt, decide_true]
    generalize l[i] = e at *
    have hho : histOk l = (histGo [] (-1) l && decide (l.length ≤ 20)) := rfl
    have hee : entOk e = (decide (0 ≤ e.Step ∧ e.Step ≤ 60) && urlOk e.Url && decide (0 ≤ e.Doc ∧ e.Doc ≤ 9999) && decide (0 ≤ e.Key ∧ e.Key ≤ 9999) && decide (e.State.length ≤ 20)) := rfl
    generalize fI (fun e_1 => decide (e_1.Key = e.Key)) l = z at *
    refine ⟨by omega, fun _ => hu, fun h => ?_, fun h => ?_⟩
    · rw [hho, ← he, hee]
      have : (decide (q < e.Step) && (decide (0 ≤ e.Step ∧ e.Step ≤ 60) && urlOk e.Url && decide (0 ≤ e.Doc ∧ e.Doc ≤ 9999) && decide (0 ≤ e.Key ∧ e.Key ≤ 9999) && decide (e.State.length ≤ 20)) && !decide (e.Key ∈ (l.take i).map (fun x => x.Key))) = false := by
        grind
      rw [this]; rfl
    · refine ⟨by omega, nextL_intro (i + 1, e.Step) ⟨by simp only; omega, by simp only; omega, by simp only; omega, ?_⟩ (by simp only; omega) rfl rfl⟩
      have : (decide (q < e.Step) && entOk e && !decide (e.Key ∈ (l.take i).map (fun x => x.Key))) = true := by
        rw [hee]; grind
      rw [this, Bool.true_and] at he
      exact he
  · have : i = l.length := by omega
    subst this
    rw [List.drop_length, histGo] at he
    repeat (dsimp +instances only [go_sem, Nat.reduceBEq, Nat.reduceAdd, Nat.reduceSub, Nat.reduceLT, Nat.reduceLeDiff]; try simp only [bb, Nat.reduceAdd, Int.reduceToNat, Int.reduceLE, Int.reduceLT, Nat.reduceLT, Nat.reduceMul, Nat.reduceLeDiff])
    try simp only [nn, reduceCtorEq, Nat.lt_irrefl]
    intro _
    have hho : histOk l = (histGo [] (-1) l && decide (l.length ≤ 20)) := rfl
    rw [hho, ← he, Bool.true_and]
    exact decide_eq_decide.2 (by omega)
end Go.Gx
end
section
namespace Go.Gx
open Go.Proofs
theorem fI_any {α : Type} (p : α → Bool) (l : List α) : 0 ≤ fI p l ↔ l.any p = true := by
  unfold fI
  by_cases h : l.findIdx p < l.length
  · rw [if_pos h]
    simp only [Int.natCast_nonneg, true_iff]
    obtain ⟨x, hx, hp⟩ := List.findIdx_lt_length.1 h
    exact List.any_eq_true.2 ⟨x, hx, hp⟩
  · rw [if_neg h]
    constructor
    · intro h'; omega
    · intro h'
      obtain ⟨x, hx, hp⟩ := List.any_eq_true.1 h'
      exact absurd (List.findIdx_lt_length.2 ⟨x, hx, hp⟩) h
def hasDoc (doc : Int) (f : Frame) : Bool := f.Hist.any (fun e => decide (e.Doc = doc))
def ownerF (w : Window) (doc : Int) : Int := fI (hasDoc doc) w.Frames
def E72 : Env := { T := Tz.tab, G := Gl, C := [], live := [(0, [0]), (1, [0, 5, 6]), (2, [0, 5, 6, 7]), (3, [0, 3, 5, 6]), (4, [0, 5, 6, 18]), (5, [2]), (6, [0, 5, 6]), (7, [2])] }
def ct72 : Ct := .scal (dom1 tStr (fun s => True)) (fn1 tStr fun s => [tBool.enc (decide (s.length ≤ 8 ∧ ∀ c ∈ s, 97 ≤ c.toNat ∧ c.toNat ≤ 122))])
attribute [go_sem] E72 ct72 Go.Proofs.Tryz.f72
theorem ok72 : CtOk Tryz.prog Gl 72 ct72 := okA1 (E := E72) (sound_of Tz.tab_ok Tz.mixed AllOk.nil) rfl Tryz.func72 (by kernel_rfl) fun s fs hp => by
  have fs := fit_str fs
  refine vcFn_intro rfl rfl (by kernel_rfl) rfl ?_
  repeat (dsimp +instances only [go_sem, Nat.reduceBEq, Nat.reduceAdd, Nat.reduceSub, Nat.reduceLT, Nat.reduceLeDiff]; try simp only [bb, Nat.reduceAdd, Int.reduceToNat, Int.reduceLE, Int.reduceLT, Nat.reduceLT, Nat.reduceMul, Nat.reduceLeDiff])
  refine vcC_loop [0, 5, 6] (fun (i : Nat) => i ≤ s.length ∧ ∀ c ∈ s.take i, 97 ≤ c.toNat ∧ c.toNat ≤ 122) (fun i => [.cv (.str s), .cv (.int .i64 s.length), .cv (.int .i64 i)]) (fun _ => []) (fun i => s.length - i) 0 (by simp) ⟨rfl, rfl⟩ ?_
  rintro i ⟨hi, he⟩
  rcases Nat.lt_or_ge i s.length with hlt | hge
  · repeat (dsimp +instances only [go_sem, Nat.reduceBEq, Nat.reduceAdd, Nat.reduceSub, Nat.reduceLT, Nat.reduceLeDiff]; try simp only [bb, Nat.reduceAdd, Int.reduceToNat, Int.reduceLE, Int.reduceLT, Nat.reduceLT, Nat.reduceMul, Nat.reduceLeDiff])
    try simp only [nn, reduceCtorEq, hlt, decide_true]
    refine ⟨fun _ => trivial, fun h => ?_, fun h => ⟨by omega, nextL_intro (i + 1) ⟨by omega, fun c hc => ?_⟩ (by omega) rfl rfl⟩⟩
    · rw [eq_comm, decide_eq_false_iff_not]
      rintro ⟨_, h2⟩
      have := h2 s[i] (List.getElem_mem hlt)
      omega
    · rw [take_snoc hlt, List.mem_append, List.mem_singleton] at hc
      rcases hc with hc | rfl
      · exact he c hc
      · omega
  · have : i = s.length := by omega
    subst this
    rw [List.take_length] at he
    repeat (dsimp +instances only [go_sem, Nat.reduceBEq, Nat.reduceAdd, Nat.reduceSub, Nat.reduceLT, Nat.reduceLeDiff]; try simp only [bb, Nat.reduceAdd, Int.reduceToNat, Int.reduceLE, Int.reduceLT, Nat.reduceLT, Nat.reduceMul, Nat.reduceLeDiff])
    try simp only [nn, reduceCtorEq, Nat.lt_irrefl]
    exact fun _ => decide_eq_decide.2 ⟨fun h => ⟨by omega, he⟩, fun h => by omega⟩
def E122 : Env := { T := Tz.tab, G := Gl, C := [], live := [(0, [1, 2]), (1, [3])] }
def ct122 : Ct := inlK E122 Go.Proofs.Tryz.f122 #[ResultVar.tmp 3] 2
attribute [go_sem] E122 ct122 Go.Proofs.Tryz.f122
theorem ok122 : CtOk Tryz.prog Gl 122 ct122 := inl_ok (E := E122) (sound_of Tz.tab_ok Tz.mixed AllOk.nil) Tryz.func122 (by kernel_rfl) rfl rfl rfl (fun pin => by kernel_rfl)
def E156io : Env := { T := Tz.tab, G := Gl, C := [(122, ct122)], live := [(0, [0, 1]), (1, [0, 1, 7, 8]), (2, [0, 1, 7, 8, 9]), (3, [0, 1, 5, 7, 8]), (4, [0, 1, 5, 7, 8, 16]), (5, [4]), (6, [0, 1, 7, 8]), (7, [4])] }
def ct156io : Ct := inlK E156io Go.Proofs.Tryz.f156 #[ResultVar.tmp 4] 2
attribute [go_sem] E156io ct156io Go.Proofs.Tryz.f156
theorem ok156io : CtOk Tryz.prog Gl 156 ct156io := inl_ok (E := E156io) (sound_of Tz.tab_ok Tz.mixed (AllOk.cons ok122 AllOk.nil)) Tryz.func156 (by kernel_rfl) rfl rfl rfl (fun pin => by kernel_rfl)
def E121 : Env := { T := Tz.tab, G := Gl, C := [(156, ct156io)], live := [(0, [0, 1]), (1, [4])] }
def ct121 : Ct := inlK E121 Go.Proofs.Tryz.f121 #[ResultVar.tmp 4] 2
attribute [go_sem] E121 ct121 Go.Proofs.Tryz.f121
theorem ok121 : CtOk Tryz.prog Gl 121 ct121 := inl_ok (E := E121) (sound_of Tz.tab_ok Tz.mixed (AllOk.cons ok156io AllOk.nil)) Tryz.func121 (by kernel_rfl) rfl rfl rfl (fun pin => by kernel_rfl)
def E120 : Env := { T := Tz.tab, G := Gl, C := [(121, ct121)], live := [(0, [1, 2]), (1, [3])] }
def ct120 : Ct := inlK E120 Go.Proofs.Tryz.f120 #[ResultVar.tmp 3] 2
attribute [go_sem] E120 ct120 Go.Proofs.Tryz.f120
theorem ok120 : CtOk Tryz.prog Gl 120 ct120 := inl_ok (E := E120) (sound_of Tz.tab_ok Tz.mixed (AllOk.cons ok121 AllOk.nil)) Tryz.func120 (by kernel_rfl) rfl rfl rfl (fun pin => by kernel_rfl)
def E119 : Env := { T := Tz.tab, G := Gl, C := [(120, ct120)], live := [(0, [0, 1]), (1, [0, 1, 7, 8]), (2, [0, 1, 7, 8, 9]), (3, [0, 1, 5, 7, 8]), (4, [0, 1, 5, 7, 8, 16]), (5, [4]), (6, [0, 1, 7, 8]), (7, [4])] }
def ct119 : Ct := inlK E119 Go.Proofs.Tryz.f119 #[ResultVar.tmp 4] 2
attribute [go_sem] E119 ct119 Go.Proofs.Tryz.f119
theorem ok119 : CtOk Tryz.prog Gl 119 ct119 := inl_ok (E := E119) (sound_of Tz.tab_ok Tz.mixed (AllOk.cons ok120 AllOk.nil)) Tryz.func119 (by kernel_rfl) rfl rfl rfl (fun pin => by kernel_rfl)
def E73 : Env := { T := Tz.tab, G := Gl, C := [(119, ct119)], live := [(0, [2, 3]), (1, [4])] }
def ct73 : Ct := .scal (dom2 tWindow tInt (fun w doc => True)) (fn2 tWindow tInt fun w doc => [tInt.enc (ownerF w doc)])
attribute [go_sem] E73 ct73 Go.Proofs.Tryz.f73
set_option maxHeartbeats 2000000 in
theorem ok73 : CtOk Tryz.prog Gl 73 ct73 := okA2 (E := E73) (sound_of Tz.tab_ok Tz.mixed (AllOk.cons ok119 AllOk.nil)) rfl Tryz.func73 (by kernel_rfl) fun w doc fw fdoc hp => by
  have gw := fw
  have fw := fit_window fw
  have fdoc := fit_int fdoc
  refine vcFn_intro rfl rfl (by kernel_rfl) rfl ?_
  have fH : ∀ f ∈ w.Frames, Fit f.Hist.length := fun f hf => (FrameFit_el (WindowFit.Frames (fit_window gw)).2 hf).Hist.1
  have fF := (WindowFit.Frames (fit_window gw)).1
  repeat (dsimp +instances only [go_sem, Nat.reduceBEq, Nat.reduceAdd, Nat.reduceSub, Nat.reduceLT, Nat.reduceLeDiff]; try simp only [bb, Nat.reduceAdd, Int.reduceToNat, Int.reduceLE, Int.reduceLT, Nat.reduceLT, Nat.reduceMul, Nat.reduceLeDiff])
  refine vcC_loop [0, 1, 7, 8] (fun (i : Nat) => i ≤ w.Frames.length ∧ i + (w.Frames.drop i).findIdx (hasDoc doc) = w.Frames.findIdx (hasDoc doc)) (fun i => [.cv (.sl 4 (w.Frames.map rFrame.enc)), .fn 120 [.ptr 1 1 0 0], .cv (.int .i64 w.Frames.length), .cv (.int .i64 i)]) (fun _ => [.boxT 0 [.cv (.sl 4 (w.Frames.map rFrame.enc)), .cv (.int .i64 w.Step), .cv (.int .i64 w.NextDoc), .cv (.int .i64 w.NextKey)], .boxT 0 [.cv (.int .i64 doc)]]) (fun i => w.Frames.length - i) 0 (by simp) ⟨rfl, rfl⟩ ?_
  rintro i ⟨hi, he⟩
  rcases Nat.lt_or_ge i w.Frames.length with hlt | hge
  · have hg := getD_at rFrame hlt
    have hgo := fI_go _ w.Frames i hlt he
    have hfit := fH _ (List.getElem_mem hlt)
    have hd : hasDoc doc w.Frames[i] = w.Frames[i].Hist.any (fun e => decide (e.Doc = doc)) := rfl
    generalize hf : w.Frames[i] = f at *
    try dsimp +instances only [go_sem, Nat.reduceBEq, Nat.reduceAdd, Nat.reduceSub, Nat.reduceLT, Nat.reduceLeDiff]
    repeat (simp only [hg, rFrame_enc, Int.toNat_natCast, bb, Nat.reduceAdd, Int.reduceToNat, Int.reduceLE, Int.reduceLT, Nat.reduceLT, Nat.reduceMul, Nat.reduceLeDiff]; try dsimp +instances only [go_sem, Nat.reduceBEq, Nat.reduceAdd, Nat.reduceSub, Nat.reduceLT, Nat.reduceLeDiff])
    try simp only [nn, reduceCtorEq, hlt, decide_true]
    refine vcC_loop [0, 1, 7, 8] (fun (j : Nat) => j ≤ f.Hist.length ∧ j + (f.Hist.drop j).findIdx (fun e => decide (e.Doc = doc)) = f.Hist.findIdx (fun e => decide (e.Doc = doc))) (fun j => [.cv (.sl 17 (f.Hist.map rEntry.enc)), .fn 122 [.ptr 1 1 0 0], .cv (.int .i64 f.Hist.length), .cv (.int .i64 j)]) (fun _ => [.boxT 0 [.cv (.sl 4 (w.Frames.map rFrame.enc)), .cv (.int .i64 w.Step), .cv (.int .i64 w.NextDoc), .cv (.int .i64 w.NextKey)], .boxT 0 [.cv (.int .i64 doc)], .boxT 0 [.cv (.int .i64 f.Within), .cv (.str f.Name), .cv (.sl 17 (f.Hist.map rEntry.enc)), .cv (.bool f.Asks)]]) (fun j => f.Hist.length - j) 0 (by simp) ⟨rfl, rfl⟩ ?_
    rintro j ⟨hj, hje⟩
    rcases Nat.lt_or_ge j f.Hist.length with hjlt | hjge
    · have hg2 := getD_at rEntry hjlt
      have hgo2 := fI_go _ f.Hist j hjlt hje
      try dsimp +instances only [go_sem, Nat.reduceBEq, Nat.reduceAdd, Nat.reduceSub, Nat.reduceLT, Nat.reduceLeDiff]
      repeat (simp only [hg2, rEntry_enc, Int.toNat_natCast, bb, Nat.reduceAdd, Int.reduceToNat, Int.reduceLE, Int.reduceLT, Nat.reduceLT, Nat.reduceMul, Nat.reduceLeDiff]; try dsimp +instances only [go_sem, Nat.reduceBEq, Nat.reduceAdd, Nat.reduceSub, Nat.reduceLT, Nat.reduceLeDiff])
      try simp only [nn, reduceCtorEq, hjlt, decide_true]
      refine ⟨fun h => ?_, fun h => ⟨by omega, nextL_intro (j + 1) ⟨by omega, hgo2.2 (by simpa using h)⟩ (by omega) rfl rfl⟩⟩
      have hyes : hasDoc doc f = true := by
        rw [hd]
        exact List.any_eq_true.2 ⟨f.Hist[j], List.getElem_mem hjlt, by simpa using h⟩
      exact (hgo.1 hyes).symm
    · have : j = f.Hist.length := by omega
      subst this
      have he2 := fI_end _ f.Hist hje
      repeat (dsimp +instances only [go_sem, Nat.reduceBEq, Nat.reduceAdd, Nat.reduceSub, Nat.reduceLT, Nat.reduceLeDiff]; try simp only [bb, Nat.reduceAdd, Int.reduceToNat, Int.reduceLE, Int.reduceLT, Nat.reduceLT, Nat.reduceMul, Nat.reduceLeDiff])
      try simp only [nn, reduceCtorEq, Nat.lt_irrefl]
      have hno : hasDoc doc f = false := by
        rw [hd]
        cases hany : f.Hist.any (fun e => decide (e.Doc = doc)) with
        | false => rfl
        | true => have := (fI_any _ _).2 hany; omega
      exact fun _ _ => ⟨by omega, nextL_intro (i + 1) ⟨by omega, hgo.2 hno⟩ (by omega) rfl rfl⟩
  · have : i = w.Frames.length := by omega
    subst this
    have := fI_end _ w.Frames he
    repeat (dsimp +instances only [go_sem, Nat.reduceBEq, Nat.reduceAdd, Nat.reduceSub, Nat.reduceLT, Nat.reduceLeDiff]; try simp only [bb, Nat.reduceAdd, Int.reduceToNat, Int.reduceLE, Int.reduceLT, Nat.reduceLT, Nat.reduceMul, Nat.reduceLeDiff])
    try simp only [nn, reduceCtorEq, Nat.lt_irrefl]
    exact fun _ => this.symm
theorem fI_lt {α : Type} (p : α → Bool) (l : List α) : fI p l < l.length ∧ -1 ≤ fI p l := by
  unfold fI; split <;> omega
def depthGo (w : Window) : Nat → Int → Int → Int × Int
  | 0, f, n => (f, n)
  | k + 1, f, n => if 0 < f ∧ n ≤ 8 then depthGo w k (ownerF w (w.Frames.getD f.toNat default).Within) (n + 1) else (f, n)
def depthF (w : Window) (f : Int) : Int := if (depthGo w 8 f 1).1 = 0 then (depthGo w 8 f 1).2 else 9
def E74 : Env := { T := Tz.tab, G := Gl, C := [(73, ct73)], live := [(0, [1, 2]), (1, [1, 2, 5]), (2, [1, 2, 5, 11]), (3, [1, 2, 5]), (4, [1, 2, 5]), (5, [5, 23]), (6, [4]), (7, [4])] }
def ct74 : Ct := .scal (dom2 tWindow tInt (fun w f => f < w.Frames.length)) (fn2 tWindow tInt fun w f => [tInt.enc (depthF w f)])
attribute [go_sem] E74 ct74 Go.Proofs.Tryz.f74
set_option maxHeartbeats 1000000 in
theorem ok74 : CtOk Tryz.prog Gl 74 ct74 := okA2 (E := E74) (sound_of Tz.tab_ok Tz.mixed (AllOk.cons ok73 AllOk.nil)) rfl Tryz.func74 (by kernel_rfl) fun w f fw ff hp => by
  have gw := fw
  have fw := fit_window fw
  have ff := fit_int ff
  refine vcFn_intro rfl rfl (by kernel_rfl) rfl ?_
  have fF := (WindowFit.Frames (fit_window gw)).1
  repeat (dsimp +instances only [go_sem, Nat.reduceBEq, Nat.reduceAdd, Nat.reduceSub, Nat.reduceLT, Nat.reduceLeDiff]; try simp only [bb, Nat.reduceAdd, Int.reduceToNat, Int.reduceLE, Int.reduceLT, Nat.reduceLT, Nat.reduceMul, Nat.reduceLeDiff])
  refine vcC_loop [1, 2, 5] (fun (x : Nat × Int × Int) => x.1 ≤ 8 ∧ x.2.2 = 9 - (x.1 : Int) ∧ x.2.1 < w.Frames.length ∧ -9223372036854775808 ≤ x.2.1 ∧ depthGo w x.1 x.2.1 x.2.2 = depthGo w 8 f 1) (fun x => [.cv (.int .i64 x.2.1), .ptr 0 4 0 0, .cv (.int .i64 x.2.2)]) (fun _ => [.boxT 0 [.cv (.sl 4 (w.Frames.map rFrame.enc)), .cv (.int .i64 w.Step), .cv (.int .i64 w.NextDoc), .cv (.int .i64 w.NextKey)]]) (fun x => x.1) (8, f, 1) (by simp; omega) ⟨rfl, rfl⟩ ?_
  rintro ⟨k, g, n⟩ ⟨hk, hn, hg, hg2, he⟩
  simp only at hk hn hg hg2 he
  have hd : depthF w f = if (depthGo w 8 f 1).1 = 0 then (depthGo w 8 f 1).2 else 9 := rfl
  rw [← he] at hd
  by_cases hc : 0 < g ∧ n ≤ 8
  · obtain ⟨m, rfl⟩ : ∃ m : Nat, g = m := ⟨g.toNat, by omega⟩
    obtain ⟨k, rfl⟩ : ∃ j, k = j + 1 := ⟨k - 1, by omega⟩
    have hlt : m < w.Frames.length := by omega
    have hgd := getD_at rFrame hlt
    rw [depthGo, if_pos hc] at he
    have hl := fI_lt (hasDoc (w.Frames.getD (Int.toNat m) default).Within) w.Frames
    have hgg : w.Frames.getD (Int.toNat m) default = w.Frames[m] := getD_lt (by simpa using hlt)
    rw [hgg] at he hl
    try dsimp +instances only [go_sem, Nat.reduceBEq, Nat.reduceAdd, Nat.reduceSub, Nat.reduceLT, Nat.reduceLeDiff]
    repeat (simp only [hgd, rFrame_enc, Int.toNat_natCast, bb, Nat.reduceAdd, Int.reduceToNat, Int.reduceLE, Int.reduceLT, Nat.reduceLT, Nat.reduceMul, Nat.reduceLeDiff]; try dsimp +instances only [go_sem, Nat.reduceBEq, Nat.reduceAdd, Nat.reduceSub, Nat.reduceLT, Nat.reduceLeDiff])
    try simp only [nn, reduceCtorEq, hlt, decide_true]
    exact ⟨fun _ => ⟨by omega, nextL_intro (k, ownerF w w.Frames[m].Within, n + 1) ⟨by simp only; omega, by simp only; omega, hl.1, by have := hl.2; simp only [ownerF]; omega, he⟩ (by simp only; omega) rfl rfl⟩, fun h => by omega⟩
  · have hst : depthGo w k g n = (g, n) := by
      cases k with
      | zero => rfl
      | succ k => rw [depthGo, if_neg hc]
    rw [hst] at hd
    repeat (dsimp +instances only [go_sem, Nat.reduceBEq, Nat.reduceAdd, Nat.reduceSub, Nat.reduceLT, Nat.reduceLeDiff]; try simp only [bb, Nat.reduceAdd, Int.reduceToNat, Int.reduceLE, Int.reduceLT, Nat.reduceLT, Nat.reduceMul, Nat.reduceLeDiff])
    try simp only [nn, reduceCtorEq]
    exact ⟨fun h => absurd h hc, fun _ => ⟨fun h => by rw [hd, if_neg h], fun h => by rw [hd, if_pos h]⟩⟩
end Go.Gx
end
section
namespace Go.Gx
open Go.Lib Go.Sort Go.RowKit
section
variable {P : Program} {St : Snap} {ρ : Nat → Option RA} {C : Ctx} {w : World} {F : Nat → Nat → Prop} {rt : List Root}
theorem row_ints (hM : Mem C w St ρ F rt) {r n : Nat} {zs : List Int} (hroot : nth .dead rt r = .row 1 (zs.map rInt.enc) []) {v : Value} (hv : Hdr (ρ r) 1 0 n v) (hn : n = zs.length) (hpos : 0 < n) :
    ∃ (ra : RA) (cap : Nat) (cur : Array Value) (T : TypeId) (fr : Nat × Nat), ρ r = some ra ∧ v = .slice (some ⟨ra.b, ra.o, none⟩) n cap ∧ n ≤ cap ∧ cap ≤ ra.c ∧ w.heap[ra.b]? = some (.cells cur T fr) ∧ ra.o + ra.c ≤ cur.size ∧
      (∀ x, ra.o ≤ x → x < ra.o + ra.c → ¬ (fr.1 ≤ x ∧ x < fr.2)) ∧ F r ra.b ∧ r < rt.length ∧ (∀ j (hj : j < zs.length), cur[ra.o + j]? = some (.int .i64 zs[j])) ∧ (∀ z ∈ zs, InR .i64 z) ∧ Fit zs.length := by
  have hR := hM.root r _ (nth_root hroot (by simp))
  obtain ⟨v0, hv0, hx0⟩ := hR
  obtain ⟨A, cap, rfl, hc⟩ := hv
  rcases hc with ⟨h0, _⟩ | ⟨ra, hρ, rfl, hle, hcap⟩
  · omega
  rcases hx0 with ⟨h0, _⟩ | ⟨ra', hρ', rfl⟩
  · rw [hρ] at h0; cases h0
  rw [hρ] at hρ'; injection hρ' with hρ'; subst hρ'
  have hrl : r < rt.length := by
    rcases Nat.lt_or_ge r rt.length with h | h
    · exact h
    · rw [nth_getD, List.getD_eq_getElem?_getD, List.getElem?_eq_none h] at hroot; cases hroot
  obtain ⟨rb, ro, rc⟩ := ra
  simp only at hle hcap hv0 ⊢
  generalize hfp : F r = fp at hv0
  have hlen : (zs.map rInt.enc).length = zs.length := by simp
  generalize hes : zs.map rInt.enc = es at hv0 hlen
  cases hv0 with
  | nil => rw [← hlen] at hn; simp at hn; omega
  | sl vals fps a1 a2 a3 a4 a5 a6 a7 a8 a9 a10 =>
    rename_i cur T fr
    have hg : ∀ j (hj : j < zs.length), getC es j 0 = .int .i64 zs[j] := fun j hj => by
      rw [← hes]; unfold getC; simp [List.getD_eq_getElem?_getD, hj, rInt]
    have hcell : ∀ j (hj : j < zs.length), cur[ro + j]? = some (.int .i64 zs[j]) ∧ InR .i64 zs[j] := fun j hj => by
      have h1 := a7 j 0 (by rw [hlen]; exact hj) (by omega)
      have h2 := a8 j 0 (by rw [hlen]; exact hj) (by omega)
      rw [hg j hj] at h2
      generalize vals j 0 = u at h1 h2
      generalize fps j 0 = f at h2
      cases h2 with | int h2 => exact ⟨by simpa using h1, h2⟩
    refine ⟨⟨rb, ro, rc⟩, cap, cur, T, fr, hρ, by simp, hle, by simp only; omega, a3, by simp only; omega, fun x h1 h2 => a6 x h1 (by have h2 : x < ro + rc := h2; omega), .inl rfl, hrl, fun j hj => (hcell j hj).1, fun z hz => ?_, by rw [← hlen]; exact a1⟩
    obtain ⟨j, hj, rfl⟩ := List.mem_iff_getElem.1 hz
    exact (hcell j hj).2
theorem row_turned (hM : Mem C w St ρ F rt) {r : Nat} {x : Root} (hroot : nth .dead rt r = x) (hx : x ≠ .dead) {ra : RA} (hρ : ρ r = some ra) (hF : F r ra.b) (hrl : r < rt.length) {w' : World} {cur' : Array Value} {T : TypeId} {fr : Nat × Nat} {zs : List Int}
    (hb : w'.heap[ra.b]? = some (.cells cur' T fr)) (hcap : zs.length ≤ ra.c) (hsz : ra.o + ra.c ≤ cur'.size) (hfr : ∀ x, ra.o ≤ x → x < ra.o + ra.c → ¬ (fr.1 ≤ x ∧ x < fr.2)) (hc : ∀ j (hj : j < zs.length), cur'[ra.o + j]? = some (.int .i64 zs[j]))
    (hz : ∀ z ∈ zs, InR .i64 z) (hf : Fit zs.length) (hk : ∀ b, b < w.heap.size → b ≠ ra.b → w'.heap[b]? = w.heap[b]?) (hsize : w.heap.size ≤ w'.heap.size) (hos : w'.os = w.os) (htape : w'.tape = w.tape) (hout : w'.output = w.output) :
    Mem C w' St ρ (fun s b => if s = r then b = ra.b else F s b ∧ nth .dead (rt.set r .dead) s ≠ .dead) (rt.set r (.row 1 (zs.map rInt.enc) [])) := by
  have hd := set_dead hroot hx
  have hM' := hM.kill r
  have hlen : (zs.map rInt.enc).length = zs.length := by simp
  have hRO : RepO w' (.sl 1 (zs.map rInt.enc)) (.slice (some ⟨ra.b, ra.o, none⟩) zs.length ra.c) (fun b => b = ra.b ∨ ∃ i j, i < (zs.map rInt.enc).length ∧ j < 1 ∧ False) := by
    have := RepO.sl (w := w') (sz := 1) (es := zs.map rInt.enc) (b := ra.b) (o := ra.o) (c := ra.c) (cur := cur') (T := T) (fr := fr) (fun i _ => .int .i64 (zs.getD i 0)) (fun _ _ _ => False) (by rw [hlen]; exact hf)
      (fun i hi => by rw [hlen] at hi; simp [List.getD_eq_getElem?_getD, hi, rInt]) hb (by rw [hlen]; exact hcap) (by omega) (fun y h1 h2 => hfr y h1 (by omega))
      (fun i j hi hj => by
        rw [hlen] at hi
        obtain rfl : j = 0 := by omega
        simp [hc i hi, List.getD_eq_getElem?_getD, hi])
      (fun i j hi hj => by
        rw [hlen] at hi
        obtain rfl : j = 0 := by omega
        have e : getC (zs.map rInt.enc) i 0 = .int .i64 (zs.getD i 0) := by unfold getC; simp [List.getD_eq_getElem?_getD, hi, rInt]
        rw [e]
        exact .int (hz _ (by rw [List.getD_eq_getElem?_getD, List.getElem?_eq_getElem hi]; exact List.getElem_mem hi)))
      (fun _ _ _ _ h => h) (fun _ _ _ _ _ _ _ _ _ h => h.elim)
    rw [hlen] at this ⊢
    exact this
  have hfp : (fun b => b = ra.b ∨ ∃ i j, i < (zs.map rInt.enc).length ∧ j < 1 ∧ False) = fun b => b = ra.b := by funext b; simp
  rw [hfp] at hRO
  have := hM'.upd (i := r) (w' := w') (x := .row 1 (zs.map rInt.enc) []) (fp := fun b => b = ra.b) hd (by simpa using hrl)
    (fun b hb' hl => hk b hb' fun e => hl ⟨r, e ▸ hF, hd⟩) (fun b hb' => by subst hb'; exact ⟨(Array.getElem?_eq_some_iff.1 hb).1, .inr ⟨r, hF, hd⟩⟩)
    ⟨_, hRO, .inr ⟨ra, hρ, by rw [hlen]⟩⟩ hsize hos htape hout
  rw [List.set_set] at this
  exact this
end
theorem put_heap {w : World} {b o : Nat} {d : Array Int} {cur : Array Value} {T : TypeId} {fr : Nat × Nat} (hb : w.heap[b]? = some (.cells cur T fr)) (n : Nat) (os : Array Obj) :
    (grow (putRow (Value.int .i64) (Go.Sort.ahead w n) b o d) os).heap[b]? = some (.cells (putCells (Value.int .i64) o d cur) T fr) := by
  have hlt : b < w.heap.size := (Array.getElem?_eq_some_iff.1 hb).1
  have h1 : (w.heap.modify b (onCells (putCells (Value.int .i64) o d)))[b]? = some (.cells (putCells (Value.int .i64) o d cur) T fr) := by
    rw [Array.getElem?_modify, if_pos rfl, hb]; rfl
  show (w.heap.modify b (onCells (putCells (Value.int .i64) o d)) ++ os)[b]? = _
  rw [Array.getElem?_append, if_pos (by simpa using hlt), h1]
theorem put_other {w : World} {b o b' : Nat} {d : Array Int} (hl : b' < w.heap.size) (hne : b' ≠ b) (n : Nat) (os : Array Obj) :
    (grow (putRow (Value.int .i64) (Go.Sort.ahead w n) b o d) os).heap[b']? = w.heap[b']? := by
  show (w.heap.modify b (onCells (putCells (Value.int .i64) o d)) ++ os)[b']? = _
  rw [Array.getElem?_append, if_pos (by simpa using hl), Array.getElem?_modify, if_neg (Ne.symm hne)]
theorem put_size {w : World} {b o : Nat} {d : Array Int} (n : Nat) (os : Array Obj) : w.heap.size ≤ (grow (putRow (Value.int .i64) (Go.Sort.ahead w n) b o d) os).heap.size := by
  simp [grow, putRow, mapBlock, Go.Sort.ahead]
theorem put_cell {o : Nat} {d : Array Int} {cur : Array Value} {j : Nat} (hj : j < d.size) (hs : o + j < cur.size) : (putCells (Value.int .i64) o d cur)[o + j]? = some (.int .i64 d[j]) := by
  have : cur[o + j]? = some cur[o + j] := Array.getElem?_eq_getElem hs
  simp [putCells, Array.getElem?_mapIdx, this, hj]
theorem put_cells_size {o : Nat} {d : Array Int} {cur : Array Value} : (putCells (Value.int .i64) o d cur).size = cur.size := by simp [putCells]
theorem holds_ints {w : World} {ra : RA} {cur : Array Value} {T : TypeId} {fr : Nat × Nat} {zs : List Int} (hb : w.heap[ra.b]? = some (.cells cur T fr)) (hcap : zs.length ≤ ra.c) (hfr : ∀ x, ra.o ≤ x → x < ra.o + ra.c → ¬ (fr.1 ≤ x ∧ x < fr.2))
    (hc : ∀ j (hj : j < zs.length), cur[ra.o + j]? = some (.int .i64 zs[j])) : Holds (Value.int .i64) w ra.b ra.o zs.toArray := fun j hj => by
  have hj' : j < zs.length := by simpa using hj
  have h1 := hc j hj'
  have h2 := hfr (ra.o + j) (by omega) (by omega)
  refine ⟨?_, ?_⟩
  · simp [World.cell?, hb, h1, hj']
  · simp only [World.frozen?, hb]
    simpa using fun h => by have := h2; omega
def sortAt (g : List Int → List Int) (r n : Nat) (rt : List Root) (K : PV → List Root → Prop) : Root → Prop
  | .row 1 es [] => n = es.length ∧ (∃ zs : List Int, es = zs.map rInt.enc) ∧ K (.tup []) (rt.set r (.row 1 ((g (es.map rInt.dec)).map rInt.enc) []))
  | _ => False
def sortPV (g : List Int → List Int) : List PV → List Root → (PV → List Root → Prop) → Prop
  | [.pth r 1 0 n], rt, K => sortAt g r n rt K (nth .dead rt r)
  | [.nil 1], rt, K => K (.tup []) rt
  | _, _, _ => False
theorem sortPV_mk {g : List Int → List Int} {r n : Nat} {rt : List Root} {K : PV → List Root → Prop} : sortPV g [.pth r 1 0 n] rt K = sortAt g r n rt K (nth .dead rt r) := rfl
theorem sortPV_nil {g : List Int → List Int} {rt : List Root} {K : PV → List Root → Prop} : sortPV g [.nil 1] rt K = K (.tup []) rt := rfl
theorem sortAt_mk {g : List Int → List Int} {r n : Nat} {rt : List Root} {K : PV → List Root → Prop} {es : List (List CV)} : sortAt g r n rt K (.row 1 es []) = (n = es.length ∧ (∃ zs : List Int, es = zs.map rInt.enc) ∧ K (.tup []) (rt.set r (.row 1 ((g (es.map rInt.dec)).map rInt.enc) []))) := rfl
def compAt (g : List Int → List Int) (r n : Nat) (rt : List Root) (K : PV → List Root → Prop) : Root → Prop
  | .row 1 es [] => n = es.length ∧ (∃ zs : List Int, es = zs.map rInt.enc) ∧ K (.pth r 1 0 (g (es.map rInt.dec)).length) (rt.set r (.row 1 ((g (es.map rInt.dec)).map rInt.enc) []))
  | _ => False
def compPV (g : List Int → List Int) : List PV → List Root → (PV → List Root → Prop) → Prop
  | [.pth r 1 0 n], rt, K => compAt g r n rt K (nth .dead rt r)
  | [.nil 1], rt, K => K (.nil 1) rt
  | _, _, _ => False
theorem compPV_mk {g : List Int → List Int} {r n : Nat} {rt : List Root} {K : PV → List Root → Prop} : compPV g [.pth r 1 0 n] rt K = compAt g r n rt K (nth .dead rt r) := rfl
theorem compPV_nil {g : List Int → List Int} {rt : List Root} {K : PV → List Root → Prop} : compPV g [.nil 1] rt K = K (.nil 1) rt := rfl
theorem compAt_mk {g : List Int → List Int} {r n : Nat} {rt : List Root} {K : PV → List Root → Prop} {es : List (List CV)} : compAt g r n rt K (.row 1 es []) = (n = es.length ∧ (∃ zs : List Int, es = zs.map rInt.enc) ∧ K (.pth r 1 0 (g (es.map rInt.dec)).length) (rt.set r (.row 1 ((g (es.map rInt.dec)).map rInt.enc) []))) := rfl
attribute [go_sem] sortPV_mk sortPV_nil sortAt_mk compPV_mk compPV_nil compAt_mk
theorem set_same {rt : List Root} {r : Nat} {x : Root} (h : nth .dead rt r = x) (hx : x ≠ .dead) : rt.set r x = rt := by
  apply List.ext_getElem?
  intro i
  rw [List.getElem?_set]
  by_cases e : r = i
  · subst e
    have := nth_root h hx
    have hlt := (List.getElem?_eq_some_iff.1 this).1
    rw [if_pos rfl, if_pos hlt, this]
  · simp [e]
def sortI (l : List Int) : List Int := l.mergeSort fun x y => decide (x ≤ y)
theorem sort_ok {P : Program} {G : Globs} {f : FuncId} (hbody : ∃ fn c, P.funcs[f]? = some fn ∧ fn.body = some c ∧ (fn.name == "runtime.NumGoroutine") = false)
    (hrun : ∀ (blk off cap : Nat) (zs : List Int) (w : World), Holds (Value.int .i64) w blk off zs.toArray → blk < w.heap.size → zs.length < 4611686018427387904 →
      Calls P f #[.slice (some ⟨blk, off, none⟩) zs.length cap] w fun e w' => e = .returned (.tuple #[]) ∧ ∃ n os, w' = grow (putRow (Value.int .i64) (Go.Sort.ahead w n) blk off (sortI zs).toArray) os)
    (hnone : ∀ (p : Option Addr) (cap : Nat) (w : World), Calls P f #[.slice p 0 cap] w fun e w' => e = .returned (.tuple #[]) ∧ w' = w) : CtOk P G f (.gen (sortPV sortI)) := by
  intro C w St ρ F rt ps vs K hG hM hp h
  unfold sortPV at h
  split at h
  · rename_i r n
    obtain ⟨v, hv, hvr⟩ := hp.2 0 _ rfl
    have hvs : vs = [v] := by
      have := hp.1
      match vs, this with
      | [x], _ => simp at hv; subst hv; rfl
    subst hvs
    cases hvr with | pth hvr =>
    unfold sortAt at h
    split at h
    · rename_i es hroot
      obtain ⟨rfl, ⟨zs, rfl⟩, hK⟩ := h
      rw [Rw.map_dec] at hK
      refine ⟨hbody, ?_⟩
      rcases Nat.eq_zero_or_pos zs.length with hz | hz
      · obtain rfl : zs = [] := List.length_eq_zero_iff.1 hz
        obtain ⟨A, cap, rfl, _⟩ := hvr
        refine (hnone A cap w).mono fun e w' ⟨he, hw⟩ => ⟨_, he, ?_⟩
        subst hw
        have hK : K (.tup []) rt := by
          have := set_same hroot (by simp)
          have e : ((sortI []).map rInt.enc) = [] := by simp [sortI]
          rw [e] at hK
          exact this ▸ hK
        exact ⟨_, _, St, ρ, F, hK, RepPV.tup (vs := []) (fun _ => undef) rfl (fun i hi => absurd hi (by simp)) (fun i c hc => by simp at hc), hM, fun _ _ h => h, fun _ _ h => h⟩
      · obtain ⟨ra, cap, cur, T, fr, hρ, rfl, h1, h2, h3, h4, h5, h6, h7, h8, h9, h10⟩ := row_ints hM hroot hvr (by simp) (by simpa using hz)
        have hlen : (zs.map rInt.enc).length = zs.length := by simp
        rw [hlen] at h1 ⊢
        have hsl : (sortI zs).length = zs.length := by simp [sortI]
        refine (hrun ra.b ra.o cap zs w (holds_ints h3 (by omega) h5 h8) (Array.getElem?_eq_some_iff.1 h3).1 (by unfold Fit at h10; omega)).mono fun e w' ⟨he, k, os, hw⟩ => ⟨_, he, ?_⟩
        subst hw
        have hm := row_turned hM hroot (by simp) hρ h6 h7 (w' := grow (putRow (Value.int .i64) (Go.Sort.ahead w k) ra.b ra.o (sortI zs).toArray) os) (zs := sortI zs) (put_heap h3 k os) (by omega) (by rw [put_cells_size]; exact h4) h5
          (fun j hj => by
            have := put_cell (o := ra.o) (d := (sortI zs).toArray) (cur := cur) (j := j) (by simpa using hj) (by omega)
            simpa using this)
          (fun z hz => h9 z (by unfold sortI at hz; exact List.mem_mergeSort.1 hz)) (by rw [hsl]; exact h10) (fun b hb hne => put_other hb hne k os) (put_size k os) rfl rfl rfl
        exact ⟨_, _, St, ρ, _, hK, RepPV.tup (vs := []) (fun _ => undef) rfl (fun i hi => absurd hi (by simp)) (fun i c hc => by simp at hc), hm, fun _ _ h => h, fun _ _ h => h⟩
    · exact h.elim
  · obtain ⟨v, hv, hvr⟩ := hp.2 0 _ rfl
    have hvs : vs = [v] := by
      have := hp.1
      match vs, this with
      | [x], _ => simp at hv; subst hv; rfl
    subst hvs
    cases hvr with | nil =>
    refine ⟨hbody, (hnone none 0 w).mono fun e w' ⟨he, hw⟩ => ⟨_, he, ?_⟩⟩
    subst hw
    exact ⟨_, _, St, ρ, F, h, RepPV.tup (vs := []) (fun _ => undef) rfl (fun i hi => absurd hi (by simp)) (fun i c hc => by simp at hc), hM, fun _ _ h => h, fun _ _ h => h⟩
  · exact h.elim
theorem comp_ok {P : Program} {G : Globs} {f : FuncId} (hbody : ∃ fn c, P.funcs[f]? = some fn ∧ fn.body = some c ∧ (fn.name == "runtime.NumGoroutine") = false) (hcl : ∀ l : List Int, (Lib.compact l).length ≤ l.length) (hcm : ∀ (l : List Int), ∀ z ∈ Lib.compact l, z ∈ l)
    (hrun : ∀ (blk off cap : Nat) (zs : List Int) (w : World), Holds (Value.int .i64) w blk off zs.toArray → zs.length ≤ 9223372036854775807 → zs.length ≤ cap →
      Calls P f #[.slice (some ⟨blk, off, none⟩) zs.length cap] w fun e w' => e = .returned (.slice (some ⟨blk, off, none⟩) (Lib.compact zs).length cap) ∧ ∃ q, w' = putRow (Value.int .i64) (Go.Sort.ahead w q) blk off (Lib.compact zs ++ List.replicate (zs.length - (Lib.compact zs).length) 0).toArray)
    (hnone : ∀ (a : Option Addr) (cap : Nat) (w : World), Calls P f #[.slice a 0 cap] w fun e w' => e = .returned (.slice a 0 cap) ∧ w' = w) : CtOk P G f (.gen (compPV Lib.compact)) := by
  intro C w St ρ F rt ps vs K hG hM hp h
  unfold compPV at h
  split at h
  · rename_i r n
    obtain ⟨v, hv, hvr⟩ := hp.2 0 _ rfl
    have hvs : vs = [v] := by
      have := hp.1
      match vs, this with
      | [x], _ => simp at hv; subst hv; rfl
    subst hvs
    have hvr0 := hvr
    cases hvr with | pth hvr =>
    unfold compAt at h
    split at h
    · rename_i es hroot
      obtain ⟨rfl, ⟨zs, rfl⟩, hK⟩ := h
      rw [Rw.map_dec] at hK
      refine ⟨hbody, ?_⟩
      rcases Nat.eq_zero_or_pos zs.length with hz | hz
      · obtain rfl : zs = [] := List.length_eq_zero_iff.1 hz
        obtain ⟨A, cap, rfl, _⟩ := hvr
        refine (hnone A cap w).mono fun e w' ⟨he, hw⟩ => ⟨_, he, ?_⟩
        subst hw
        have hc0 : Lib.compact ([] : List Int) = [] := List.length_eq_zero_iff.1 (by have := hcl []; simpa using this)
        have hK : K (.pth r 1 0 0) rt := by
          have := set_same hroot (by simp)
          rw [hc0] at hK
          exact this ▸ hK
        exact ⟨_, _, St, ρ, F, hK, hvr0, hM, fun _ _ h => h, fun _ _ h => h⟩
      · obtain ⟨ra, cap, cur, T, fr, hρ, rfl, h1, h2, h3, h4, h5, h6, h7, h8, h9, h10⟩ := row_ints hM hroot hvr (by simp) (by simpa using hz)
        have hlen : (zs.map rInt.enc).length = zs.length := by simp
        rw [hlen] at h1 ⊢
        have hsl := hcl zs
        refine (hrun ra.b ra.o cap zs w (holds_ints h3 (by omega) h5 h8) (by unfold Fit at h10; omega) h1).mono fun e w' ⟨he, k, hw⟩ => ⟨_, he, ?_⟩
        have hw : w' = grow (putRow (Value.int .i64) (Go.Sort.ahead w k) ra.b ra.o (Lib.compact zs ++ List.replicate (zs.length - (Lib.compact zs).length) 0).toArray) #[] := by rw [hw, grow_empty]
        subst hw
        have hm := row_turned hM hroot (by simp) hρ h6 h7 (w' := grow (putRow (Value.int .i64) (Go.Sort.ahead w k) ra.b ra.o (Lib.compact zs ++ List.replicate (zs.length - (Lib.compact zs).length) 0).toArray) #[]) (zs := Lib.compact zs) (put_heap h3 k #[]) (by omega) (by rw [put_cells_size]; exact h4) h5
          (fun j hj => by
            have := put_cell (o := ra.o) (d := (Lib.compact zs ++ List.replicate (zs.length - (Lib.compact zs).length) 0).toArray) (cur := cur) (j := j) (by simp; omega) (by omega)
            simpa [List.getElem_append_left hj] using this)
          (fun z hz => h9 z (hcm zs z hz)) (by unfold Fit at h10 ⊢; omega) (fun b hb hne => put_other hb hne k #[]) (put_size k #[]) rfl rfl rfl
        refine ⟨_, _, St, ρ, _, hK, .pth ⟨some ⟨ra.b, ra.o, none⟩, cap, rfl, .inr ⟨ra, hρ, by simp, by omega, by omega⟩⟩, hm, fun _ _ h => h, fun _ _ h => h⟩
    · exact h.elim
  · obtain ⟨v, hv, hvr⟩ := hp.2 0 _ rfl
    have hvs : vs = [v] := by
      have := hp.1
      match vs, this with
      | [x], _ => simp at hv; subst hv; rfl
    subst hvs
    cases hvr with | nil =>
    refine ⟨hbody, (hnone none 0 w).mono fun e w' ⟨he, hw⟩ => ⟨_, he, ?_⟩⟩
    subst hw
    exact ⟨_, _, St, ρ, F, h, .nil, hM, fun _ _ h => h, fun _ _ h => h⟩
  · exact h.elim
end Go.Gx
end
section

end
section
namespace Go.Gx
open Go.Proofs
theorem compact_len (l : List Int) : (Lib.compact l).length ≤ l.length := by
  unfold Lib.compact Lib.compactUpTo
  rw [List.length_map]
  exact Nat.le_trans (List.length_filter_le _ _) (by simp)
theorem compact_mem (l : List Int) : ∀ z ∈ Lib.compact l, z ∈ l := by
  intro z hz
  unfold Lib.compact Lib.compactUpTo at hz
  obtain ⟨i, hi, rfl⟩ := List.mem_map.1 hz
  have hi := (List.mem_filter.1 hi).1
  rw [List.mem_range] at hi
  have : l.toArray[i]! = l[i] := by simp [hi]
  rw [this]
  exact List.getElem_mem hi
def ct83 : Ct := .gen (sortPV sortI)
attribute [go_sem] ct83
theorem ok83 : CtOk Tryz.prog Gl 83 ct83 :=
  sort_ok ⟨_, _, Tryz.func83, rfl, by kernel_rfl⟩ (fun blk off cap zs w h1 h2 h3 => Tryz.slices_Sort_int blk off cap zs w h1 h2 h3) (fun p cap w => Tryz.slices_Sort_int_none p cap w)
def ct85 : Ct := .gen (compPV Lib.compact)
attribute [go_sem] ct85
theorem ok85 : CtOk Tryz.prog Gl 85 ct85 :=
  comp_ok ⟨_, _, Tryz.func85, rfl, by kernel_rfl⟩ compact_len compact_mem (fun blk off cap zs w h1 h2 h3 => Tryz.slices_Compact_int blk off cap zs w h1 h2 h3) (fun a cap w => Tryz.slices_Compact_int_empty a cap w)
def E84 : Env := { T := Tz.tab, G := Gl, C := [], live := [(0, [0]), (1, [2])] }
def ct84 : Ct := inlK E84 Go.Proofs.Tryz.f84 #[ResultVar.tmp 2] 1
attribute [go_sem] E84 ct84 Go.Proofs.Tryz.f84
theorem ok84 : CtOk Tryz.prog Gl 84 ct84 := inl_ok (E := E84) (sound_of Tz.tab_ok Tz.mixed AllOk.nil) Tryz.func84 (by kernel_rfl) rfl rfl rfl (fun pin => by kernel_rfl)
def E123 : Env := { T := Tz.tab, G := Gl, C := [], live := [(0, [0, 1]), (1, [0, 1, 7, 8]), (2, [0, 1, 7, 8, 9]), (3, [0, 1, 5, 7, 8]), (4, [0, 1, 5, 7, 8, 16]), (5, [4]), (6, [0, 1, 7, 8]), (7, [4])] }
def ct123 : Ct := .scal (dom2 tInts tInt (fun l k => True)) (fn2 tInts tInt fun l k => [tInt.enc (fI (fun x => decide (k = x)) l)])
attribute [go_sem] E123 ct123 Go.Proofs.Tryz.f123
theorem ok123 : CtOk Tryz.prog Gl 123 ct123 := okA2 (E := E123) (sound_of Tz.tab_ok Tz.mixed AllOk.nil) rfl Tryz.func123 (by kernel_rfl) fun l k fl fk hp => by
  have gl := fl
  have fl := fit_list fl
  have fk := fit_int fk
  refine vcFn_intro rfl rfl (by kernel_rfl) rfl ?_
  repeat (dsimp +instances only [go_sem, Nat.reduceBEq, Nat.reduceAdd, Nat.reduceSub, Nat.reduceLT, Nat.reduceLeDiff]; try simp only [bb, Nat.reduceAdd, Int.reduceToNat, Int.reduceLE, Int.reduceLT, Nat.reduceLT, Nat.reduceMul, Nat.reduceLeDiff])
  refine vcC_loop [0, 1, 7, 8] (fun (i : Nat) => i ≤ l.length ∧ i + (l.drop i).findIdx (fun x => decide (k = x)) = l.findIdx (fun x => decide (k = x))) (fun i => [.cv (.sl 1 (l.map rInt.enc)), .cv (.int .i64 k), .cv (.int .i64 l.length), .cv (.int .i64 i)]) (fun _ => []) (fun i => l.length - i) 0 (by simp) ⟨rfl, rfl⟩ ?_
  rintro i ⟨hi, he⟩
  rcases Nat.lt_or_ge i l.length with hlt | hge
  · have hg := getD_at rInt hlt
    have hgo := fI_go _ l i hlt he
    try dsimp +instances only [go_sem, Nat.reduceBEq, Nat.reduceAdd, Nat.reduceSub, Nat.reduceLT, Nat.reduceLeDiff]
    repeat (simp only [hg, rInt_enc, Int.toNat_natCast, bb, Nat.reduceAdd, Int.reduceToNat, Int.reduceLE, Int.reduceLT, Nat.reduceLT, Nat.reduceMul, Nat.reduceLeDiff]; try dsimp +instances only [go_sem, Nat.reduceBEq, Nat.reduceAdd, Nat.reduceSub, Nat.reduceLT, Nat.reduceLeDiff])
    try simp only [nn, reduceCtorEq, hlt, decide_true]
    exact ⟨fun h => (hgo.1 (by simpa using h)).symm, fun h => ⟨by omega, nextL_intro (i + 1) ⟨by omega, hgo.2 (by simpa using h)⟩ (by omega) rfl rfl⟩⟩
  · have : i = l.length := by omega
    subst this
    have := fI_end _ l he
    repeat (dsimp +instances only [go_sem, Nat.reduceBEq, Nat.reduceAdd, Nat.reduceSub, Nat.reduceLT, Nat.reduceLeDiff]; try simp only [bb, Nat.reduceAdd, Int.reduceToNat, Int.reduceLE, Int.reduceLT, Nat.reduceLT, Nat.reduceMul, Nat.reduceLeDiff])
    try simp only [nn, reduceCtorEq, Nat.lt_irrefl]
    exact fun _ => this.symm
def E75 : Env := { T := Tz.tab, G := Gl, C := [(123, ct123)], live := [(0, [0, 1]), (1, [4])] }
def ct75 : Ct := .scal (dom2 tInts tInt (fun l k => True)) (fn2 tInts tInt fun l k => [tBool.enc (decide (k ∈ l))])
attribute [go_sem] E75 ct75 Go.Proofs.Tryz.f75
theorem ok75 : CtOk Tryz.prog Gl 75 ct75 := okA2 (E := E75) (sound_of Tz.tab_ok Tz.mixed (AllOk.cons ok123 AllOk.nil)) rfl Tryz.func75 (by kernel_rfl) fun l k fl fk hp => by
  have gl := fl
  have fl := fit_list fl
  have fk := fit_int fk
  refine vcFn_intro rfl rfl (by kernel_rfl) rfl ?_
  repeat (dsimp +instances only [go_sem, Nat.reduceBEq, Nat.reduceAdd, Nat.reduceSub, Nat.reduceLT, Nat.reduceLeDiff]; try simp only [bb, Nat.reduceAdd, Int.reduceToNat, Int.reduceLE, Int.reduceLT, Nat.reduceLT, Nat.reduceMul, Nat.reduceLeDiff])
  try simp only [nn, reduceCtorEq]
  refine decide_eq_decide.2 ?_
  rw [fI_any, List.any_eq_true]
  constructor
  · rintro ⟨x, hx, h⟩
    have : k = x := by simpa using h
    exact this ▸ hx
  · intro h
    exact ⟨k, h, by simp⟩
end Go.Gx
end

/- laws.Rows.FnExactWindowAsk: what the given card says of it. No condition beyond the card's own: what comes in holds at most 1048576 values and letters. -/
import Derived.Test.YtingolkleldegaaGreatDoorK09
import Derived.KernelRfl
import Derived.ChangeArms
import Derived.ChangeMaps5
import Derived.OpenVars
import Derived.ChangeSame
import Derived.Lib.LaidU8
import Derived.Lib.LaidTab
import Derived.Test.YtingolkleldegaaGreatDoorCards
import Derived.Test.YtingolkleldegaaGreatDoorTie
import Derived.Deep.DeepWitnessRowRef
import Derived.Lay
import Derived.MakeChecks
import Derived.Test.YtingolkleldegaaGreatDoorK01
import Derived.Test.YtingolkleldegaaGreatDoorK02
import Derived.Test.YtingolkleldegaaGreatDoorK03
import Derived.Test.YtingolkleldegaaGreatDoorK04
import Derived.Test.YtingolkleldegaaGreatDoorK05
import Derived.Test.YtingolkleldegaaGreatDoorK06
import Derived.Test.YtingolkleldegaaGreatDoorK07
import Derived.Test.YtingolkleldegaaGreatDoorK08
set_option linter.unusedVariables false
set_option linter.unusedSimpArgs false
set_option maxRecDepth 100000
section
namespace Go.Gx
open Go.Proofs
def sumL : List Str → Nat
  | [] => 0
  | s :: r => s.length + sumL r
def szTo (n : Int) (left : Int) : Int := if left - n < 0 then -1 else left - n
def E128 : Env := { T := Tz.tab, G := Gl, C := [], live := [(0, [1, 2]), (1, [1]), (2, [1, 11]), (3, [4]), (4, [4])] }
def ct128 : Ct := .scal (dom2 tHost tInt (fun a left => 0 ≤ left ∧ left ≤ 1048576)) (fn2 tHost tInt fun a left => [tInt.enc (szTo a.Name.length left)])
attribute [go_sem] E128 ct128 Go.Proofs.Tryz.f128
theorem ok128 : CtOk Tryz.prog Gl 128 ct128 := okA2 (E := E128) (sound_of Tz.tab_ok Tz.mixed AllOk.nil) rfl Tryz.func128 (by kernel_rfl) fun a left fa fleft hp => by
  have ga := fa
  have fa := fit_host fa
  have fleft := fit_int fleft
  refine vcFn_intro rfl rfl (by kernel_rfl) rfl ?_
  repeat (dsimp +instances only [go_sem, Nat.reduceBEq, Nat.reduceAdd, Nat.reduceSub, Nat.reduceLT, Nat.reduceLeDiff]; try simp only [bb, Nat.reduceAdd, Int.reduceToNat, Int.reduceLE, Int.reduceLT, Nat.reduceLT, Nat.reduceMul, Nat.reduceLeDiff])
  try simp only [nn, reduceCtorEq]
  (repeat' (first | refine And.intro ?_ ?_ | intro _)) <;> try first | omega | trivial
  all_goals grind (splits := 20) [szTo]
def E129 : Env := { T := Tz.tab, G := Gl, C := [], live := [(0, [0, 1]), (1, [0, 1]), (2, [0, 1, 11]), (3, [4]), (4, [0, 1, 5]), (5, [0, 1, 5, 15]), (6, [0, 1, 5]), (7, [0, 1, 5]), (8, [0, 1, 5, 26]), (9, [4]), (10, [4])] }
def ct129 : Ct := .scal (dom2 tStrs tInt (fun a left => 0 ≤ left ∧ left ≤ 1048576)) (fn2 tStrs tInt fun a left => [tInt.enc (szTo (a.length + sumL a) left)])
attribute [go_sem] E129 ct129 Go.Proofs.Tryz.f129
theorem ok129 : CtOk Tryz.prog Gl 129 ct129 := okA2 (E := E129) (sound_of Tz.tab_ok Tz.mixed AllOk.nil) rfl Tryz.func129 (by kernel_rfl) fun a left fa fleft hp => by
  have ga := fa
  have fa := fit_list fa
  have fleft := fit_int fleft
  refine vcFn_intro rfl rfl (by kernel_rfl) rfl ?_
  obtain ⟨hp0, hp1⟩ := hp
  repeat (dsimp +instances only [go_sem, Nat.reduceBEq, Nat.reduceAdd, Nat.reduceSub, Nat.reduceLT, Nat.reduceLeDiff]; try simp only [bb, Nat.reduceAdd, Int.reduceToNat, Int.reduceLE, Int.reduceLT, Nat.reduceLT, Nat.reduceMul, Nat.reduceLeDiff])
  try simp only [nn, reduceCtorEq]
  refine ⟨by omega, fun h => by rw [szTo, if_pos (by omega)], fun h => ?_⟩
  refine vcC_loop [0, 1, 5] (fun (x : Nat × Int) => x.1 ≤ a.length ∧ 0 ≤ x.2 ∧ x.2 ≤ 1048576 ∧ x.2 - sumL (a.drop x.1) = left - (a.length + sumL a)) (fun x => [.cv (.sl 1 (a.map rStr.enc)), .cv (.int .i64 x.2), .cv (.int .i64 x.1)]) (fun _ => []) (fun x => a.length - x.1) (0, left - a.length) (by simp; omega) ⟨rfl, rfl⟩ ?_
  rintro ⟨i, q⟩ ⟨hi, hq, hq2, he⟩
  simp only at hi hq hq2 he
  rcases Nat.lt_or_ge i a.length with hlt | hge
  · have hg := getD_at rStr hlt
    have hfe := fit_strs ga (List.getElem_mem hlt)
    rw [List.drop_eq_getElem_cons hlt, sumL] at he
    try dsimp +instances only [go_sem, Nat.reduceBEq, Nat.reduceAdd, Nat.reduceSub, Nat.reduceLT, Nat.reduceLeDiff]
    repeat (simp only [hg, rStr_enc, Int.toNat_natCast, bb, Nat.reduceAdd, Int.reduceToNat, Int.reduceLE, Int.reduceLT, Nat.reduceLT, Nat.reduceMul, Nat.reduceLeDiff]; try dsimp +instances only [go_sem, Nat.reduceBEq, Nat.reduceAdd, Nat.reduceSub, Nat.reduceLT, Nat.reduceLeDiff])
    try simp only [nn, reduceCtorEq, hlt, decide_true]
    (repeat' (first | refine And.intro ?_ ?_ | intro _)) <;> try first | omega | trivial
    · skip
      have : 0 ≤ (sumL (a.drop (i + 1)) : Int) := by omega
      simp only [szTo]; rw [if_pos (by omega)]
    · exact ⟨(i + 1, q - (a[i].length : Int)), ⟨by simp only; omega, by simp only; omega, by simp only; omega, by simp only; omega⟩, by simp only; omega, rfl, rfl⟩
  · have : i = a.length := by omega
    subst this
    rw [List.drop_length, sumL] at he
    repeat (dsimp +instances only [go_sem, Nat.reduceBEq, Nat.reduceAdd, Nat.reduceSub, Nat.reduceLT, Nat.reduceLeDiff]; try simp only [bb, Nat.reduceAdd, Int.reduceToNat, Int.reduceLE, Int.reduceLT, Nat.reduceLT, Nat.reduceMul, Nat.reduceLeDiff])
    try simp only [nn, reduceCtorEq, Nat.lt_irrefl]
    rw [szTo, if_neg (by omega)]; omega
def E108 : Env := { T := Tz.tab, G := Gl, C := [(128, ct128), (129, ct129)], live := [(0, [1, 2]), (1, [1, 2]), (2, [1, 2, 11]), (3, [4]), (4, [1, 2]), (5, [1, 2, 18]), (6, [4]), (7, [1, 2]), (8, [1, 2, 25]), (9, [4]), (10, [1, 2]), (11, [1, 2, 31]), (12, [4]), (13, [1, 2]), (14, [1, 2, 37]), (15, [4]), (16, [1, 2]), (17, [1, 2, 44]), (18, [4]), (19, [1, 2]), (20, [1, 2, 51]), (21, [4]), (22, [1]), (23, [1, 58]), (24, [4]), (25, [4])] }
def ct108 : Ct := .scal (dom2 tUrl tInt (fun a left => 0 ≤ left ∧ left ≤ 1048576)) (fn2 tUrl tInt fun a left => [tInt.enc (szTo (a.Scheme.length + a.User.length + a.Pass.length + a.Host.Name.length + (a.Path.length + sumL a.Path) + a.Opaque.length + a.Query.length + a.Frag.length) left)])
attribute [go_sem] E108 ct108 Go.Proofs.Tryz.f108
theorem ok108 : CtOk Tryz.prog Gl 108 ct108 := okA2 (E := E108) (sound_of Tz.tab_ok Tz.mixed (AllOk.cons ok128 (AllOk.cons ok129 AllOk.nil))) rfl Tryz.func108 (by kernel_rfl) fun a left fa fleft hp => by
  have ga := fa
  have fa := fit_url fa
  have fleft := fit_int fleft
  refine vcFn_intro rfl rfl (by kernel_rfl) rfl ?_
  have hf := fit_url ga
  repeat (dsimp +instances only [go_sem, Nat.reduceBEq, Nat.reduceAdd, Nat.reduceSub, Nat.reduceLT, Nat.reduceLeDiff]; try simp only [bb, Nat.reduceAdd, Int.reduceToNat, Int.reduceLE, Int.reduceLT, Nat.reduceLT, Nat.reduceMul, Nat.reduceLeDiff])
  try simp only [nn, reduceCtorEq]
  cases hf
  (repeat' (first | refine And.intro ?_ ?_ | intro _)) <;> try first | omega | trivial
  all_goals grind [szTo]
def E138 : Env := { T := Tz.tab, G := Gl, C := [], live := [(0, [1, 2]), (1, [1, 2, 3]), (2, [1, 2, 3]), (3, [1, 2, 3]), (4, [2, 3]), (5, [2])] }
def ct138 : Ct := .scal (dom1 tHost (fun a => True)) (fn1 tHost fun a => [tHost.enc a])
attribute [go_sem] E138 ct138 Go.Proofs.Tryz.f138
theorem ok138 : CtOk Tryz.prog Gl 138 ct138 := okA1 (E := E138) (sound_of Tz.tab_ok Tz.mixed AllOk.nil) rfl Tryz.func138 (by kernel_rfl) fun a fa hp => by
  have ga := fa
  have fa := fit_host fa
  refine vcFn_intro rfl rfl (by kernel_rfl) rfl ?_
  repeat (dsimp +instances only [go_sem, Nat.reduceBEq, Nat.reduceAdd, Nat.reduceSub, Nat.reduceLT, Nat.reduceLeDiff]; try simp only [bb, Nat.reduceAdd, Int.reduceToNat, Int.reduceLE, Int.reduceLT, Nat.reduceLT, Nat.reduceMul, Nat.reduceLeDiff])
  try simp only [nn, reduceCtorEq]
def E139 : Env := { T := Tz.tab, G := Gl, C := [], live := [(0, [0]), (1, [0, 3]), (2, [0, 3, 4]), (3, [0, 3, 4, 11]), (4, [0, 3, 4]), (5, [0, 3, 4]), (6, [2])] }
def ct139 : Ct := .pure (dom1 tStrs (fun a => True)) (fn1 tStrs fun a => [tStrs.enc a])
attribute [go_sem] E139 ct139 Go.Proofs.Tryz.f139
theorem ok139 : CtOk Tryz.prog Gl 139 ct139 := okA1 (E := E139) (sound_of Tz.tab_ok Tz.mixed AllOk.nil) rfl Tryz.func139 (by kernel_rfl) fun a fa hp => by
  have ga := fa
  have fa := fit_list fa
  refine vcFn_intro rfl rfl (by kernel_rfl) rfl ?_
  repeat (dsimp +instances only [go_sem, Nat.reduceBEq, Nat.reduceAdd, Nat.reduceSub, Nat.reduceLT, Nat.reduceLeDiff]; try simp only [bb, Nat.reduceAdd, Int.reduceToNat, Int.reduceLE, Int.reduceLT, Nat.reduceLT, Nat.reduceMul, Nat.reduceLeDiff])
  try simp only [nn, reduceCtorEq]
  refine ⟨by omega, by omega, ?_⟩
  refine vcC_loop [0, 3, 4] (fun (i : Nat) => i ≤ a.length) (fun i => [.cv (.sl 1 (a.map rStr.enc)), .pth 0 1 0 a.length, .cv (.int .i64 i)]) (fun i => [.row 1 ((a.take i).map rStr.enc ++ List.replicate (a.length - i) [.str []]) []]) (fun i => a.length - i) 0 (by simp) ⟨rfl, rfl⟩ ?_
  intro i hi
  rcases Nat.lt_or_ge i a.length with hlt | hge
  · have hg := getD_at rStr hlt
    have hr : List.replicate (a.length - i) [CV.str []] = [.str []] :: List.replicate (a.length - (i + 1)) [.str []] := by rw [show a.length - i = (a.length - (i + 1)) + 1 by omega]; rfl
    have hl : (a.take i).length = i := by simp; omega
    rw [hr]
    try dsimp +instances only [go_sem, Nat.reduceBEq, Nat.reduceAdd, Nat.reduceSub, Nat.reduceLT, Nat.reduceLeDiff]
    repeat (simp only [hg, rStr_enc, Int.toNat_natCast, bb, Nat.reduceAdd, Int.reduceToNat, Int.reduceLE, Int.reduceLT, Nat.reduceLT, Nat.reduceMul, Nat.reduceLeDiff]; try dsimp +instances only [go_sem, Nat.reduceBEq, Nat.reduceAdd, Nat.reduceSub, Nat.reduceLT, Nat.reduceLeDiff])
    try simp only [nn, reduceCtorEq, hlt, decide_true]
    have g1 : ((a.take i).map rStr.enc ++ [CV.str []] :: List.replicate (a.length - (i + 1)) [CV.str []]).getD i [] = [.str []] := by
      have := getD_mmid rStr.enc (a.take i) (List.replicate (a.length - (i + 1)) [CV.str []]) [CV.str []] []
      rwa [hl] at this
    have g2 : ∀ y, ((a.take i).map rStr.enc ++ [CV.str []] :: List.replicate (a.length - (i + 1)) [CV.str []]).set i y = (a.take i).map rStr.enc ++ y :: List.replicate (a.length - (i + 1)) [CV.str []] := fun y => by
      have := set_mmid rStr.enc (a.take i) (List.replicate (a.length - (i + 1)) [CV.str []]) [CV.str []] y
      rwa [hl] at this
    rw [g1, g2, hl]
    refine ⟨⟨by omega, rfl⟩, by omega, i + 1, by omega, by simp only; omega, rfl, ?_⟩
    simp only
    rw [take_snoc hlt, List.map_append, List.append_assoc]
    rfl
  · have : i = a.length := by omega
    subst this
    repeat (dsimp +instances only [go_sem, Nat.reduceBEq, Nat.reduceAdd, Nat.reduceSub, Nat.reduceLT, Nat.reduceLeDiff]; try simp only [bb, Nat.reduceAdd, Int.reduceToNat, Int.reduceLE, Int.reduceLT, Nat.reduceLT, Nat.reduceMul, Nat.reduceLeDiff])
    try simp only [nn, reduceCtorEq, Nat.lt_irrefl]
    exact fun _ => ⟨by omega, by rw [Nat.sub_self, List.replicate_zero, List.append_nil, List.take_of_length_le (by simp)]⟩
def E112 : Env := { T := Tz.tab, G := Gl, C := [(138, ct138), (139, ct139)], live := [(0, [1, 2]), (1, [1, 2, 3]), (2, [1, 2, 3]), (3, [1, 2, 3]), (4, [1, 2, 3]), (5, [1, 2, 3]), (6, [1, 2, 3]), (7, [1, 2, 3]), (8, [1, 2, 3]), (9, [1, 2, 3]), (10, [1, 2, 3]), (11, [1, 2, 3]), (12, [2, 3]), (13, [2])] }
def ct112 : Ct := .pure (dom1 tUrl (fun a => True)) (fn1 tUrl fun a => [tUrl.enc a])
attribute [go_sem] E112 ct112 Go.Proofs.Tryz.f112
theorem ok112 : CtOk Tryz.prog Gl 112 ct112 := okA1 (E := E112) (sound_of Tz.tab_ok Tz.mixed (AllOk.cons ok138 (AllOk.cons ok139 AllOk.nil))) rfl Tryz.func112 (by kernel_rfl) fun a fa hp => by
  have ga := fa
  have fa := fit_url fa
  refine vcFn_intro rfl rfl (by kernel_rfl) rfl ?_
  repeat (dsimp +instances only [go_sem, Nat.reduceBEq, Nat.reduceAdd, Nat.reduceSub, Nat.reduceLT, Nat.reduceLeDiff]; try simp only [bb, Nat.reduceAdd, Int.reduceToNat, Int.reduceLE, Int.reduceLT, Nat.reduceLT, Nat.reduceMul, Nat.reduceLeDiff])
  try simp only [nn, reduceCtorEq]
end Go.Gx
end
section
namespace Go.Gx
open Go.Proofs
def E140 : Env := { T := Tz.tab, G := Gl, C := [], live := [(0, [2, 3]), (1, [2, 3, 9]), (2, [4]), (3, [2, 3, 14]), (4, [4]), (5, [19]), (6, [4]), (7, [4])] }
def ct140 : Ct := .scal (dom2 tHost tHost (fun a b => True)) (fn2 tHost tHost fun a b => [tBool.enc (decide (a = b))])
attribute [go_sem] E140 ct140 Go.Proofs.Tryz.f140
theorem ok140 : CtOk Tryz.prog Gl 140 ct140 := okA2 (E := E140) (sound_of Tz.tab_ok Tz.mixed AllOk.nil) rfl Tryz.func140 (by kernel_rfl) fun a b fa fb hp => by
  have ga := fa
  have fa := fit_host fa
  have gb := fb
  have fb := fit_host fb
  refine vcFn_intro rfl rfl (by kernel_rfl) rfl ?_
  obtain ⟨a1, a2, a3⟩ := a
  obtain ⟨b1, b2, b3⟩ := b
  repeat (dsimp +instances only [go_sem, Nat.reduceBEq, Nat.reduceAdd, Nat.reduceSub, Nat.reduceLT, Nat.reduceLeDiff]; try simp only [bb, Nat.reduceAdd, Int.reduceToNat, Int.reduceLE, Int.reduceLT, Nat.reduceLT, Nat.reduceMul, Nat.reduceLeDiff])
  try simp only [nn, reduceCtorEq]
  simp only [Host.mk.injEq]
  (repeat' (first | refine And.intro ?_ ?_ | intro _)) <;> try first | omega | trivial
  all_goals grind
def E141 : Env := { T := Tz.tab, G := Gl, C := [], live := [(0, [0, 1]), (1, [0, 1, 10]), (2, [4]), (3, [0, 1, 5]), (4, [0, 1, 5, 14]), (5, [0, 1, 5]), (6, [0, 1, 5, 25]), (7, [4]), (8, [4])] }
def ct141 : Ct := .scal (dom2 tStrs tStrs (fun a b => True)) (fn2 tStrs tStrs fun a b => [tBool.enc (decide (a = b))])
attribute [go_sem] E141 ct141 Go.Proofs.Tryz.f141
theorem ok141 : CtOk Tryz.prog Gl 141 ct141 := okA2 (E := E141) (sound_of Tz.tab_ok Tz.mixed AllOk.nil) rfl Tryz.func141 (by kernel_rfl) fun a b fa fb hp => by
  have ga := fa
  have fa := fit_list fa
  have gb := fb
  have fb := fit_list fb
  refine vcFn_intro rfl rfl (by kernel_rfl) rfl ?_
  repeat (dsimp +instances only [go_sem, Nat.reduceBEq, Nat.reduceAdd, Nat.reduceSub, Nat.reduceLT, Nat.reduceLeDiff]; try simp only [bb, Nat.reduceAdd, Int.reduceToNat, Int.reduceLE, Int.reduceLT, Nat.reduceLT, Nat.reduceMul, Nat.reduceLeDiff])
  try simp only [nn, reduceCtorEq]
  refine ⟨fun h => ?_, fun h => ?_⟩
  · rw [eq_comm, decide_eq_false_iff_not]; rintro rfl; exact h rfl
  refine vcC_loop [0, 1, 5] (fun (i : Nat) => i ≤ a.length ∧ a.take i = b.take i) (fun i => [.cv (.sl 1 (a.map rStr.enc)), .cv (.sl 1 (b.map rStr.enc)), .cv (.int .i64 i)]) (fun _ => []) (fun i => a.length - i) 0 (by simp) ⟨rfl, rfl⟩ ?_
  rintro i ⟨hi, he⟩
  rcases Nat.lt_or_ge i a.length with hlt | hge
  · have hlt2 : i < b.length := by omega
    have hg := getD_at rStr hlt
    have hg2 := getD_at rStr hlt2
    try dsimp +instances only [go_sem, Nat.reduceBEq, Nat.reduceAdd, Nat.reduceSub, Nat.reduceLT, Nat.reduceLeDiff]
    repeat (simp only [hg, hg2, rStr_enc, Int.toNat_natCast, bb, Nat.reduceAdd, Int.reduceToNat, Int.reduceLE, Int.reduceLT, Nat.reduceLT, Nat.reduceMul, Nat.reduceLeDiff]; try dsimp +instances only [go_sem, Nat.reduceBEq, Nat.reduceAdd, Nat.reduceSub, Nat.reduceLT, Nat.reduceLeDiff])
    try simp only [nn, reduceCtorEq, hlt, hlt2, decide_true]
    (repeat' (first | refine And.intro ?_ ?_ | intro _)) <;> try first | omega | trivial
    · rename_i h9
      rw [eq_comm, decide_eq_false_iff_not]; rintro rfl; exact h9 rfl
    · rename_i h9
      refine nextL_intro (i + 1) ⟨by omega, by rw [take_snoc hlt, take_snoc hlt2, he, h9]⟩ (by omega) rfl rfl
  · have : i = a.length := by omega
    subst this
    rw [List.take_length, h, List.take_length] at he
    repeat (dsimp +instances only [go_sem, Nat.reduceBEq, Nat.reduceAdd, Nat.reduceSub, Nat.reduceLT, Nat.reduceLeDiff]; try simp only [bb, Nat.reduceAdd, Int.reduceToNat, Int.reduceLE, Int.reduceLT, Nat.reduceLT, Nat.reduceMul, Nat.reduceLeDiff])
    try simp only [nn, reduceCtorEq, Nat.lt_irrefl]
    simp [he]
def E113 : Env := { T := Tz.tab, G := Gl, C := [(140, ct140), (141, ct141)], live := [(0, [2, 3]), (1, [2, 3, 9]), (2, [4]), (3, [2, 3, 14]), (4, [4]), (5, [2, 3, 19]), (6, [4]), (7, [2, 3, 25]), (8, [4]), (9, [2, 3, 30]), (10, [4]), (11, [2, 3, 36]), (12, [4]), (13, [2, 3, 41]), (14, [4]), (15, [2, 3, 46]), (16, [4]), (17, [2, 3, 51]), (18, [4]), (19, [2, 3, 56]), (20, [4]), (21, [61]), (22, [4]), (23, [4])] }
def ct113 : Ct := .scal (dom2 tUrl tUrl (fun a b => True)) (fn2 tUrl tUrl fun a b => [tBool.enc (decide (a = b))])
attribute [go_sem] E113 ct113 Go.Proofs.Tryz.f113
set_option maxHeartbeats 1000000 in
theorem ok113 : CtOk Tryz.prog Gl 113 ct113 := okA2 (E := E113) (sound_of Tz.tab_ok Tz.mixed (AllOk.cons ok140 (AllOk.cons ok141 AllOk.nil))) rfl Tryz.func113 (by kernel_rfl) fun a b fa fb hp => by
  have ga := fa
  have fa := fit_url fa
  have gb := fb
  have fb := fit_url fb
  refine vcFn_intro rfl rfl (by kernel_rfl) rfl ?_
  repeat (dsimp +instances only [go_sem, Nat.reduceBEq, Nat.reduceAdd, Nat.reduceSub, Nat.reduceLT, Nat.reduceLeDiff]; try simp only [bb, Nat.reduceAdd, Int.reduceToNat, Int.reduceLE, Int.reduceLT, Nat.reduceLT, Nat.reduceMul, Nat.reduceLeDiff])
  try simp only [nn, reduceCtorEq]
  have hne : ∀ {α : Type} (f : Url → α), ¬ f a = f b → false = decide (a = b) := fun f h => by
    rw [eq_comm, decide_eq_false_iff_not]; rintro rfl; exact h rfl
  obtain ⟨a1, a2, a3, a4, a5, a6, a7, a8, a9, a10, a11⟩ := a
  obtain ⟨b1, b2, b3, b4, b5, b6, b7, b8, b9, b10, b11⟩ := b
  simp only [Url.mk.injEq]
  clear ga gb fa fb hne
  (repeat' (first | refine And.intro ?_ ?_ | intro _)) <;> try first | omega | trivial
  all_goals grind
end Go.Gx
end
section
namespace Go.Gx
open Go.Proofs
def E90 : Env := { T := Tz.tab, G := Gl, C := [(113, ct113)], live := [(0, [2, 3]), (1, [2, 3, 9]), (2, [4]), (3, [2, 3, 15]), (4, [4]), (5, [2, 3, 20]), (6, [4]), (7, [2, 3, 25]), (8, [4]), (9, [30]), (10, [4]), (11, [4])] }
def ct90 : Ct := .scal (dom2 tEntry tEntry (fun a b => True)) (fn2 tEntry tEntry fun a b => [tBool.enc (decide (a = b))])
attribute [go_sem] E90 ct90 Go.Proofs.Tryz.f90
set_option maxHeartbeats 1000000 in
theorem ok90 : CtOk Tryz.prog Gl 90 ct90 := okA2 (E := E90) (sound_of Tz.tab_ok Tz.mixed (AllOk.cons ok113 AllOk.nil)) rfl Tryz.func90 (by kernel_rfl) fun a b fa fb hp => by
  have ga := fa
  have fa := fit_entry fa
  have gb := fb
  have fb := fit_entry fb
  refine vcFn_intro rfl rfl (by kernel_rfl) rfl ?_
  repeat (dsimp +instances only [go_sem, Nat.reduceBEq, Nat.reduceAdd, Nat.reduceSub, Nat.reduceLT, Nat.reduceLeDiff]; try simp only [bb, Nat.reduceAdd, Int.reduceToNat, Int.reduceLE, Int.reduceLT, Nat.reduceLT, Nat.reduceMul, Nat.reduceLeDiff])
  try simp only [nn, reduceCtorEq]
  obtain ⟨a0, a1, a2, a3, a4⟩ := a
  obtain ⟨b0, b1, b2, b3, b4⟩ := b
  simp only [Entry.mk.injEq]
  clear ga gb fa fb
  (repeat' (first | refine And.intro ?_ ?_ | intro _)) <;> try first | omega | trivial
  all_goals grind
def E66 : Env := { T := Tz.tab, G := Gl, C := [(90, ct90)], live := [(0, [0, 1]), (1, [0, 1, 10]), (2, [4]), (3, [0, 1, 5]), (4, [0, 1, 5, 14]), (5, [0, 1, 5]), (6, [0, 1, 5, 26]), (7, [4]), (8, [4])] }
def ct66 : Ct := .scal (dom2 tEntryS tEntryS (fun a b => True)) (fn2 tEntryS tEntryS fun a b => [tBool.enc (decide (a = b))])
attribute [go_sem] E66 ct66 Go.Proofs.Tryz.f66
set_option maxHeartbeats 1000000 in
theorem ok66 : CtOk Tryz.prog Gl 66 ct66 := okA2 (E := E66) (sound_of Tz.tab_ok Tz.mixed (AllOk.cons ok90 AllOk.nil)) rfl Tryz.func66 (by kernel_rfl) fun a b fa fb hp => by
  have ga := fa
  have fa := fit_list fa
  have gb := fb
  have fb := fit_list fb
  refine vcFn_intro rfl rfl (by kernel_rfl) rfl ?_
  repeat (dsimp +instances only [go_sem, Nat.reduceBEq, Nat.reduceAdd, Nat.reduceSub, Nat.reduceLT, Nat.reduceLeDiff]; try simp only [bb, Nat.reduceAdd, Int.reduceToNat, Int.reduceLE, Int.reduceLT, Nat.reduceLT, Nat.reduceMul, Nat.reduceLeDiff])
  try simp only [nn, reduceCtorEq]
  refine ⟨fun h => ?_, fun h => ?_⟩
  · rw [eq_comm, decide_eq_false_iff_not]; rintro rfl; exact h rfl
  refine vcC_loop [0, 1, 5] (fun (i : Nat) => i ≤ a.length ∧ a.take i = b.take i) (fun i => [.cv (.sl 17 (a.map rEntry.enc)), .cv (.sl 17 (b.map rEntry.enc)), .cv (.int .i64 i)]) (fun _ => []) (fun i => a.length - i) 0 (by simp) ⟨rfl, rfl⟩ ?_
  rintro i ⟨hi, he⟩
  rcases Nat.lt_or_ge i a.length with hlt | hge
  · have hlt2 : i < b.length := by omega
    have hg := getD_at rEntry hlt
    have hg2 := getD_at rEntry hlt2
    try dsimp +instances only [go_sem, Nat.reduceBEq, Nat.reduceAdd, Nat.reduceSub, Nat.reduceLT, Nat.reduceLeDiff]
    repeat (simp only [hg, hg2, rEntry_enc, Int.toNat_natCast, bb, Nat.reduceAdd, Int.reduceToNat, Int.reduceLE, Int.reduceLT, Nat.reduceLT, Nat.reduceMul, Nat.reduceLeDiff]; try dsimp +instances only [go_sem, Nat.reduceBEq, Nat.reduceAdd, Nat.reduceSub, Nat.reduceLT, Nat.reduceLeDiff])
    try simp only [nn, reduceCtorEq, hlt, hlt2, decide_true]
    (repeat' (first | refine And.intro ?_ ?_ | intro _)) <;> try first | omega | trivial
    all_goals first
    | (rename_i h9; rw [eq_comm, decide_eq_false_iff_not]; rintro rfl; exact h9 rfl)
    | (rename_i h9; exact nextL_intro (i + 1) ⟨by omega, by rw [take_snoc hlt, take_snoc hlt2, he, h9]⟩ (by omega) rfl rfl)
  · have : i = a.length := by omega
    subst this
    rw [List.take_length, h, List.take_length] at he
    repeat (dsimp +instances only [go_sem, Nat.reduceBEq, Nat.reduceAdd, Nat.reduceSub, Nat.reduceLT, Nat.reduceLeDiff]; try simp only [bb, Nat.reduceAdd, Int.reduceToNat, Int.reduceLE, Int.reduceLT, Nat.reduceLT, Nat.reduceMul, Nat.reduceLeDiff])
    try simp only [nn, reduceCtorEq, Nat.lt_irrefl]
    simp [he]
def E43 : Env := { T := Tz.tab, G := Gl, C := [(66, ct66)], live := [(0, [2, 3]), (1, [2, 3, 9]), (2, [4]), (3, [2, 3, 14]), (4, [4]), (5, [2, 3, 20]), (6, [4]), (7, [25]), (8, [4]), (9, [4])] }
def ct43 : Ct := .scal (dom2 tFrame tFrame (fun a b => True)) (fn2 tFrame tFrame fun a b => [tBool.enc (decide (a = b))])
attribute [go_sem] E43 ct43 Go.Proofs.Tryz.f43
set_option maxHeartbeats 1000000 in
theorem ok43 : CtOk Tryz.prog Gl 43 ct43 := okA2 (E := E43) (sound_of Tz.tab_ok Tz.mixed (AllOk.cons ok66 AllOk.nil)) rfl Tryz.func43 (by kernel_rfl) fun a b fa fb hp => by
  have ga := fa
  have fa := fit_frame fa
  have gb := fb
  have fb := fit_frame fb
  refine vcFn_intro rfl rfl (by kernel_rfl) rfl ?_
  repeat (dsimp +instances only [go_sem, Nat.reduceBEq, Nat.reduceAdd, Nat.reduceSub, Nat.reduceLT, Nat.reduceLeDiff]; try simp only [bb, Nat.reduceAdd, Int.reduceToNat, Int.reduceLE, Int.reduceLT, Nat.reduceLT, Nat.reduceMul, Nat.reduceLeDiff])
  try simp only [nn, reduceCtorEq]
  obtain ⟨a0, a1, a2, a3⟩ := a
  obtain ⟨b0, b1, b2, b3⟩ := b
  simp only [Frame.mk.injEq]
  clear ga gb fa fb
  (repeat' (first | refine And.intro ?_ ?_ | intro _)) <;> try first | omega | trivial
  all_goals grind
def E21 : Env := { T := Tz.tab, G := Gl, C := [(43, ct43)], live := [(0, [0, 1]), (1, [0, 1, 10]), (2, [4]), (3, [0, 1, 5]), (4, [0, 1, 5, 14]), (5, [0, 1, 5]), (6, [0, 1, 5, 26]), (7, [4]), (8, [4])] }
def ct21 : Ct := .scal (dom2 tFrameS tFrameS (fun a b => True)) (fn2 tFrameS tFrameS fun a b => [tBool.enc (decide (a = b))])
attribute [go_sem] E21 ct21 Go.Proofs.Tryz.f21
set_option maxHeartbeats 1000000 in
theorem ok21 : CtOk Tryz.prog Gl 21 ct21 := okA2 (E := E21) (sound_of Tz.tab_ok Tz.mixed (AllOk.cons ok43 AllOk.nil)) rfl Tryz.func21 (by kernel_rfl) fun a b fa fb hp => by
  have ga := fa
  have fa := fit_list fa
  have gb := fb
  have fb := fit_list fb
  refine vcFn_intro rfl rfl (by kernel_rfl) rfl ?_
  repeat (dsimp +instances only [go_sem, Nat.reduceBEq, Nat.reduceAdd, Nat.reduceSub, Nat.reduceLT, Nat.reduceLeDiff]; try simp only [bb, Nat.reduceAdd, Int.reduceToNat, Int.reduceLE, Int.reduceLT, Nat.reduceLT, Nat.reduceMul, Nat.reduceLeDiff])
  try simp only [nn, reduceCtorEq]
  refine ⟨fun h => ?_, fun h => ?_⟩
  · rw [eq_comm, decide_eq_false_iff_not]; rintro rfl; exact h rfl
  refine vcC_loop [0, 1, 5] (fun (i : Nat) => i ≤ a.length ∧ a.take i = b.take i) (fun i => [.cv (.sl 4 (a.map rFrame.enc)), .cv (.sl 4 (b.map rFrame.enc)), .cv (.int .i64 i)]) (fun _ => []) (fun i => a.length - i) 0 (by simp) ⟨rfl, rfl⟩ ?_
  rintro i ⟨hi, he⟩
  rcases Nat.lt_or_ge i a.length with hlt | hge
  · have hlt2 : i < b.length := by omega
    have hg := getD_at rFrame hlt
    have hg2 := getD_at rFrame hlt2
    try dsimp +instances only [go_sem, Nat.reduceBEq, Nat.reduceAdd, Nat.reduceSub, Nat.reduceLT, Nat.reduceLeDiff]
    repeat (simp only [hg, hg2, rFrame_enc, Int.toNat_natCast, bb, Nat.reduceAdd, Int.reduceToNat, Int.reduceLE, Int.reduceLT, Nat.reduceLT, Nat.reduceMul, Nat.reduceLeDiff]; try dsimp +instances only [go_sem, Nat.reduceBEq, Nat.reduceAdd, Nat.reduceSub, Nat.reduceLT, Nat.reduceLeDiff])
    try simp only [nn, reduceCtorEq, hlt, hlt2, decide_true]
    (repeat' (first | refine And.intro ?_ ?_ | intro _)) <;> try first | omega | trivial
    all_goals first
    | (rename_i h9; rw [eq_comm, decide_eq_false_iff_not]; rintro rfl; exact h9 rfl)
    | (rename_i h9; exact nextL_intro (i + 1) ⟨by omega, by rw [take_snoc hlt, take_snoc hlt2, he, h9]⟩ (by omega) rfl rfl)
  · have : i = a.length := by omega
    subst this
    rw [List.take_length, h, List.take_length] at he
    repeat (dsimp +instances only [go_sem, Nat.reduceBEq, Nat.reduceAdd, Nat.reduceSub, Nat.reduceLT, Nat.reduceLeDiff]; try simp only [bb, Nat.reduceAdd, Int.reduceToNat, Int.reduceLE, Int.reduceLT, Nat.reduceLT, Nat.reduceMul, Nat.reduceLeDiff])
    try simp only [nn, reduceCtorEq, Nat.lt_irrefl]
    simp [he]
def E9 : Env := { T := Tz.tab, G := Gl, C := [(21, ct21)], live := [(0, [2, 3]), (1, [2, 3, 10]), (2, [4]), (3, [2, 3, 15]), (4, [4]), (5, [2, 3, 20]), (6, [4]), (7, [25]), (8, [4]), (9, [4])] }
def ct9 : Ct := .scal (dom2 tWindow tWindow (fun a b => True)) (fn2 tWindow tWindow fun a b => [tBool.enc (decide (a = b))])
attribute [go_sem] E9 ct9 Go.Proofs.Tryz.f9
set_option maxHeartbeats 1000000 in
theorem ok9 : CtOk Tryz.prog Gl 9 ct9 := okA2 (E := E9) (sound_of Tz.tab_ok Tz.mixed (AllOk.cons ok21 AllOk.nil)) rfl Tryz.func9 (by kernel_rfl) fun a b fa fb hp => by
  have ga := fa
  have fa := fit_window fa
  have gb := fb
  have fb := fit_window fb
  refine vcFn_intro rfl rfl (by kernel_rfl) rfl ?_
  repeat (dsimp +instances only [go_sem, Nat.reduceBEq, Nat.reduceAdd, Nat.reduceSub, Nat.reduceLT, Nat.reduceLeDiff]; try simp only [bb, Nat.reduceAdd, Int.reduceToNat, Int.reduceLE, Int.reduceLT, Nat.reduceLT, Nat.reduceMul, Nat.reduceLeDiff])
  try simp only [nn, reduceCtorEq]
  obtain ⟨a0, a1, a2, a3⟩ := a
  obtain ⟨b0, b1, b2, b3⟩ := b
  simp only [Window.mk.injEq]
  clear ga gb fa fb
  (repeat' (first | refine And.intro ?_ ?_ | intro _)) <;> try first | omega | trivial
  all_goals grind
end Go.Gx
end
section
namespace Go.Gx
open Go.Proofs
theorem markStrs_idem : ∀ (l : List Str) (k : Int), (markStrs (markStrs l k).1 k).1 = (markStrs l k).1
  | [], _ => rfl
  | _ :: r, k => by simp only [markStrs, markStrs_idem r]
theorem markEntry_idem (e : Entry) (k : Int) : markEntry (markEntry e k).1 k = markEntry e k := by
  simp only [markEntry, markStrs_idem, markStrs_snd, markStrs_len]
theorem markEntries_idem : ∀ (l : List Entry) (k : Int), (markEntries (markEntries l k).1 k).1 = (markEntries l k).1
  | [], _ => rfl
  | e :: r, k => by simp only [markEntries, markEntry_idem, markEntries_idem r]
theorem cntEntries_mark : ∀ (l : List Entry) (k : Int), cntEntries (markEntries l k).1 = cntEntries l
  | [], _ => rfl
  | e :: r, k => by simp only [markEntries, cntEntries, cntEntries_mark r, markEntry, markStrs_len]
theorem markFrame_idem (e : Frame) (k : Int) : markFrame (markFrame e k).1 k = markFrame e k := by
  simp only [markFrame, markEntries_idem, markEntries_snd, cntEntries_mark]
theorem markFrames_idem : ∀ (l : List Frame) (k : Int), (markFrames (markFrames l k).1 k).1 = (markFrames l k).1
  | [], _ => rfl
  | e :: r, k => by simp only [markFrames, markFrame_idem, markFrames_idem r]
theorem cntFrames_mark : ∀ (l : List Frame) (k : Int), cntFrames (markFrames l k).1 = cntFrames l
  | [], _ => rfl
  | e :: r, k => by simp only [markFrames, cntFrames, cntFrames_mark r, markFrame, cntEntries_mark]
theorem take_mk {α β : Type} (f : α → β) (l m : List α) (h : m.length = l.length) : List.take l.length (m.map f) = m.map f := List.take_of_length_le (by simp [h])
theorem take_frames {β : Type} (f : Frame → β) (l : List Frame) (k : Int) : List.take l.length ((markFrames l k).1.map f) = (markFrames l k).1.map f := take_mk f _ _ (markFrames_len l k)
theorem take_strs {β : Type} (f : Str → β) (l : List Str) (k : Int) : List.take l.length ((markStrs l k).1.map f) = (markStrs l k).1.map f := take_mk f _ _ (markStrs_len l k)
theorem ex_enc {α : Type} (R : Rw α) (l : List α) : (∃ x : List α, l.map R.enc = x.map R.enc) = True := eq_true ⟨l, rfl⟩
theorem pathPut_len : ∀ l : List Str, (PathPut l).length = l.length + sumL l
  | [] => rfl
  | s :: r => by simp [PathPut, pathPut_len r, sumL]; omega
theorem szTo_ok {n left : Int} (h : ¬ szTo n left < 0) (hl : 0 ≤ left) : n ≤ left := by
  unfold szTo at h; split at h <;> omega
end Go.Gx
end
section
namespace Go.Gx
open Go.Proofs
def zEntry : List CV := [.int .i64 0, .str [], .str [], .str [], .int .i64 0, .str [], .int .i64 0, .int .i64 0, .sl 1 [], .str [], .bool false, .str [], .bool false, .str [], .int .i64 0, .int .i64 0, .str []]
def zFrame : List CV := [.int .i64 0, .str [], .sl 17 [], .bool false]
theorem zEntry_len : zEntry.length = 17 := rfl
theorem zEntry_drop : zEntry.drop 17 = [] := rfl
theorem zFrame_len : zFrame.length = 4 := rfl
theorem zFrame_drop : zFrame.drop 4 = [] := rfl
theorem szTo_cases (n left : Int) : (left - n < 0 ∧ szTo n left = -1) ∨ (0 ≤ left - n ∧ szTo n left = left - n) := by
  unfold szTo; split <;> omega
def urlC (u : Url) : Int := u.Scheme.length + u.User.length + u.Pass.length + u.Host.Name.length + (u.Path.length + sumL u.Path) + u.Opaque.length + u.Query.length + u.Frag.length
def entC (e : Entry) : Int := urlC e.Url + e.State.length
def sumE : List Entry → Int
  | [] => 0
  | e :: r => entC e + sumE r
def frmC (f : Frame) : Int := f.Name.length + (f.Hist.length + sumE f.Hist)
def sumF : List Frame → Int
  | [] => 0
  | f :: r => frmC f + sumF r
theorem urlC_nn (u : Url) : 0 ≤ urlC u := by unfold urlC; omega
theorem entC_nn (e : Entry) : 0 ≤ entC e := by have := urlC_nn e.Url; unfold entC; omega
theorem sumE_nn : ∀ l : List Entry, 0 ≤ sumE l
  | [] => Int.le_refl 0
  | e :: r => by have := entC_nn e; have := sumE_nn r; rw [sumE]; omega
theorem frmC_nn (f : Frame) : 0 ≤ frmC f := by have := sumE_nn f.Hist; unfold frmC; omega
theorem sumF_nn : ∀ l : List Frame, 0 ≤ sumF l
  | [] => Int.le_refl 0
  | f :: r => by have := frmC_nn f; have := sumF_nn r; rw [sumF]; omega
def winC (w : Window) : Int := w.Frames.length + sumF w.Frames
theorem sumE_mem : ∀ (l : List Entry), ∀ e ∈ l, entC e ≤ sumE l
  | a :: r, e, he => by
    have := entC_nn a; have := sumE_nn r
    rw [sumE]
    rcases List.mem_cons.1 he with rfl | he
    · omega
    · have := sumE_mem r e he; omega
theorem sumF_mem : ∀ (l : List Frame), ∀ f ∈ l, frmC f ≤ sumF l
  | a :: r, e, he => by
    have := frmC_nn a; have := sumF_nn r
    rw [sumF]
    rcases List.mem_cons.1 he with rfl | he
    · omega
    · have := sumF_mem r e he; omega
def E85 : Env := { T := Tz.tab, G := Gl, C := [(108, ct108)], live := [(0, [1, 2]), (1, [1, 2]), (2, [1, 2, 10]), (3, [4]), (4, [1]), (5, [1, 17]), (6, [4]), (7, [4])] }
def ct85 : Ct := .scal (dom2 tEntry tInt (fun a left => 0 ≤ left ∧ left ≤ 1048576)) (fn2 tEntry tInt fun a left => [tInt.enc (szTo (entC a) left)])
attribute [go_sem] E85 ct85 Go.Proofs.Tryz.f85
theorem ok85 : CtOk Tryz.prog Gl 85 ct85 := okA2 (E := E85) (sound_of Tz.tab_ok Tz.mixed (AllOk.cons ok108 AllOk.nil)) rfl Tryz.func85 (by kernel_rfl) fun a left fa fleft hp => by
  have ga := fa
  have fa := fit_entry fa
  have fleft := fit_int fleft
  refine vcFn_intro rfl rfl (by kernel_rfl) rfl ?_
  have h1 := szTo_cases (urlC a.Url) left
  have h2 := szTo_cases (entC a) left
  have h3 : entC a = urlC a.Url + a.State.length := rfl
  have h4 := urlC_nn a.Url
  simp only [urlC] at h1 h3 h4
  cases fa
  repeat (dsimp +instances only [go_sem, Nat.reduceBEq, Nat.reduceAdd, Nat.reduceSub, Nat.reduceLT, Nat.reduceLeDiff]; try simp only [bb, Nat.reduceAdd, Int.reduceToNat, Int.reduceLE, Int.reduceLT, Nat.reduceLT, Nat.reduceMul, Nat.reduceLeDiff])
  try simp only [nn, reduceCtorEq]
  (repeat' (first | refine And.intro ?_ ?_ | intro _)) <;> try first | omega | trivial
  all_goals grind
def E60 : Env := { T := Tz.tab, G := Gl, C := [(85, ct85)], live := [(0, [0, 1]), (1, [0, 1]), (2, [0, 1, 11]), (3, [4]), (4, [0, 1, 5]), (5, [0, 1, 5, 15]), (6, [0, 1, 5]), (7, [0, 1, 5]), (8, [0, 1, 5, 25]), (9, [4]), (10, [4])] }
def ct60 : Ct := .scal (dom2 tEntryS tInt (fun a left => 0 ≤ left ∧ left ≤ 1048576)) (fn2 tEntryS tInt fun a left => [tInt.enc (szTo (a.length + sumE a) left)])
attribute [go_sem] E60 ct60 Go.Proofs.Tryz.f60
theorem ok60 : CtOk Tryz.prog Gl 60 ct60 := okA2 (E := E60) (sound_of Tz.tab_ok Tz.mixed (AllOk.cons ok85 AllOk.nil)) rfl Tryz.func60 (by kernel_rfl) fun a left fa fleft hp => by
  have ga := fa
  have fa := fit_list fa
  have fleft := fit_int fleft
  refine vcFn_intro rfl rfl (by kernel_rfl) rfl ?_
  obtain ⟨hp0, hp1⟩ := hp
  have hnn := sumE_nn a
  repeat (dsimp +instances only [go_sem, Nat.reduceBEq, Nat.reduceAdd, Nat.reduceSub, Nat.reduceLT, Nat.reduceLeDiff]; try simp only [bb, Nat.reduceAdd, Int.reduceToNat, Int.reduceLE, Int.reduceLT, Nat.reduceLT, Nat.reduceMul, Nat.reduceLeDiff])
  try simp only [nn, reduceCtorEq]
  refine ⟨by omega, fun h => by rw [szTo, if_pos (by omega)], fun h => ?_⟩
  refine vcC_loop [0, 1, 5] (fun (x : Nat × Int) => x.1 ≤ a.length ∧ 0 ≤ x.2 ∧ x.2 ≤ 1048576 ∧ x.2 - sumE (a.drop x.1) = left - (a.length + sumE a)) (fun x => [.cv (.sl 17 (a.map rEntry.enc)), .cv (.int .i64 x.2), .cv (.int .i64 x.1)]) (fun _ => []) (fun x => a.length - x.1) (0, left - a.length) ⟨by simp, by simp only; omega, by simp only; omega, by simp only [List.drop_zero]; omega⟩ ⟨rfl, rfl⟩ ?_
  rintro ⟨i, q⟩ ⟨hi, hq, hq2, he⟩
  simp only at hi hq hq2 he
  rcases Nat.lt_or_ge i a.length with hlt | hge
  · have hg := getD_at rEntry hlt
    rw [List.drop_eq_getElem_cons hlt, sumE] at he
    have hn1 := entC_nn a[i]
    have hn2 := sumE_nn (a.drop (i + 1))
    have hst := szTo_cases (entC a[i]) q
    generalize a[i] = e at *
    try dsimp +instances only [go_sem, Nat.reduceBEq, Nat.reduceAdd, Nat.reduceSub, Nat.reduceLT, Nat.reduceLeDiff]
    repeat (simp only [hg, rEntry_enc, Int.toNat_natCast, bb, Nat.reduceAdd, Int.reduceToNat, Int.reduceLE, Int.reduceLT, Nat.reduceLT, Nat.reduceMul, Nat.reduceLeDiff]; try dsimp +instances only [go_sem, Nat.reduceBEq, Nat.reduceAdd, Nat.reduceSub, Nat.reduceLT, Nat.reduceLeDiff])
    try simp only [nn, reduceCtorEq, hlt, decide_true]
    refine ⟨⟨by omega, by omega⟩, fun h => ?_, fun h => ⟨by omega, nextL_intro (i + 1, szTo (entC e) q) ⟨by simp only; omega, by simp only; omega, by simp only; omega, by simp only; omega⟩ (by simp only; omega) rfl rfl⟩⟩
    rw [szTo, if_pos (by omega)]
  · have : i = a.length := by omega
    subst this
    rw [List.drop_length, sumE] at he
    repeat (dsimp +instances only [go_sem, Nat.reduceBEq, Nat.reduceAdd, Nat.reduceSub, Nat.reduceLT, Nat.reduceLeDiff]; try simp only [bb, Nat.reduceAdd, Int.reduceToNat, Int.reduceLE, Int.reduceLT, Nat.reduceLT, Nat.reduceMul, Nat.reduceLeDiff])
    try simp only [nn, reduceCtorEq, Nat.lt_irrefl]
    rw [szTo, if_neg (by omega)]; omega
def E33 : Env := { T := Tz.tab, G := Gl, C := [(60, ct60)], live := [(0, [1, 2]), (1, [1, 2]), (2, [1, 2, 11]), (3, [4]), (4, [1]), (5, [1, 17]), (6, [4]), (7, [4])] }
def ct33 : Ct := .scal (dom2 tFrame tInt (fun a left => 0 ≤ left ∧ left ≤ 1048576)) (fn2 tFrame tInt fun a left => [tInt.enc (szTo (frmC a) left)])
attribute [go_sem] E33 ct33 Go.Proofs.Tryz.f33
theorem ok33 : CtOk Tryz.prog Gl 33 ct33 := okA2 (E := E33) (sound_of Tz.tab_ok Tz.mixed (AllOk.cons ok60 AllOk.nil)) rfl Tryz.func33 (by kernel_rfl) fun a left fa fleft hp => by
  have ga := fa
  have fa := fit_frame fa
  have fleft := fit_int fleft
  refine vcFn_intro rfl rfl (by kernel_rfl) rfl ?_
  have h1 := szTo_cases (a.Hist.length + sumE a.Hist) (left - a.Name.length)
  have h2 := szTo_cases (frmC a) left
  have h3 : frmC a = a.Name.length + (a.Hist.length + sumE a.Hist) := rfl
  have h4 := sumE_nn a.Hist
  cases fa
  repeat (dsimp +instances only [go_sem, Nat.reduceBEq, Nat.reduceAdd, Nat.reduceSub, Nat.reduceLT, Nat.reduceLeDiff]; try simp only [bb, Nat.reduceAdd, Int.reduceToNat, Int.reduceLE, Int.reduceLT, Nat.reduceLT, Nat.reduceMul, Nat.reduceLeDiff])
  try simp only [nn, reduceCtorEq]
  (repeat' (first | refine And.intro ?_ ?_ | intro _)) <;> try first | omega | trivial
  all_goals grind
def E14 : Env := { T := Tz.tab, G := Gl, C := [(33, ct33)], live := [(0, [0, 1]), (1, [0, 1]), (2, [0, 1, 11]), (3, [4]), (4, [0, 1, 5]), (5, [0, 1, 5, 15]), (6, [0, 1, 5]), (7, [0, 1, 5]), (8, [0, 1, 5, 25]), (9, [4]), (10, [4])] }
def ct14 : Ct := .scal (dom2 tFrameS tInt (fun a left => 0 ≤ left ∧ left ≤ 1048576)) (fn2 tFrameS tInt fun a left => [tInt.enc (szTo (a.length + sumF a) left)])
attribute [go_sem] E14 ct14 Go.Proofs.Tryz.f14
theorem ok14 : CtOk Tryz.prog Gl 14 ct14 := okA2 (E := E14) (sound_of Tz.tab_ok Tz.mixed (AllOk.cons ok33 AllOk.nil)) rfl Tryz.func14 (by kernel_rfl) fun a left fa fleft hp => by
  have ga := fa
  have fa := fit_list fa
  have fleft := fit_int fleft
  refine vcFn_intro rfl rfl (by kernel_rfl) rfl ?_
  obtain ⟨hp0, hp1⟩ := hp
  have hnn := sumF_nn a
  repeat (dsimp +instances only [go_sem, Nat.reduceBEq, Nat.reduceAdd, Nat.reduceSub, Nat.reduceLT, Nat.reduceLeDiff]; try simp only [bb, Nat.reduceAdd, Int.reduceToNat, Int.reduceLE, Int.reduceLT, Nat.reduceLT, Nat.reduceMul, Nat.reduceLeDiff])
  try simp only [nn, reduceCtorEq]
  refine ⟨by omega, fun h => by rw [szTo, if_pos (by omega)], fun h => ?_⟩
  refine vcC_loop [0, 1, 5] (fun (x : Nat × Int) => x.1 ≤ a.length ∧ 0 ≤ x.2 ∧ x.2 ≤ 1048576 ∧ x.2 - sumF (a.drop x.1) = left - (a.length + sumF a)) (fun x => [.cv (.sl 4 (a.map rFrame.enc)), .cv (.int .i64 x.2), .cv (.int .i64 x.1)]) (fun _ => []) (fun x => a.length - x.1) (0, left - a.length) ⟨by simp, by simp only; omega, by simp only; omega, by simp only [List.drop_zero]; omega⟩ ⟨rfl, rfl⟩ ?_
  rintro ⟨i, q⟩ ⟨hi, hq, hq2, he⟩
  simp only at hi hq hq2 he
  rcases Nat.lt_or_ge i a.length with hlt | hge
  · have hg := getD_at rFrame hlt
    rw [List.drop_eq_getElem_cons hlt, sumF] at he
    have hn1 := frmC_nn a[i]
    have hn2 := sumF_nn (a.drop (i + 1))
    have hst := szTo_cases (frmC a[i]) q
    generalize a[i] = e at *
    try dsimp +instances only [go_sem, Nat.reduceBEq, Nat.reduceAdd, Nat.reduceSub, Nat.reduceLT, Nat.reduceLeDiff]
    repeat (simp only [hg, rFrame_enc, Int.toNat_natCast, bb, Nat.reduceAdd, Int.reduceToNat, Int.reduceLE, Int.reduceLT, Nat.reduceLT, Nat.reduceMul, Nat.reduceLeDiff]; try dsimp +instances only [go_sem, Nat.reduceBEq, Nat.reduceAdd, Nat.reduceSub, Nat.reduceLT, Nat.reduceLeDiff])
    try simp only [nn, reduceCtorEq, hlt, decide_true]
    refine ⟨⟨by omega, by omega⟩, fun h => ?_, fun h => ⟨by omega, nextL_intro (i + 1, szTo (frmC e) q) ⟨by simp only; omega, by simp only; omega, by simp only; omega, by simp only; omega⟩ (by simp only; omega) rfl rfl⟩⟩
    rw [szTo, if_pos (by omega)]
  · have : i = a.length := by omega
    subst this
    rw [List.drop_length, sumF] at he
    repeat (dsimp +instances only [go_sem, Nat.reduceBEq, Nat.reduceAdd, Nat.reduceSub, Nat.reduceLT, Nat.reduceLeDiff]; try simp only [bb, Nat.reduceAdd, Int.reduceToNat, Int.reduceLE, Int.reduceLT, Nat.reduceLT, Nat.reduceMul, Nat.reduceLeDiff])
    try simp only [nn, reduceCtorEq, Nat.lt_irrefl]
    rw [szTo, if_neg (by omega)]; omega
def E5 : Env := { T := Tz.tab, G := Gl, C := [(14, ct14)], live := [(0, [1, 2]), (1, [1]), (2, [1, 10]), (3, [4]), (4, [4])] }
def ct5 : Ct := .scal (dom2 tWindow tInt (fun a left => 0 ≤ left ∧ left ≤ 1048576)) (fn2 tWindow tInt fun a left => [tInt.enc (szTo (winC a) left)])
attribute [go_sem] E5 ct5 Go.Proofs.Tryz.f5
theorem ok5 : CtOk Tryz.prog Gl 5 ct5 := okA2 (E := E5) (sound_of Tz.tab_ok Tz.mixed (AllOk.cons ok14 AllOk.nil)) rfl Tryz.func5 (by kernel_rfl) fun a left fa fleft hp => by
  have ga := fa
  have fa := fit_window fa
  have fleft := fit_int fleft
  refine vcFn_intro rfl rfl (by kernel_rfl) rfl ?_
  have h1 := szTo_cases (winC a) left
  have h2 : winC a = a.Frames.length + sumF a.Frames := rfl
  repeat (dsimp +instances only [go_sem, Nat.reduceBEq, Nat.reduceAdd, Nat.reduceSub, Nat.reduceLT, Nat.reduceLeDiff]; try simp only [bb, Nat.reduceAdd, Int.reduceToNat, Int.reduceLE, Int.reduceLT, Nat.reduceLT, Nat.reduceMul, Nat.reduceLeDiff])
  try simp only [nn, reduceCtorEq]
  (repeat' (first | refine And.intro ?_ ?_ | intro _)) <;> try first | omega | trivial
  all_goals grind
def E89 : Env := { T := Tz.tab, G := Gl, C := [(112, ct112)], live := [(0, [1, 2]), (1, [1, 2, 3]), (2, [1, 2, 3]), (3, [1, 2, 3]), (4, [1, 2, 3]), (5, [1, 2, 3]), (6, [2, 3]), (7, [2])] }
def ct89 : Ct := .pure (dom1 tEntry (fun a => True)) (fn1 tEntry fun a => [tEntry.enc a])
attribute [go_sem] E89 ct89 Go.Proofs.Tryz.f89
theorem ok89 : CtOk Tryz.prog Gl 89 ct89 := okA1 (E := E89) (sound_of Tz.tab_ok Tz.mixed (AllOk.cons ok112 AllOk.nil)) rfl Tryz.func89 (by kernel_rfl) fun a fa hp => by
  have ga := fa
  have fa := fit_entry fa
  refine vcFn_intro rfl rfl (by kernel_rfl) rfl ?_
  repeat (dsimp +instances only [go_sem, Nat.reduceBEq, Nat.reduceAdd, Nat.reduceSub, Nat.reduceLT, Nat.reduceLeDiff]; try simp only [bb, Nat.reduceAdd, Int.reduceToNat, Int.reduceLE, Int.reduceLT, Nat.reduceLT, Nat.reduceMul, Nat.reduceLeDiff])
  try simp only [nn, reduceCtorEq]
def E65 : Env := { T := Tz.tab, G := Gl, C := [(89, ct89)], live := [(0, [0]), (1, [0, 3]), (2, [0, 3, 4]), (3, [0, 3, 4, 11]), (4, [0, 3, 4]), (5, [0, 3, 4]), (6, [2])] }
def ct65 : Ct := .pure (dom1 tEntryS (fun a => True)) (fn1 tEntryS fun a => [tEntryS.enc a])
attribute [go_sem] E65 ct65 Go.Proofs.Tryz.f65
set_option maxHeartbeats 2000000 in
theorem ok65 : CtOk Tryz.prog Gl 65 ct65 := okA1 (E := E65) (sound_of Tz.tab_ok Tz.mixed (AllOk.cons ok89 AllOk.nil)) rfl Tryz.func65 (by kernel_rfl) fun a fa hp => by
  have ga := fa
  have fa := fit_list fa
  refine vcFn_intro rfl rfl (by kernel_rfl) rfl ?_
  repeat (dsimp +instances only [go_sem, Nat.reduceBEq, Nat.reduceAdd, Nat.reduceSub, Nat.reduceLT, Nat.reduceLeDiff]; try simp only [bb, Nat.reduceAdd, Int.reduceToNat, Int.reduceLE, Int.reduceLT, Nat.reduceLT, Nat.reduceMul, Nat.reduceLeDiff])
  try simp only [nn, reduceCtorEq]
  refine ⟨by omega, by omega, ?_⟩
  refine vcC_loop [0, 3, 4] (fun (i : Nat) => i ≤ a.length) (fun i => [.cv (.sl 17 (a.map rEntry.enc)), .pth 0 17 0 a.length, .cv (.int .i64 i)]) (fun i => [.row 17 ((a.take i).map rEntry.enc ++ List.replicate (a.length - i) zEntry) []]) (fun i => a.length - i) 0 (by simp) ⟨rfl, rfl⟩ ?_
  intro i hi
  rcases Nat.lt_or_ge i a.length with hlt | hge
  · have hg := getD_at rEntry hlt
    have hr : List.replicate (a.length - i) zEntry = zEntry :: List.replicate (a.length - (i + 1)) zEntry := by rw [show a.length - i = (a.length - (i + 1)) + 1 by omega]; rfl
    have hl : (a.take i).length = i := by simp; omega
    have htk := take_snoc hlt
    rw [hr]
    generalize a[i] = e at *
    generalize hrest : List.replicate (a.length - (i + 1)) zEntry = rest at *
    have g1 : ((a.take i).map rEntry.enc ++ zEntry :: rest).getD i [] = zEntry := by
      have := getD_mmid rEntry.enc (a.take i) rest zEntry []
      rwa [hl] at this
    have g2 : ∀ y, ((a.take i).map rEntry.enc ++ zEntry :: rest).set i y = (a.take i).map rEntry.enc ++ y :: rest := fun y => by
      have := set_mmid rEntry.enc (a.take i) rest zEntry y
      rwa [hl] at this
    try dsimp +instances only [go_sem, Nat.reduceBEq, Nat.reduceAdd, Nat.reduceSub, Nat.reduceLT, Nat.reduceLeDiff]
    repeat (simp only [hg, rEntry_enc, Int.toNat_natCast, g1, g2, zEntry_len, zEntry_drop, bb, Nat.reduceAdd, Int.reduceToNat, Int.reduceLE, Int.reduceLT, Nat.reduceLT, Nat.reduceMul, Nat.reduceLeDiff]; try dsimp +instances only [go_sem, Nat.reduceBEq, Nat.reduceAdd, Nat.reduceSub, Nat.reduceLT, Nat.reduceLeDiff])
    try simp only [nn, reduceCtorEq, hlt, decide_true]
    have hrl : rest.length = a.length - (i + 1) := by rw [← hrest]; simp
    refine ⟨by rw [hl]; omega, by omega, nextL_intro (i + 1) (by omega) (by omega) rfl ?_⟩
    simp only [htk, List.map_append, List.map_cons, List.map_nil, List.append_assoc, hrest]
    rfl
  · have : i = a.length := by omega
    subst this
    repeat (dsimp +instances only [go_sem, Nat.reduceBEq, Nat.reduceAdd, Nat.reduceSub, Nat.reduceLT, Nat.reduceLeDiff]; try simp only [bb, Nat.reduceAdd, Int.reduceToNat, Int.reduceLE, Int.reduceLT, Nat.reduceLT, Nat.reduceMul, Nat.reduceLeDiff])
    try simp only [nn, reduceCtorEq, Nat.lt_irrefl]
    refine fun _ => ⟨by omega, ?_⟩
    rw [Nat.sub_self, List.replicate_zero, List.append_nil, List.take_of_length_le (by simp)]
def E41 : Env := { T := Tz.tab, G := Gl, C := [(65, ct65)], live := [(0, [1, 2]), (1, [1, 2, 3]), (2, [1, 2, 3]), (3, [1, 2, 3]), (4, [1, 2, 3]), (5, [2, 3]), (6, [2])] }
def ct41 : Ct := .pure (dom1 tFrame (fun a => True)) (fn1 tFrame fun a => [tFrame.enc a])
attribute [go_sem] E41 ct41 Go.Proofs.Tryz.f41
theorem ok41 : CtOk Tryz.prog Gl 41 ct41 := okA1 (E := E41) (sound_of Tz.tab_ok Tz.mixed (AllOk.cons ok65 AllOk.nil)) rfl Tryz.func41 (by kernel_rfl) fun a fa hp => by
  have ga := fa
  have fa := fit_frame fa
  refine vcFn_intro rfl rfl (by kernel_rfl) rfl ?_
  repeat (dsimp +instances only [go_sem, Nat.reduceBEq, Nat.reduceAdd, Nat.reduceSub, Nat.reduceLT, Nat.reduceLeDiff]; try simp only [bb, Nat.reduceAdd, Int.reduceToNat, Int.reduceLE, Int.reduceLT, Nat.reduceLT, Nat.reduceMul, Nat.reduceLeDiff])
  try simp only [nn, reduceCtorEq]
def E18 : Env := { T := Tz.tab, G := Gl, C := [(41, ct41)], live := [(0, [0]), (1, [0, 3]), (2, [0, 3, 4]), (3, [0, 3, 4, 11]), (4, [0, 3, 4]), (5, [0, 3, 4]), (6, [2])] }
def ct18 : Ct := .pure (dom1 tFrameS (fun a => True)) (fn1 tFrameS fun a => [tFrameS.enc a])
attribute [go_sem] E18 ct18 Go.Proofs.Tryz.f18
set_option maxHeartbeats 2000000 in
theorem ok18 : CtOk Tryz.prog Gl 18 ct18 := okA1 (E := E18) (sound_of Tz.tab_ok Tz.mixed (AllOk.cons ok41 AllOk.nil)) rfl Tryz.func18 (by kernel_rfl) fun a fa hp => by
  have ga := fa
  have fa := fit_list fa
  refine vcFn_intro rfl rfl (by kernel_rfl) rfl ?_
  repeat (dsimp +instances only [go_sem, Nat.reduceBEq, Nat.reduceAdd, Nat.reduceSub, Nat.reduceLT, Nat.reduceLeDiff]; try simp only [bb, Nat.reduceAdd, Int.reduceToNat, Int.reduceLE, Int.reduceLT, Nat.reduceLT, Nat.reduceMul, Nat.reduceLeDiff])
  try simp only [nn, reduceCtorEq]
  refine ⟨by omega, by omega, ?_⟩
  refine vcC_loop [0, 3, 4] (fun (i : Nat) => i ≤ a.length) (fun i => [.cv (.sl 4 (a.map rFrame.enc)), .pth 0 4 0 a.length, .cv (.int .i64 i)]) (fun i => [.row 4 ((a.take i).map rFrame.enc ++ List.replicate (a.length - i) zFrame) []]) (fun i => a.length - i) 0 (by simp) ⟨rfl, rfl⟩ ?_
  intro i hi
  rcases Nat.lt_or_ge i a.length with hlt | hge
  · have hg := getD_at rFrame hlt
    have hr : List.replicate (a.length - i) zFrame = zFrame :: List.replicate (a.length - (i + 1)) zFrame := by rw [show a.length - i = (a.length - (i + 1)) + 1 by omega]; rfl
    have hl : (a.take i).length = i := by simp; omega
    have htk := take_snoc hlt
    rw [hr]
    generalize a[i] = e at *
    generalize hrest : List.replicate (a.length - (i + 1)) zFrame = rest at *
    have g1 : ((a.take i).map rFrame.enc ++ zFrame :: rest).getD i [] = zFrame := by
      have := getD_mmid rFrame.enc (a.take i) rest zFrame []
      rwa [hl] at this
    have g2 : ∀ y, ((a.take i).map rFrame.enc ++ zFrame :: rest).set i y = (a.take i).map rFrame.enc ++ y :: rest := fun y => by
      have := set_mmid rFrame.enc (a.take i) rest zFrame y
      rwa [hl] at this
    try dsimp +instances only [go_sem, Nat.reduceBEq, Nat.reduceAdd, Nat.reduceSub, Nat.reduceLT, Nat.reduceLeDiff]
    repeat (simp only [hg, rFrame_enc, Int.toNat_natCast, g1, g2, zFrame_len, zFrame_drop, bb, Nat.reduceAdd, Int.reduceToNat, Int.reduceLE, Int.reduceLT, Nat.reduceLT, Nat.reduceMul, Nat.reduceLeDiff]; try dsimp +instances only [go_sem, Nat.reduceBEq, Nat.reduceAdd, Nat.reduceSub, Nat.reduceLT, Nat.reduceLeDiff])
    try simp only [nn, reduceCtorEq, hlt, decide_true]
    have hrl : rest.length = a.length - (i + 1) := by rw [← hrest]; simp
    refine ⟨by rw [hl]; omega, by omega, nextL_intro (i + 1) (by omega) (by omega) rfl ?_⟩
    simp only [htk, List.map_append, List.map_cons, List.map_nil, List.append_assoc, hrest]
    rfl
  · have : i = a.length := by omega
    subst this
    repeat (dsimp +instances only [go_sem, Nat.reduceBEq, Nat.reduceAdd, Nat.reduceSub, Nat.reduceLT, Nat.reduceLeDiff]; try simp only [bb, Nat.reduceAdd, Int.reduceToNat, Int.reduceLE, Int.reduceLT, Nat.reduceLT, Nat.reduceMul, Nat.reduceLeDiff])
    try simp only [nn, reduceCtorEq, Nat.lt_irrefl]
    refine fun _ => ⟨by omega, ?_⟩
    rw [Nat.sub_self, List.replicate_zero, List.append_nil, List.take_of_length_le (by simp)]
def E7 : Env := { T := Tz.tab, G := Gl, C := [(18, ct18)], live := [(0, [1, 2]), (1, [1, 2, 3]), (2, [1, 2, 3]), (3, [1, 2, 3]), (4, [1, 2, 3]), (5, [2, 3]), (6, [2])] }
def ct7 : Ct := .pure (dom1 tWindow (fun a => True)) (fn1 tWindow fun a => [tWindow.enc a])
attribute [go_sem] E7 ct7 Go.Proofs.Tryz.f7
theorem ok7 : CtOk Tryz.prog Gl 7 ct7 := okA1 (E := E7) (sound_of Tz.tab_ok Tz.mixed (AllOk.cons ok18 AllOk.nil)) rfl Tryz.func7 (by kernel_rfl) fun a fa hp => by
  have ga := fa
  have fa := fit_window fa
  refine vcFn_intro rfl rfl (by kernel_rfl) rfl ?_
  repeat (dsimp +instances only [go_sem, Nat.reduceBEq, Nat.reduceAdd, Nat.reduceSub, Nat.reduceLT, Nat.reduceLeDiff]; try simp only [bb, Nat.reduceAdd, Int.reduceToNat, Int.reduceLE, Int.reduceLT, Nat.reduceLT, Nat.reduceMul, Nat.reduceLeDiff])
  try simp only [nn, reduceCtorEq]
end Go.Gx
end
section
namespace Go.Gx
open Go.Proofs
def E63 : Env := { T := Tz.tab, G := Gl, C := [(87, ct87)], live := [(0, [1, 2]), (1, [1, 2]), (2, [2])] }
def ct63 : Ct := .pure (dom1 tEntry (fun e => True)) (fn1 tEntry fun e => [tEntry.enc e])
attribute [go_sem] E63 ct63 Go.Proofs.Tryz.f63
theorem ok63 : CtOk Tryz.prog Gl 63 ct63 := okA1 (E := E63) (sound_of Tz.tab_ok Tz.mixed (AllOk.cons ok87 AllOk.nil)) rfl Tryz.func63 (by kernel_rfl) fun e fe hp => by
  have ge := fe
  have fe := fit_entry fe
  refine vcFn_intro rfl rfl (by kernel_rfl) rfl ?_
  repeat (dsimp +instances only [go_sem, Nat.reduceBEq, Nat.reduceAdd, Nat.reduceSub, Nat.reduceLT, Nat.reduceLeDiff]; try simp only [bb, Nat.reduceAdd, Int.reduceToNat, Int.reduceLE, Int.reduceLT, Nat.reduceLT, Nat.reduceMul, Nat.reduceLeDiff])
  try simp only [nn, reduceCtorEq]
end Go.Gx
end
section
namespace Go.Gx
open Go.Proofs
structure Origin where
  Scheme : Str
  Host : Host
  Port : Int
  deriving DecidableEq, Inhabited
def Origin.cv (u : Origin) : List CV := [.str u.Scheme, .int .i64 u.Host.Kind, .str u.Host.Name, .int .i64 u.Host.Addr, .int .i64 u.Port]
def Origin.de (c : List CV) : Origin := match c with
  | [.str x0, .int _ x1, .str x2, .int _ x3, .int _ x4] => ⟨x0, ⟨x1, x2, x3⟩, x4⟩
  | _ => default
def Origin.sh (c : List CV) : Prop := match c with
  | [.str _, .int .i64 _, .str _, .int .i64 _, .int .i64 _] => True
  | _ => False
theorem Origin.sh_eq {c : List CV} (h : Origin.sh c) : c = (Origin.de c).cv := by
  unfold Origin.sh at h; split at h
  · rfl
  · exact h.elim
theorem Origin.de_cv (u : Origin) : Origin.de u.cv = u := by rfl
def tOrigin : Ty Origin where
  enc u := (true, u.cv)
  dec v := Origin.de v.2
  ok v := v.1 = true ∧ Origin.sh v.2
  law v h := by obtain ⟨b, c⟩ := v; obtain ⟨rfl, h⟩ := h; simp only; rw [← Origin.sh_eq h]
  de u := Origin.de_cv u
def rOrigin : Rw Origin := ⟨5, Origin.cv, Origin.de, Origin.de_cv⟩
def tOriginS : Ty (List Origin) := tList rOrigin
theorem tOrigin_enc {u : Origin} : tOrigin.enc u = (true, [.str u.Scheme, .int .i64 u.Host.Kind, .str u.Host.Name, .int .i64 u.Host.Addr, .int .i64 u.Port]) := rfl
theorem tOrigin_dec {b : Bool} {x0 : Str} {x1 : Int} {x2 : Str} {x3 : Int} {x4 : Int} {kx1 : IntKind} {kx3 : IntKind} {kx4 : IntKind}  : tOrigin.dec (b, [.str x0, .int kx1 x1, .str x2, .int kx3 x3, .int kx4 x4]) = ⟨x0, ⟨x1, x2, x3⟩, x4⟩ := rfl
theorem tOrigin_ok {x0 : Str} {x1 : Int} {x2 : Str} {x3 : Int} {x4 : Int}  : tOrigin.ok (true, [.str x0, .int .i64 x1, .str x2, .int .i64 x3, .int .i64 x4]) = (true = true ∧ True) := rfl
theorem Origin_eta (u : Origin) : (⟨u.Scheme, u.Host, u.Port⟩ : Origin) = u := rfl
theorem tOriginS_enc {l : List Origin} : tOriginS.enc l = (false, [.sl 5 (l.map rOrigin.enc)]) := rfl
theorem tOriginS_dec {b : Bool} {n : Nat} {es : List (List CV)} : tOriginS.dec (b, [.sl n es]) = es.map rOrigin.dec := rfl
theorem tOriginS_ok {n : Nat} {es : List (List CV)} : tOriginS.ok (false, [.sl n es]) = (n = 5 ∧ ∃ l : List Origin, es = l.map rOrigin.enc) := rfl
attribute [go_sem] tOriginS_enc tOriginS_dec tOriginS_ok
theorem rOrigin_sz : rOrigin.sz = 5 := rfl
attribute [go_sem] rOrigin_sz
attribute [go_sem] Origin_eta tOrigin_enc tOrigin_dec tOrigin_ok
structure OriginFit (u : Origin) : Prop where
  Scheme : Fit u.Scheme.length
  Host_Kind : R64 u.Host.Kind
  Host_Name : Fit u.Host.Name.length
  Host_Addr : R64 u.Host.Addr
  Port : R64 u.Port
end Go.Gx
end
section
namespace Go.Gx
open Go.Proofs
theorem loadPV_iptr0 {T : Tab} {G : Nat → List CV} {A : ASt} {t j : Nat} : loadPV T G A t (.iptr [] j) = (0 < T.size t ∧ j + T.size t ≤ 0, partPV (T.tk t) (T.size t) [] j) := rfl
attribute [go_sem] loadPV_iptr0
def E39 : Env := { T := Tz.tab, G := Gl, C := [(63, ct63)], live := [(0, [0]), (1, [0, 3]), (2, [0, 3, 4]), (3, [0, 3, 4, 9]), (4, [0, 3, 4]), (5, [0, 3, 4]), (6, [2])] }
def ct39 : Ct := .pure (dom1 tEntryS (fun l => True)) (fn1 tEntryS fun l => [tEntryS.enc l])
attribute [go_sem] E39 ct39 Go.Proofs.Tryz.f39
set_option maxHeartbeats 2000000 in
theorem ok39 : CtOk Tryz.prog Gl 39 ct39 := okA1 (E := E39) (sound_of Tz.tab_ok Tz.mixed (AllOk.cons ok63 AllOk.nil)) rfl Tryz.func39 (by kernel_rfl) fun l fl hp => by
  have gl := fl
  have fl := fit_list fl
  refine vcFn_intro rfl rfl (by kernel_rfl) rfl ?_
  repeat (dsimp +instances only [go_sem, Nat.reduceBEq, Nat.reduceAdd, Nat.reduceSub, Nat.reduceLT, Nat.reduceLeDiff]; try simp only [bb, Nat.reduceAdd, Int.reduceToNat, Int.reduceLE, Int.reduceLT, Nat.reduceLT, Nat.reduceMul, Nat.reduceLeDiff])
  try simp only [nn, reduceCtorEq]
  refine vcC_loop [0, 3, 4] (fun (i : Nat) => i ≤ l.length) (fun i => [.cv (.sl 17 (l.map rEntry.enc)), .pth 0 17 0 (l.take i).length, .cv (.int .i64 i)]) (fun i => [.row 17 ((l.take i).map rEntry.enc) []]) (fun i => l.length - i) 0 (by simp) ⟨rfl, rfl⟩ ?_
  intro i hi
  rcases Nat.lt_or_ge i l.length with hlt | hge
  · have hg := getD_at rEntry hlt
    have htk := take_snoc hlt
    have htl : (l.take i).length = i := by rw [List.length_take]; omega
    generalize l[i] = e at *
    try dsimp +instances only [go_sem, Nat.reduceBEq, Nat.reduceAdd, Nat.reduceSub, Nat.reduceLT, Nat.reduceLeDiff]
    repeat (simp only [hg, rEntry_enc, Int.toNat_natCast, bb, Nat.reduceAdd, Int.reduceToNat, Int.reduceLE, Int.reduceLT, Nat.reduceLT, Nat.reduceMul, Nat.reduceLeDiff]; try dsimp +instances only [go_sem, Nat.reduceBEq, Nat.reduceAdd, Nat.reduceSub, Nat.reduceLT, Nat.reduceLeDiff])
    try simp only [nn, reduceCtorEq, hlt, decide_true]
    refine ⟨by unfold Fit at *; omega, by omega, nextL_intro (i + 1) (by omega) (by omega) ?_ ?_⟩
    · simp only [htk, List.length_append, List.length_cons, List.length_nil]; rfl
    · simp only [htk, List.map_append, List.map_cons, List.map_nil]; rfl
  · have : i = l.length := by omega
    subst this
    repeat (dsimp +instances only [go_sem, Nat.reduceBEq, Nat.reduceAdd, Nat.reduceSub, Nat.reduceLT, Nat.reduceLeDiff]; try simp only [bb, Nat.reduceAdd, Int.reduceToNat, Int.reduceLE, Int.reduceLT, Nat.reduceLT, Nat.reduceMul, Nat.reduceLeDiff])
    try simp only [nn, reduceCtorEq, Nat.lt_irrefl]
end Go.Gx
end
section
namespace Go.Gx
open Go.Proofs
def win0 : Window := ⟨[], 0, 0, 0⟩
def askF (w : Window) (f : Int) (b : Bool) : Window := ⟨w.Frames.set f.toNat ⟨(frA w f).Within, (frA w f).Name, (frA w f).Hist, b⟩, w.Step, w.NextDoc, w.NextKey⟩
def thereB (w : Window) (f : Int) : Bool := decide (0 ≤ f ∧ f < w.Frames.length) && liveF w w.Step 3 f
def winAskF (w : Window) (f : Int) (b : Bool) : Window × Int := if winOk w = true then (if thereB w f = true then (askF w f b, 0) else (w, 2)) else (win0, 1)
def E16 : Env := { T := Tz.tab, G := Gl, C := [(39, ct39)], live := [(0, [1, 2]), (1, [1, 2, 3]), (2, [1, 2, 3, 4]), (3, [1, 2, 3, 4, 17]), (4, [1, 2, 3, 4]), (5, [1, 2, 3, 4, 5]), (6, [1, 2, 3, 4, 5]), (7, [1, 2, 3, 4]), (8, [2])] }
def ct16 : Ct := .pure (dom1 tWindow (fun w => True)) (fn1 tWindow fun w => [tWindow.enc w])
attribute [go_sem] E16 ct16 Go.Proofs.Tryz.f16
set_option maxHeartbeats 4000000 in
theorem ok16 : CtOk Tryz.prog Gl 16 ct16 := okA1 (E := E16) (sound_of Tz.tab_ok Tz.mixed (AllOk.cons ok39 AllOk.nil)) rfl Tryz.func16 (by kernel_rfl) fun w fw hp => by
  have gw := fw
  have fw := fit_window fw
  refine vcFn_intro rfl rfl (by kernel_rfl) rfl ?_
  have fF := (WindowFit.Frames (fit_window gw)).1
  have fH : ∀ f ∈ w.Frames, Fit f.Hist.length := fun f hf => (FrameFit_el (WindowFit.Frames (fit_window gw)).2 hf).Hist.1
  repeat (dsimp +instances only [go_sem, Nat.reduceBEq, Nat.reduceAdd, Nat.reduceSub, Nat.reduceLT, Nat.reduceLeDiff]; try simp only [bb, Nat.reduceAdd, Int.reduceToNat, Int.reduceLE, Int.reduceLT, Nat.reduceLT, Nat.reduceMul, Nat.reduceLeDiff])
  try simp only [nn, reduceCtorEq]
  refine vcC_loop [1, 2, 3, 4] (fun (i : Nat) => i ≤ w.Frames.length) (fun i => [.ptr 0 4 0 0, .ptr 1 4 0 0, .ptr 2 4 0 0, .cv (.int .i64 i)]) (fun i => match i with
    | 0 => [.boxT 0 [.cv (.sl 4 (w.Frames.map rFrame.enc)), .cv (.int .i64 w.Step), .cv (.int .i64 w.NextDoc), .cv (.int .i64 w.NextKey)], .boxT 0 [.nil 4, .cv (.int .i64 0), .cv (.int .i64 0), .cv (.int .i64 0)], .boxT 0 [.nil 4, .cv (.int .i64 w.Step), .cv (.int .i64 w.NextDoc), .cv (.int .i64 w.NextKey)]]
    | j + 1 => [.boxT 0 [.cv (.sl 4 (w.Frames.map rFrame.enc)), .cv (.int .i64 w.Step), .cv (.int .i64 w.NextDoc), .cv (.int .i64 w.NextKey)], .boxT 0 [.nil 4, .cv (.int .i64 0), .cv (.int .i64 0), .cv (.int .i64 0)], .boxT 0 [.pth 3 4 0 (j + 1), .cv (.int .i64 w.Step), .cv (.int .i64 w.NextDoc), .cv (.int .i64 w.NextKey)], .row 4 ((w.Frames.take (j + 1)).map rFrame.enc) []]) (fun i => w.Frames.length - i) 0 (by simp) ⟨rfl, rfl⟩ ?_
  intro i hi
  rcases Nat.lt_or_ge i w.Frames.length with hlt | hge
  · have hg := getD_at rFrame hlt
    have htk := take_snoc hlt
    have hfit := fH _ (List.getElem_mem hlt)
    have hl : (w.Frames.take i).length = i := by simp; omega
    cases i with
    | zero =>
      generalize w.Frames[0] = f at *
      try dsimp +instances only [go_sem, Nat.reduceBEq, Nat.reduceAdd, Nat.reduceSub, Nat.reduceLT, Nat.reduceLeDiff]
      repeat (simp only [hg, rFrame_enc, Int.toNat_natCast, bb, Nat.reduceAdd, Int.reduceToNat, Int.reduceLE, Int.reduceLT, Nat.reduceLT, Nat.reduceMul, Nat.reduceLeDiff]; try dsimp +instances only [go_sem, Nat.reduceBEq, Nat.reduceAdd, Nat.reduceSub, Nat.reduceLT, Nat.reduceLeDiff])
      try simp only [nn, reduceCtorEq, hlt, decide_true]
      refine ⟨by omega, by omega, nextL_intro 1 (by omega) (by omega) rfl ?_⟩
      show [_, _, _, Root.row 4 _ []] = [_, _, _, Root.row 4 ((w.Frames.take (0 + 1)).map rFrame.enc) []]
      rw [htk]; rfl
    | succ i =>
      generalize w.Frames[i + 1] = f at *
      try dsimp +instances only [go_sem, Nat.reduceBEq, Nat.reduceAdd, Nat.reduceSub, Nat.reduceLT, Nat.reduceLeDiff]
      repeat (simp only [hg, rFrame_enc, Int.toNat_natCast, bb, Nat.reduceAdd, Int.reduceToNat, Int.reduceLE, Int.reduceLT, Nat.reduceLT, Nat.reduceMul, Nat.reduceLeDiff]; try dsimp +instances only [go_sem, Nat.reduceBEq, Nat.reduceAdd, Nat.reduceSub, Nat.reduceLT, Nat.reduceLeDiff])
      try simp only [nn, reduceCtorEq, hlt, decide_true]
      refine ⟨by omega, by omega, nextL_intro (i + 2) (by omega) (by omega) rfl ?_⟩
      show [_, _, _, Root.row 4 _ []] = [_, _, _, Root.row 4 ((w.Frames.take (i + 1 + 1)).map rFrame.enc) []]
      rw [htk, List.map_append, List.take_of_length_le (by rw [List.length_map]; omega)]; rfl
  · have : i = w.Frames.length := by omega
    cases i with
    | zero =>
      repeat (dsimp +instances only [go_sem, Nat.reduceBEq, Nat.reduceAdd, Nat.reduceSub, Nat.reduceLT, Nat.reduceLeDiff]; try simp only [bb, Nat.reduceAdd, Int.reduceToNat, Int.reduceLE, Int.reduceLT, Nat.reduceLT, Nat.reduceMul, Nat.reduceLeDiff])
      try simp only [nn, reduceCtorEq, Nat.lt_irrefl]
      refine ⟨fun h => absurd h (by omega), fun _ => ?_⟩
      rw [List.eq_nil_of_length_eq_zero this.symm]; rfl
    | succ i =>
      repeat (dsimp +instances only [go_sem, Nat.reduceBEq, Nat.reduceAdd, Nat.reduceSub, Nat.reduceLT, Nat.reduceLeDiff]; try simp only [bb, Nat.reduceAdd, Int.reduceToNat, Int.reduceLE, Int.reduceLT, Nat.reduceLT, Nat.reduceMul, Nat.reduceLeDiff])
      try simp only [nn, reduceCtorEq, Nat.lt_irrefl]
      refine ⟨fun h => absurd h (by omega), fun _ => ?_⟩
      have h1 : w.Frames.take (i + 1) = w.Frames := List.take_of_length_le (by omega)
      rw [h1]
      exact ⟨by omega, List.take_of_length_le (by rw [List.length_map]; omega)⟩
theorem askF_map {w : Window} {k : Nat} (h : k < w.Frames.length) (b : Bool) : (askF w k b).Frames.map rFrame.enc = (w.Frames.map rFrame.enc).set k [.int .i64 w.Frames[k].Within, .str w.Frames[k].Name, .sl 17 (w.Frames[k].Hist.map rEntry.enc), .bool b] := by
  unfold askF
  rw [Int.toNat_natCast, frA_eq w k h, List.map_set]
  rfl
theorem winAsk_cases (w : Window) (f : Int) (b : Bool) : (¬ winOk w = true ∧ winAskF w f b = (win0, 1)) ∨ (winOk w = true ∧ ¬ thereB w f = true ∧ winAskF w f b = (w, 2)) ∨ (winOk w = true ∧ thereB w f = true ∧ winAskF w f b = (askF w f b, 0)) := by
  unfold winAskF
  by_cases ho : winOk w = true
  · by_cases ht : thereB w f = true
    · rw [if_pos ho, if_pos ht]; exact .inr (.inr ⟨ho, ht, rfl⟩)
    · rw [if_pos ho, if_neg ht]; exact .inr (.inl ⟨ho, ht, rfl⟩)
  · rw [if_neg ho]; exact .inl ⟨ho, rfl⟩
theorem ok_len {w : Window} (h : winOk w = true) : 0 < w.Frames.length := by
  have W := ((winOk_iff w).1 h).head
  unfold headOk at W
  simp only [Bool.and_eq_true, decide_eq_true_iff] at W
  omega
def E6 : Env := { T := Tz.tab, G := Gl, C := [(15, ct15), (16, ct16), (17, ct17)], live := [(0, [1, 2, 3, 6]), (1, [1, 2, 3, 6, 11]), (2, [6, 7]), (3, [1, 2, 3, 6, 8]), (4, [1, 2, 6, 8, 18]), (5, [6, 7]), (6, [6, 8]), (7, [6, 7])] }
def ct6 : Ct := .pure (dom3 tWindow tInt tBool (fun w f b => smallW w)) (fn3 tWindow tInt tBool fun w f b => [tWindow.enc (winAskF w f b).1, tInt.enc (winAskF w f b).2])
attribute [go_sem] E6 ct6 Go.Proofs.Tryz.f6
set_option maxHeartbeats 4000000 in
theorem ok6 : CtOk Tryz.prog Gl 6 ct6 := okA3 (E := E6) (sound_of Tz.tab_ok Tz.mixed (AllOk.cons ok15 (AllOk.cons ok16 (AllOk.cons ok17 AllOk.nil)))) rfl Tryz.func6 (by kernel_rfl) fun w f b fw ff fb hp => by
  have gw := fw
  have fw := fit_window fw
  have ff := fit_int ff
  refine vcFn_intro rfl rfl (by kernel_rfl) rfl ?_
  have fF := (WindowFit.Frames (fit_window gw)).1
  have hT : winOk w = true → WTree w := fun h => ((winOk_iff w).1 h).tree
  have hB : thereB w f = (decide (0 ≤ f ∧ f < w.Frames.length) && liveF w w.Step 3 f) := rfl
  rcases winAsk_cases w f b with ⟨ho, e⟩ | ⟨ho, ht, e⟩ | ⟨ho, ht, e⟩
  · rw [e]
    repeat (dsimp +instances only [go_sem, Nat.reduceBEq, Nat.reduceAdd, Nat.reduceSub, Nat.reduceLT, Nat.reduceLeDiff]; try simp only [bb, Nat.reduceAdd, Int.reduceToNat, Int.reduceLE, Int.reduceLT, Nat.reduceLT, Nat.reduceMul, Nat.reduceLeDiff])
    try simp only [nn, reduceCtorEq]
    exact ⟨hp, fun _ => ⟨rfl, rfl, rfl, rfl⟩, fun h => absurd h ho⟩
  · rw [e]
    repeat (dsimp +instances only [go_sem, Nat.reduceBEq, Nat.reduceAdd, Nat.reduceSub, Nat.reduceLT, Nat.reduceLeDiff]; try simp only [bb, Nat.reduceAdd, Int.reduceToNat, Int.reduceLE, Int.reduceLT, Nat.reduceLT, Nat.reduceMul, Nat.reduceLeDiff])
    try simp only [nn, reduceCtorEq]
    have hno : ¬ winOk w = false := by rw [ho]; simp
    refine ⟨hp, fun h => absurd h hno, fun _ => ⟨hT ho, fun h => absurd ?_ ht⟩⟩
    rw [hB, decide_eq_true h.1, h.2]; rfl
  · rw [e]
    rw [ht] at hB
    simp only [Bool.true_eq, Bool.and_eq_true, decide_eq_true_iff] at hB
    obtain ⟨k, rfl⟩ : ∃ k : Nat, f = k := ⟨f.toNat, by omega⟩
    have hlt : k < w.Frames.length := by omega
    have hg := getD_at rFrame hlt
    have hm := askF_map hlt b
    generalize w.Frames[k] = g at *
    try dsimp +instances only [go_sem, Nat.reduceBEq, Nat.reduceAdd, Nat.reduceSub, Nat.reduceLT, Nat.reduceLeDiff]
    repeat (simp only [hg, rFrame_enc, Int.toNat_natCast, bb, Nat.reduceAdd, Int.reduceToNat, Int.reduceLE, Int.reduceLT, Nat.reduceLT, Nat.reduceMul, Nat.reduceLeDiff]; try dsimp +instances only [go_sem, Nat.reduceBEq, Nat.reduceAdd, Nat.reduceSub, Nat.reduceLT, Nat.reduceLeDiff])
    try simp only [nn, reduceCtorEq, hlt, decide_true]
    have hno : ¬ winOk w = false := by rw [ho]; simp
    have hnl : ¬ liveF w w.Step 3 k = false := by rw [hB.2]; simp
    refine ⟨hp, fun h => absurd h hno, fun _ => ⟨hT ho, fun h => absurd h hnl, fun _ => ⟨by simp, ?_, rfl, rfl, rfl⟩⟩⟩
    rw [hm]; exact List.take_of_length_le (by simp)
def E20 : Env := { T := Tz.tab, G := Gl, C := [], live := [(0, []), (1, [0])] }
def ct20 : Ct := inlK E20 Go.Proofs.Tryz.f20 #[ResultVar.tmp 0] 0
attribute [go_sem] E20 ct20 Go.Proofs.Tryz.f20
theorem ok20 : CtOk Tryz.prog Gl 20 ct20 := inl_ok (E := E20) (sound_of Tz.tab_ok Tz.mixed AllOk.nil) Tryz.func20 (by kernel_rfl) rfl rfl rfl (fun pin => by kernel_rfl)
def E19 : Env := { T := Tz.tab, G := Gl, C := [(27, ct27), (28, ct28), (42, ct42), (20, ct20)], live := [(0, [1, 2, 3, 4, 8]), (1, [1, 2, 3, 4, 8, 10]), (2, [8, 9]), (3, [1, 3, 4, 8, 15]), (4, [8, 9]), (5, [3, 4, 8, 19]), (6, [8, 9]), (7, [4, 8, 26]), (8, [8, 9]), (9, [8, 9])] }
def ct19 : Ct := inlK E19 Go.Proofs.Tryz.f19 #[ResultVar.cell 8 28, ResultVar.tmp 9] 4
attribute [go_sem] E19 ct19 Go.Proofs.Tryz.f19
theorem ok19 : CtOk Tryz.prog Gl 19 ct19 := inl_ok (E := E19) (sound_of Tz.tab_ok Tz.mixed (AllOk.cons ok27 (AllOk.cons ok28 (AllOk.cons ok42 (AllOk.cons ok20 AllOk.nil))))) Tryz.func19 (by kernel_rfl) rfl rfl rfl (fun pin => by kernel_rfl)
def E8 : Env := { T := Tz.tab, G := Gl, C := [(19, ct19), (20, ct20)], live := [(0, [1, 2, 3, 6]), (1, [1, 2, 6, 8, 9]), (2, [1, 2, 6, 8, 9, 17]), (3, [6, 8, 9]), (4, [6, 7])] }
def ct8 : Ct := .pure (dom3 tWindow tInt tBool (fun w f b => smallW w)) (fn3 tWindow tInt tBool fun w f b => [tWindow.enc (winAskF w f b).1, tInt.enc (winAskF w f b).2])
attribute [go_sem] E8 ct8 Go.Proofs.Tryz.f8
set_option maxHeartbeats 4000000 in
theorem ok8 : CtOk Tryz.prog Gl 8 ct8 := okA3 (E := E8) (sound_of Tz.tab_ok Tz.mixed (AllOk.cons ok19 (AllOk.cons ok20 AllOk.nil))) rfl Tryz.func8 (by kernel_rfl) fun w f b fw ff fb hp => by
  have gw := fw
  have fw := fit_window fw
  have ff := fit_int ff
  refine vcFn_intro rfl rfl (by kernel_rfl) rfl ?_
  have fF := (WindowFit.Frames (fit_window gw)).1
  have hT : winOk w = true → WTree w := fun h => ((winOk_iff w).1 h).tree
  have hB : thereB w f = (decide (0 ≤ f ∧ f < w.Frames.length) && liveF w w.Step 3 f) := rfl
  rcases winAsk_cases w f b with ⟨ho, e⟩ | ⟨ho, ht, e⟩ | ⟨ho, ht, e⟩
  · rw [e]
    repeat (dsimp +instances only [go_sem, Nat.reduceBEq, Nat.reduceAdd, Nat.reduceSub, Nat.reduceLT, Nat.reduceLeDiff]; try simp only [bb, Nat.reduceAdd, Int.reduceToNat, Int.reduceLE, Int.reduceLT, Nat.reduceLT, Nat.reduceMul, Nat.reduceLeDiff])
    try simp only [nn, reduceCtorEq]
    exact ⟨hp, fun _ => ⟨fun h => absurd h (by decide), fun _ => ⟨rfl, rfl, rfl, rfl⟩⟩, fun h => absurd h ho⟩
  · rw [e]
    repeat (dsimp +instances only [go_sem, Nat.reduceBEq, Nat.reduceAdd, Nat.reduceSub, Nat.reduceLT, Nat.reduceLeDiff]; try simp only [bb, Nat.reduceAdd, Int.reduceToNat, Int.reduceLE, Int.reduceLT, Nat.reduceLT, Nat.reduceMul, Nat.reduceLeDiff])
    try simp only [nn, reduceCtorEq]
    have hno : ¬ winOk w = false := by rw [ho]; simp
    refine ⟨hp, fun h => absurd h hno, fun _ => ⟨hT ho, fun _ => ⟨ok_len ho, fun h => absurd h (by decide)⟩, fun h => absurd ?_ ht⟩⟩
    rw [hB, decide_eq_true h.1, h.2]; rfl
  · rw [e]
    rw [ht] at hB
    simp only [Bool.true_eq, Bool.and_eq_true, decide_eq_true_iff] at hB
    obtain ⟨k, rfl⟩ : ∃ k : Nat, f = k := ⟨f.toNat, by omega⟩
    have hlt : k < w.Frames.length := by omega
    have hg := getD_at rFrame hlt
    have hm := askF_map hlt b
    generalize w.Frames[k] = g at *
    try dsimp +instances only [go_sem, Nat.reduceBEq, Nat.reduceAdd, Nat.reduceSub, Nat.reduceLT, Nat.reduceLeDiff]
    repeat (simp only [hg, rFrame_enc, Int.toNat_natCast, bb, Nat.reduceAdd, Int.reduceToNat, Int.reduceLE, Int.reduceLT, Nat.reduceLT, Nat.reduceMul, Nat.reduceLeDiff]; try dsimp +instances only [go_sem, Nat.reduceBEq, Nat.reduceAdd, Nat.reduceSub, Nat.reduceLT, Nat.reduceLeDiff])
    try simp only [nn, reduceCtorEq, hlt, decide_true]
    have hno : ¬ winOk w = false := by rw [ho]; simp
    have hnl : ¬ liveF w w.Step 3 k = false := by rw [hB.2]; simp
    refine ⟨hp, fun h => absurd h hno, fun _ => ⟨hT ho, fun h => absurd h hnl, fun _ => ⟨ok_len ho, by simp, ?_, rfl, rfl, rfl⟩⟩⟩
    rw [hm]; exact List.take_of_length_le (by simp)
end Go.Gx
end
section
namespace Go.Gx
open Go.Proofs
theorem urlSz_C (u : Url) : (urlSz u : Int) = urlC u := by
  unfold urlSz urlC; rw [pathPut_len]; omega
theorem small_of_winC {w : Window} (h : winC w ≤ 1048576) : smallW w := by
  intro f hf e he
  have h1 := sumF_mem w.Frames f hf
  have h2 := sumE_mem f.Hist e he
  have h3 := urlSz_C e.Url
  unfold winC at h
  unfold frmC at h1
  unfold entC at h2
  omega
theorem cntE_C : ∀ l : List Entry, (cntEntries l : Int) ≤ 17 * (l.length + sumE l)
  | [] => by simp [cntEntries, sumE]
  | e :: r => by
    have h := cntE_C r
    have h2 := urlC_nn e.Url
    have h3 : (e.Url.Path.length : Int) ≤ urlC e.Url := by unfold urlC; omega
    simp only [cntEntries, sumE, entC, List.length_cons] at *
    omega
theorem cntF_C : ∀ l : List Frame, (cntFrames l : Int) ≤ 20 * (l.length + sumF l)
  | [] => by simp [cntFrames, sumF]
  | f :: r => by
    have h := cntF_C r
    have h2 := cntE_C f.Hist
    have h3 := sumE_nn f.Hist
    simp only [cntFrames, sumF, frmC, List.length_cons] at *
    omega
end Go.Gx
end
section
namespace Go.Gx
open Go.Proofs
theorem cntF_set : ∀ (l : List Frame) (k : Nat) (g : Frame), (∀ h : k < l.length, g.Hist = l[k].Hist) → cntFrames (l.set k g) = cntFrames l
  | [], k, g, h => by cases k <;> rfl
  | f :: r, 0, g, h => by
    have := h (by simp)
    simp at this
    simp [cntFrames, this]
  | f :: r, k + 1, g, h => by
    simp only [List.set_cons_succ, cntFrames]
    rw [cntF_set r k g fun hk => h (show k + 1 < r.length + 1 by omega)]
theorem ask_cnt (w : Window) (f : Int) (b : Bool) : cntFrames (winAskF w f b).1.Frames ≤ cntFrames w.Frames := by
  rcases winAsk_cases w f b with ⟨_, e⟩ | ⟨_, _, e⟩ | ⟨_, ht, e⟩
  · rw [e]; exact Nat.zero_le _
  · rw [e]; exact Nat.le_refl _
  · rw [e]
    unfold thereB at ht
    simp only [Bool.and_eq_true, decide_eq_true_iff] at ht
    obtain ⟨k, rfl⟩ : ∃ k : Nat, f = k := ⟨f.toNat, by omega⟩
    unfold askF
    rw [Int.toNat_natCast]
    exact Nat.le_of_eq (cntF_set _ _ _ fun h => by rw [frA_eq w k h])
def E3 : Env := { T := Tz.tab, G := Gl, C := [(5, ct5), (7, ct7), (6, ct6), (8, ct8), (9, ct9), (10, ct10), (11, ct11)], live := [(0, [1, 2, 3]), (1, [1, 2, 3, 7]), (2, [1, 2, 3, 7]), (3, [1, 2, 3, 22]), (4, [6]), (5, [1, 2, 3, 8, 9]), (6, [1, 2, 3, 8, 9, 10]), (7, [1, 2, 3, 8, 9, 10, 11, 12]), (8, [1, 2, 3, 8, 9, 10, 11, 12, 48]), (9, [6]), (10, [1, 2, 3, 8, 9, 10, 11, 12, 53]), (11, [6]), (12, [1, 2, 3, 8, 9, 10, 11, 12, 13]), (13, [1, 2, 3, 8, 9, 11, 12, 13]), (14, [1, 2, 3, 8, 9, 11, 69]), (15, [6]), (16, [1, 2, 3, 8, 9, 11, 14]), (17, [1, 2, 3, 8, 9, 11, 14]), (18, [1, 2, 3, 8, 9, 11, 14, 15]), (19, [1, 2, 3, 8, 9, 11, 14, 15]), (20, [1, 2, 3, 8, 9, 11, 14, 15, 77]), (21, [6]), (22, [1, 2, 3, 8, 9, 11, 14, 80]), (23, [6]), (24, [8, 9, 11, 14, 16, 17]), (25, [11, 14, 97]), (26, [6]), (27, [11, 14, 15]), (28, [14, 15]), (29, [14, 15, 102]), (30, [6]), (31, [105]), (32, [6]), (33, [6])] }
def ct3 : Ct := .scal (dom3 tWindow tInt tBool (fun a f b => True)) (fn3 tWindow tInt tBool fun a f b => [tBool.enc true])
attribute [go_sem] E3 ct3 Go.Proofs.Tryz.f3
set_option maxHeartbeats 8000000 in
theorem ok3 : CtOk Tryz.prog Gl 3 ct3 := okA3 (E := E3) (sound_of Tz.tab_ok Tz.mixed (AllOk.cons ok5 (AllOk.cons ok7 (AllOk.cons ok6 (AllOk.cons ok8 (AllOk.cons ok9 (AllOk.cons ok10 (AllOk.cons ok11 AllOk.nil)))))))) rfl Tryz.func3 (by kernel_rfl) fun a f b fa ff fb hp => by
  have ga := fa
  have fa := fit_window fa
  have ff := fit_int ff
  refine vcFn_intro rfl rfl (by kernel_rfl) rfl ?_
  repeat (dsimp +instances only [go_sem, Nat.reduceBEq, Nat.reduceAdd, Nat.reduceSub, Nat.reduceLT, Nat.reduceLeDiff]; try simp only [bb, Nat.reduceAdd, Int.reduceToNat, Int.reduceLE, Int.reduceLT, Nat.reduceLT, Nat.reduceMul, Nat.reduceLeDiff])
  try simp only [nn, reduceCtorEq]
  refine fun hsz => ?_
  have hb := szTo_ok hsz (by omega)
  have hsm := small_of_winC hb
  have hF := cntF_C a.Frames
  have hw : winC a = a.Frames.length + sumF a.Frames := rfl
  simp only [take_strs, take_frames, Rw.map_dec, ex_enc, markFrames_snd, markFrames_len, markFrames_idem, cntFrames_mark, markEntries_snd, markStrs_len, markStrs_snd, markStrs_idem, markEntries_idem, cntEntries_mark, List.length_map, bne_self_eq_false, decide_true, Bool.not_true, Bool.false_eq_true, or_false, false_or, not_true_eq_false, false_implies, true_and, and_true, and_false, imp_false, Nat.le_refl, true_implies, forall_const, implies_true, or_self, hsm]
  have hc := ask_cnt a f b
  generalize cntFrames (winAskF a f b).1.Frames = d at *
  generalize cntFrames a.Frames = c at *
  (repeat' (first | refine And.intro ?_ ?_ | intro _)) <;> try first | omega | trivial
end Go.Gx
end
section
namespace Go.Gx
def ShFs (S : Nat → List CV → Prop) : List Nat → List CV → Prop
  | [], cs => cs = []
  | t :: ts, cs => ∃ a b, cs = a ++ b ∧ S t a ∧ ShFs S ts b
def ShK (T : Tab) (S : Nat → List CV → Prop) (ft : List Nat) (cs : List CV) : TK → Prop
  | .int k => ∃ n, cs = [.int k n]
  | .bool => ∃ b, cs = [.bool b]
  | .str => ∃ s, cs = [.str s]
  | .slice e => ∃ es, cs = [.sl (T.size e) es] ∧ ∀ r ∈ es, S e r
  | .struct _ => ShFs S ft cs
  | .mapIB => False
  | .other => False
def Sh (T : Tab) : Nat → Nat → List CV → Prop
  | 0, _, _ => False
  | d + 1, t, cs => ShK T (Sh T d) (T.ti t).ft cs (T.tk t)
def okK (T : Tab) (O : Nat → Bool) (t : Nat) : TK → Bool
  | .int _ => true
  | .bool => true
  | .str => true
  | .slice e => Nat.blt 0 (T.size e) && O e
  | .struct fs => contig 0 fs (T.size t) && (fs.map (·.2) == (T.ti t).ft.map T.size) && (T.ti t).ft.all O
  | .mapIB => false
  | .other => false
def okT (T : Tab) : Nat → Nat → Bool
  | 0, _ => false
  | d + 1, t => okK T (okT T d) t (T.tk t)
def RepIL (St : Snap) : List CV → List Value → Prop
  | [], [] => True
  | c :: cs, v :: vs => RepI St c v ∧ RepIL St cs vs
  | _, _ => False
theorem RepIL.len {St : Snap} : ∀ {cs : List CV} {vs : List Value}, RepIL St cs vs → cs.length = vs.length
  | [], [], _ => rfl
  | _ :: _, _ :: _, h => by simp [h.2.len]
  | [], _ :: _, h => h.elim
  | _ :: _, [], h => h.elim
theorem RepIL.get {St : Snap} : ∀ {cs : List CV} {vs : List Value}, RepIL St cs vs → ∀ (i : Nat) (c : CV), cs[i]? = some c → ∃ v, vs[i]? = some v ∧ RepI St c v
  | [], [], _, i, c, h => by simp at h
  | c :: _, v :: _, h, 0, c', hc => by simp at hc; subst hc; exact ⟨v, rfl, h.1⟩
  | _ :: cs, _ :: vs, h, i + 1, c', hc => by simp at hc; simpa using h.2.get i c' hc
  | [], _ :: _, h, _, _, _ => h.elim
  | _ :: _, [], h, _, _, _ => h.elim
theorem RepIL.app {St : Snap} : ∀ {a b : List CV} {u v : List Value}, RepIL St a u → RepIL St b v → RepIL St (a ++ b) (u ++ v)
  | [], _, [], _, _, h => h
  | _ :: _, _, _ :: _, _, h, h' => ⟨h.1, h.2.app h'⟩
  | [], _, _ :: _, _, h, _ => h.elim
  | _ :: _, _, [], _, h, _ => h.elim
structure Bulk (H : Type) where
  b : DataW H → Nat
  ba : List (DataW H) → Nat
  str : ∀ l, b (.lit (.string l)) = l.length + 1
  slc : ∀ e s, b (.slice e s) = ba e + ba s + 1
  agg : ∀ p, b (.agg p) = ba p + 1
  nil : ba [] = 0
  cons : ∀ d r, ba (d :: r) = b d + ba r
  pos : ∀ d, 1 ≤ b d
theorem Bulk.len {H : Type} (B : Bulk H) : ∀ l : List (DataW H), l.length ≤ B.ba l
  | [] => by simp
  | d :: r => by have := B.len r; have := B.pos d; rw [B.cons, List.length_cons]; omega
theorem Bulk.mem {H : Type} (B : Bulk H) : ∀ (l : List (DataW H)) (i : Nat) (d : DataW H), l[i]? = some d → B.b d ≤ B.ba l
  | [], i, d, h => by simp at h
  | a :: r, 0, d, h => by simp at h; subst h; rw [B.cons]; omega
  | a :: r, i + 1, d, h => by have := B.mem r i d (by simpa using h); rw [B.cons]; omega
theorem wrap_wf {k : IntKind} {n : Int} (h : (Lit.int k n).wf = true) : InR k n := by
  unfold InR
  cases k <;> simp [Lit.wf, IntKind.wrap, IntKind.min, IntKind.max, IntKind.signed, IntKind.bits] at h ⊢ <;> (try split) <;> omega
section
variable {H : Type} {enc : TypeId × Value → H} {P : Program} {T : Tab} {w : World} {base : Nat} {sp : Nat → Bool} {held : Bool}
theorem fields_ok {St : Snap} {S : Nat → List CV → Prop} {n : Nat} {CS : List Value} (hCS : CS.length = n) : ∀ (fl : List Field) (fss : List (Nat × Nat)) (off : Nat), contig off fss n = true → fl.length = fss.length →
    (∀ (i : Nat) (x : Nat × Nat) (f : Field), fss[i]? = some x → fl[i]? = some f → f.offset = x.1 ∧ ∃ es, S f.type es ∧ RepIL St es ((CS.drop x.1).take x.2)) →
    ∃ es, ShFs S (fl.map (·.type)) es ∧ RepIL St es (CS.drop off)
  | [], [], off, hc, _, _ => by
    simp [contig] at hc
    refine ⟨[], rfl, ?_⟩
    rw [List.drop_eq_nil_of_le (by omega)]; trivial
  | f :: fl, (o, s) :: fss, off, hc, hl, h => by
    simp [contig] at hc
    obtain ⟨rfl, hc⟩ := hc
    obtain ⟨e1, es, h1, h2⟩ := h 0 (o, s) f rfl rfl
    obtain ⟨es', h3, h4⟩ := fields_ok hCS fl fss (o + s) hc (by simpa using hl) fun i x g hx hg => h (i + 1) x g (by simpa using hx) (by simpa using hg)
    refine ⟨es ++ es', ⟨es, es', rfl, h1, h3⟩, ?_⟩
    have e : CS.drop o = (CS.drop o).take s ++ CS.drop (o + s) := by rw [← List.drop_drop, List.take_append_drop]
    rw [e]
    exact h2.app h4
  | [], _ :: _, _, _, hl, _ => by simp at hl
  | _ :: _, [], _, _, hl, _ => by simp at hl
theorem read_ok (hT : TabOk P T) (B : Bulk H) : ∀ (d fuel t : Nat) (cs : List Value) (x : DataW H × List MemPlace), okT T d t = true → DataW.trod enc P w base sp held fuel t cs = some x → B.b x.1 ≤ 68719476736 →
    ∃ es, Sh T d t es ∧ RepIL (heapS w) es cs
  | 0, _, _, _, _, h, _, _ => by simp [okT] at h
  | d + 1, fuel, t, cs, x, hok, h, hb => by
    have hti : T.tk t ≠ .other := fun e => by simp [okT, e, okK] at hok
    obtain ⟨inf, hi, hsz, hby, hb2, hz, hk, hft⟩ := hT.tk hti
    have hk' : TkOk P t (T.tk t) := hk
    simp only [okT] at hok
    simp only [Sh]
    cases e : T.tk t with
    | mapIB => simp [e, okK] at hok
    | other => exact absurd e hti
    | int k =>
      rw [e] at hk'
      obtain ⟨n, rfl, rfl, hw⟩ := DataW.trod_int hk' h
      exact ⟨[.int k n], ⟨n, rfl⟩, .int (wrap_wf hw), trivial⟩
    | bool =>
      rw [e] at hk'
      obtain ⟨b, rfl, rfl⟩ := DataW.trod_bool hk' h
      exact ⟨[.bool b], ⟨b, rfl⟩, .bool, trivial⟩
    | str =>
      rw [e] at hk'
      obtain ⟨s, rfl, rfl, hs⟩ := DataW.trod_string hk' h
      refine ⟨[.str s.data.toList], ⟨_, rfl⟩, ?_, trivial⟩
      have := RepI.str (St := heapS w) (l := s.data.toList) (by simp only [B.str] at hb; unfold Fit; omega)
      simpa using this
    | slice el =>
      rw [e] at hk' hok
      simp only [okK, Bool.and_eq_true] at hok
      have hpos : 0 < T.size el := by simpa using hok.1
      obtain ⟨infe, hie, hsze, _⟩ := hT.ti hpos
      have hcell : P.cellsOf el = T.size el := by simp [Program.cellsOf, hie, hsze]; rfl
      rcases DataW.trod_slice hk' h with ⟨rfl, rfl⟩ | ⟨a, len, cap, elems, rest, n, rfl, rfl, rfl, hba, hlc, hcm, hel, hget, _, _⟩
      · exact ⟨[.sl (T.size el) []], ⟨[], rfl, fun r hr => by cases hr⟩, .nil, trivial⟩
      · rw [hcell] at hget
        have hlen : B.ba (elems.map (·.1)) ≤ 68719476736 := by simp only [B.slc] at hb; omega
        have hlen2 := B.len (elems.map (·.1))
        rw [List.length_map] at hlen2
        have each : ∀ i, i < len → ∃ es vs, Sh T d el es ∧ RepIL (heapS w) es vs ∧ w.cells? base (a.add (i * T.size el)) (T.size el) = some vs := fun i hi => by
          have hg := hget i hi
          rw [List.getElem?_eq_getElem (by omega : i < elems.length)] at hg
          obtain ⟨vs, h1, h2⟩ := Option.bind_eq_some_iff.1 hg
          obtain ⟨es, h3, h4⟩ := read_ok hT B d n el vs _ hok.2 h2 (Nat.le_trans (B.mem (elems.map (·.1)) i _ (by rw [List.getElem?_map, List.getElem?_eq_getElem (by omega : i < elems.length)]; rfl)) hlen)
          exact ⟨es, vs, h3, h4, h1⟩
        have pick : ∃ (f : Nat → List CV) (g : Nat → List Value), ∀ i, i < len → Sh T d el (f i) ∧ RepIL (heapS w) (f i) (g i) ∧ w.cells? base (a.add (i * T.size el)) (T.size el) = some (g i) := by
          refine ⟨fun i => if h : i < len then (each i h).choose else [], fun i => if h : i < len then (each i h).choose_spec.choose else [], fun i hi => ?_⟩
          simp only [dif_pos hi]
          exact (each i hi).choose_spec.choose_spec
        obtain ⟨f, g, hfg⟩ := pick
        have hcells : ∀ i, i < len → ∀ j, j < T.size el → ∃ v, (g i)[j]? = some v ∧ w.cell? ((a.add (i * T.size el)).add j) = some v := fun i hi j hj => by
          have h1 := (hfg i hi).2.2
          unfold World.cells? at h1
          split at h1
          · have h2 := mapM_some_get h1 j j (by simp [hj])
            have h3 := mapM_some_length h1
            rw [List.length_range] at h3
            rw [List.getElem?_eq_getElem (by omega : j < (g i).length)] at h2 ⊢
            exact ⟨_, rfl, h2⟩
          · cases h1
        have hglen : ∀ i, i < len → (f i).length = T.size el := fun i hi => by
          have h1 := (hfg i hi).2.2
          unfold World.cells? at h1
          split at h1
          · have h3 := mapM_some_length h1
            rw [List.length_range] at h3
            rw [(hfg i hi).2.1.len, h3]
          · cases h1
        refine ⟨[.sl (T.size el) ((List.range len).map f)], ⟨_, rfl, fun r hr => ?_⟩, ?_, trivial⟩
        · obtain ⟨i, hi, rfl⟩ := List.mem_map.1 hr
          exact (hfg i (by simpa using hi)).1
        · cases len with
          | zero => exact .nil
          | succ len =>
            obtain ⟨v0, hv0, hc0⟩ := hcells 0 (by omega) 0 hpos
            have hspot : a.spot = none := by
              have := World.cell?_spot hc0
              simpa [Addr.add] using this
            obtain ⟨b, o, spot⟩ := a
            simp only at hspot
            subst hspot
            have hadd : ∀ i j, ((⟨b, o, none⟩ : Addr).add (i * T.size el)).add j = ⟨b, o + i * T.size el + j, none⟩ := fun i j => by
              unfold Addr.add
              split <;> split <;> simp_all
            simp only [hadd] at hcells hc0
            have hblk : ∃ cur Ty fr, w.heap[b]? = some (.cells cur Ty fr) := by
              unfold World.cell? at hc0
              split at hc0
              · rename_i c t fr hh; exact ⟨c, t, fr, hh⟩
              · cases hc0
            obtain ⟨cur, Ty, fr, hblk⟩ := hblk
            have hcur : ∀ k v, w.cell? ⟨b, k, none⟩ = some v → cur[k]? = some v := fun k v hv => by
              unfold World.cell? at hv
              simp only [hblk] at hv
              simpa using hv
            have hrow : ∀ i, i < len + 1 → ((List.range (len + 1)).map f).getD i [] = f i := fun i hi => by
              simp [List.getD_eq_getElem?_getD, hi]
            have hl : ((List.range (len + 1)).map f).length = len + 1 := by simp
            have := RepI.sl (St := heapS w) (sz := T.size el) (es := (List.range (len + 1)).map f) (b := b) (o := o) (c := cap) (cur := cur) (T := Ty) (fr := fr) (fun i j => (g i).getD j undef)
              (by rw [hl]; unfold Fit; omega) (fun i hi => by rw [hl] at hi; rw [hrow i hi]; exact hglen i hi) hblk (by rw [hl]; exact hlc)
              (fun i j hi hj => by
                rw [hl] at hi
                obtain ⟨v, h1, h2⟩ := hcells i hi j hj
                rw [hcur _ _ h2, List.getD_eq_getElem?_getD, h1]; rfl)
              (fun i j hi hj => by
                rw [hl] at hi
                unfold getC
                rw [hrow i hi]
                have hj' : j < (f i).length := by rw [hglen i hi]; exact hj
                obtain ⟨v, h1, h2⟩ := (hfg i hi).2.1.get j _ (List.getElem?_eq_getElem hj')
                rw [List.getD_eq_getElem?_getD, List.getD_eq_getElem?_getD, h1, List.getElem?_eq_getElem hj']
                exact h2)
            rw [hl] at this
            exact this
    | struct fs =>
      rw [e] at hk' hok
      simp only [okK, Bool.and_eq_true] at hok
      obtain ⟨⟨hcon, hsizes⟩, hall⟩ := hok
      obtain ⟨fields, hu, hfl, hfi⟩ := hk'
      obtain ⟨_, _, hty, _⟩ := hft fields hu
      obtain ⟨xs, n, rfl, rfl, hcl, hxl, hxi⟩ := DataW.trod_struct hu h
      have hcell : P.cellsOf t = T.size t := by simp [Program.cellsOf, hi, hsz]; rfl
      have hba : B.ba (xs.map (·.1)) ≤ 68719476736 := by simp only [B.agg] at hb; omega
      have := fields_ok (St := heapS w) (S := Sh T d) (CS := cs) (n := T.size t) (by rw [hcl, hcell]) fields.toList fs 0 hcon (by simpa using hfl) fun i x f hx hf => by
        obtain ⟨f', hf', ho, hs, _⟩ := hfi i x hx
        rw [Array.getElem?_toList] at hf
        rw [hf] at hf'; injection hf' with hf'; subst hf'
        refine ⟨ho, ?_⟩
        have hg := hxi i f hf
        have hci : P.cellsOf f.type = x.2 := by simp [Program.cellsOf, hs]
        have hil : i < xs.length := by rw [hxl]; exact (Array.getElem?_eq_some_iff.1 hf).1
        rw [ho, hci, List.getElem?_eq_getElem hil] at hg
        have hokf : okT T d f.type = true := by
          refine List.all_eq_true.1 hall f.type ?_
          rw [← hty]
          exact List.mem_map.2 ⟨f, Array.mem_toList_iff.2 (Array.mem_of_getElem? hf), rfl⟩
        exact read_ok hT B d n f.type _ _ hokf hg (Nat.le_trans (B.mem (xs.map (·.1)) i _ (by rw [List.getElem?_map, List.getElem?_eq_getElem hil]; rfl)) hba)
      obtain ⟨es, h1, h2⟩ := this
      refine ⟨es, ?_, by simpa using h2⟩
      simp only [ShK]
      rw [hty] at h1
      exact h1
end
end Go.Gx
end
section
namespace Go.Gx
open Go.ChangeShapes Go.WideShapes Go.RowKit
def ShAll (T : Tab) (d : Nat) : List Nat → RV → Prop
  | [], [] => True
  | t :: ts, c :: cs => c.1 = isStruct (T.tk t) ∧ Sh T d t c.2 ∧ ShAll T d ts cs
  | _, _ => False
section
variable {H : Type} {enc : TypeId × Value → H} {P : Program} {T : Tab} {w : World} {base : Nat} {sp : Nat → Bool} {held : Bool}
theorem arg_ok (hT : TabOk P T) (B : Bulk H) {d t b0 : Nat} {r : Reach} {v : Value} {x : DataW H} {ps : List MemPlace} (hok : okT T d t = true) (hval : Value.okWide P w r b0 t v) (h : DataW.Trod enc P w base sp held t v x ps) (hb : B.b x ≤ 68719476736) :
    ∃ es, Sh T d t es ∧ RepIA (heapS w) (isStruct (T.tk t), es) v := by
  obtain ⟨fuel, h⟩ := h
  obtain ⟨es, h1, h2⟩ := read_ok hT B d fuel t _ _ hok h hb
  refine ⟨es, h1, ?_⟩
  have hti : T.tk t ≠ .other := fun e => by cases d <;> simp [okT, e, okK] at hok
  obtain ⟨inf, hi, hsz, hby, hb2, hz, hk, hft⟩ := hT.tk hti
  have hk' : TkOk P t (T.tk t) := hk
  have one : ∀ u : Value, v = u → u.cells = #[u] → RepIA (heapS w) (false, es) v := fun u hu hc => by
    subst hu
    rw [hc] at h2
    have hl := h2.len
    match es, hl, h2 with
    | [c], _, h2 => exact ⟨c, rfl, h2.1⟩
  cases e : T.tk t with
  | mapIB => cases d <;> simp [okT, e, okK] at hok
  | other => exact absurd e hti
  | int k => rw [e] at hk'; obtain ⟨n, hv⟩ := okWide_int hk' hval; exact one _ hv rfl
  | bool => rw [e] at hk'; obtain ⟨n, hv⟩ := okWide_bool hk' hval; exact one _ hv rfl
  | str => rw [e] at hk'; obtain ⟨n, hv⟩ := okWide_string hk' hval; exact one _ hv rfl
  | slice el => rw [e] at hk'; obtain ⟨a, l, c, hv⟩ := okWide_slice hk' hval; exact one _ hv rfl
  | struct fs =>
    rw [e] at hk'
    obtain ⟨fields, hu, _⟩ := hk'
    obtain ⟨cs, rfl, _⟩ := okWide_struct hu hval
    exact ⟨cs.toList, by simp, h2.len.symm, h2.get⟩
theorem args_ok (hT : TabOk P T) (B : Bulk H) {d b0 : Nat} {r : Reach} : ∀ (ts : List Nat) (vs : List Value) (ds : List (DataW H)) (ps : List MemPlace), ts.all (okT T d) = true → DataW.TrodAll enc P w base sp held ts vs ds ps →
    (∀ (j : Nat) t v, ts[j]? = some t → vs[j]? = some v → Value.okWide P w r b0 t v) → B.ba ds ≤ 68719476736 → ∃ cs : RV, ShAll T d ts cs ∧ RepIAs (heapS w) cs vs
  | [], [], [], _, _, _, _, _ => ⟨[], trivial, rfl, fun i c hc => by simp at hc⟩
  | t :: ts, v :: vs, x :: ds, ps, hok, h, hval, hb => by
    obtain ⟨p, q, h1, h2, rfl⟩ := h
    rw [B.cons] at hb
    simp only [List.all_cons, Bool.and_eq_true] at hok
    obtain ⟨es, a1, a2⟩ := arg_ok hT B hok.1 (hval 0 t v rfl rfl) h1 (by omega)
    obtain ⟨cs, b1, b2⟩ := args_ok hT B ts vs ds q hok.2 h2 (fun j t v ht hv => hval (j + 1) t v (by simpa using ht) (by simpa using hv)) (by omega)
    refine ⟨(isStruct (T.tk t), es) :: cs, ⟨rfl, a1, b1⟩, by simp [b2.1], fun i c hc => ?_⟩
    cases i with
    | zero => simp at hc; subst hc; exact ⟨v, rfl, a2⟩
    | succ i => simp at hc; simpa using b2.2 i c hc
  | [], _ :: _, _, _, _, h, _, _ => h.elim
  | [], [], _ :: _, _, _, h, _, _ => h.elim
  | _ :: _, [], _, _, _, h, _, _ => h.elim
  | _ :: _, _ :: _, [], _, _, h, _, _ => h.elim
theorem Later.below {w w' : World} (h : Later w w') : Below w.heap.size w w' := ⟨h.os, h.tape, h.output, h.size, h.ext⟩
def rowed (P : Program) (ts : List Nat) : Bool := ts.all fun t => P.readableRec t && decide (t < P.types.size)
theorem later_all (hl : laidOutB P = true) {w' : World} (hb : Below w.heap.size w w') {sp' : Nat → Bool} : ∀ (ts : List Nat) (vs : List Value) (ds : List (DataW H)) (ps : List MemPlace), rowed P ts = true → DataW.TrodAll enc P w 0 (fun _ => true) true ts vs ds ps →
    (∀ p ∈ ps, p.block < w.heap.size) → (∀ p ∈ ps, sp' p.block = true) → DataW.TrodAll enc P w' 0 sp' true ts vs ds ps
  | [], [], [], _, _, h, _, _ => h
  | t :: ts, v :: vs, x :: ds, ps, hr, h, hlt, hs => by
    obtain ⟨p, q, h1, h2, rfl⟩ := h
    simp only [rowed, List.all_cons, Bool.and_eq_true, decide_eq_true_eq] at hr
    refine ⟨p, q, Go.WideElems.Trod_stays hl hr.1.1 hr.1.2 h1 (fun x hx => hb.same (hlt x (by simp [hx]))) (fun x hx => hs x (by simp [hx])), ?_, rfl⟩
    exact later_all hl hb ts vs ds q (by simpa [rowed] using hr.2) h2 (fun x hx => hlt x (by simp [hx])) (fun x hx => hs x (by simp [hx]))
  | [], _ :: _, _, _, _, h, _, _ => h.elim
  | [], [], _ :: _, _, _, h, _, _ => h.elim
  | _ :: _, [], _, _, _, h, _, _ => h.elim
  | _ :: _, _ :: _, [], _, _, h, _, _ => h.elim
theorem later_vars (hl : laidOutB P = true) {w' : World} (hb : Below w.heap.size w w') {sp' : Nat → Bool} : ∀ (ns : List String) (gs : List (DataW H)) (ps : List MemPlace), varsRowed P ns = true → DataW.TrodVars enc P w (fun _ => true) ns gs ps →
    (∀ p ∈ ps, sp' p.block = true) → DataW.TrodVars enc P w' sp' ns gs ps
  | [], [], _, _, h, _ => h
  | [], _ :: _, _, _, h, _ => h.elim
  | _ :: _, [], _, _, h, _ => h.elim
  | n :: ns, d :: ds, ps, hv, h, hs0 => by
    have hlt := h.lt
    obtain ⟨g, t, cs, fuel, p, q, h1, h2, h3, h4, hs, e⟩ := h
    simp only [varsRowed, List.all_cons, Bool.and_eq_true] at hv
    have ht : P.readableRec t = true ∧ t < P.types.size := by
      have := hv.1
      rw [h1] at this
      cases hg : P.globals[g]? with
      | none => rw [hg] at h2; cases h2
      | some gl =>
        rw [hg] at h2
        obtain rfl : gl.type = t := Option.some.inj h2
        simpa [hg] using this
    have hp : ∀ x ∈ p, x.block < w.heap.size := fun x hx => hlt x (by rw [e]; simp [hx])
    have h3' : w'.var? P n = some cs := by
      unfold World.var? at h3 ⊢
      rw [h1] at h3 ⊢
      simp only [Option.bind_some] at h3 ⊢
      have hg : g < w.heap.size := by
        cases hh : w.heap[g]? with
        | none => rw [hh] at h3; cases h3
        | some o => exact (Array.getElem?_eq_some_iff.1 hh).1
      rw [hb.block g hg]; exact h3
    exact ⟨g, t, cs, fuel, p, q, h1, h2, h3', DataW.trod_stays (kids_book hl ht.1) (book_sized ht.1) (fun h => by cases h) ⟨ht.2, book_self t⟩ h4 (fun x hx => hb.same (hp x hx)) (fun x hx => hs0 x (by rw [e]; simp [hx])),
      later_vars hl hb ns ds q (by simpa [varsRowed] using hv.2) hs (fun x hx => hs0 x (by rw [e]; simp [hx])), e⟩
theorem law_ok2 (hT : TabOk P T) (B : Bulk H) {G : Globs} {f : FuncId} {fn : Func} {dom : RV → Prop} {g : RV → RV} (hct : CtOk P G f (.scal dom g)) (hl : laidOutB P = true) {d tb b0 : Nat} {r : Reach}
    (hok : fn.params.toList.all (okT T d) = true) (hread : rowed P fn.params.toList = true) {s : ChangeSpec} (hvars : varsRowed P s.vars = true) (hres : fn.resultTypes = #[tb]) (htb : P.underlying tb = some .bool)
    {args : Array Value} (hdom : ∀ cs, ShAll T d fn.params.toList cs → RepIAs (heapS w) cs args.toList → ∃ cs', RepIAs (heapS w) cs' args.toList ∧ dom cs' ∧ g cs' = [(false, [.bool true])])
    {ds gs : List (DataW H)} {before : List MemPlace} (hG : GOk G (heapS w))
    (hval : ∀ (j : Nat) t v, fn.params[j]? = some t → args[j]? = some v → Value.okWide P w r b0 t v)
    (hW : DataW.Whole enc P fn.params.toList s.vars false w args.toList ds gs before)
    (hs : s.fn H (ds ++ gs) = { results := [.lit (.bool true)], args := ds, vars := gs }) (hbulk : B.ba ds ≤ 68719476736) :
    Calls P f args w fun e w' => ∃ v, e = .returned v ∧ s.post enc P fn false true false false w args v w' := by
  have hW' := hW
  obtain ⟨p, q, hA, hV, rfl, hfz, hnd⟩ := hW
  obtain ⟨cs, h1, h2⟩ := args_ok hT B fn.params.toList args.toList ds p hok hA (fun j t v ht hv => hval j t v (by simpa using ht) (by simpa using hv)) hbulk
  obtain ⟨cs, h2, h3, h4⟩ := hdom cs h1 h2
  have hc := (hct w cs args.toList hG h2 h3).2
  have ea : args.toList.toArray = args := rfl
  refine hc.mono fun e w' he => ?_
  obtain ⟨v, rfl, hlat, fp, hrv, hfp⟩ := he
  rw [h4] at hrv
  obtain ⟨c, hc1, hc2⟩ : RepOA w' (false, [.bool true]) v fp := hrv
  have hv : v = .bool true := by
    injection hc1 with hc1 _
    subst hc1
    cases hc2; rfl
  subst hv
  have hb := hlat.below
  have hlt := hW'.lt
  refine ⟨_, rfl, ds, gs, p ++ q, [], p, q, hW', ?_, ?_, ?_, hb.frame _, fun h => by cases h⟩
  · rw [hs, hres]
    exact ⟨[], [], shut_bool htb _, rfl, rfl⟩
  · rw [hs]
    exact later_all hl hb _ _ _ _ hread hA (fun x hx => hlt x (by simp [hx])) (fun x hx => by simpa using hlt x (by simp [hx]))
  · rw [hs]
    exact later_vars hl hb _ _ _ hvars hV (fun x hx => by simpa using hlt x (by simp [hx]))
theorem law_ok (hT : TabOk P T) (B : Bulk H) {G : Globs} {f : FuncId} {fn : Func} {dom : RV → Prop} {g : RV → RV} (hct : CtOk P G f (.scal dom g)) (hl : laidOutB P = true) {d tb b0 : Nat} {r : Reach}
    (hok : fn.params.toList.all (okT T d) = true) (hread : rowed P fn.params.toList = true) {s : ChangeSpec} (hvars : varsRowed P s.vars = true) (hres : fn.resultTypes = #[tb]) (htb : P.underlying tb = some .bool)
    (hdom : ∀ cs, ShAll T d fn.params.toList cs → dom cs ∧ g cs = [(false, [.bool true])])
    {args : Array Value} {ds gs : List (DataW H)} {before : List MemPlace} (hG : GOk G (heapS w))
    (hval : ∀ (j : Nat) t v, fn.params[j]? = some t → args[j]? = some v → Value.okWide P w r b0 t v)
    (hW : DataW.Whole enc P fn.params.toList s.vars false w args.toList ds gs before)
    (hs : s.fn H (ds ++ gs) = { results := [.lit (.bool true)], args := ds, vars := gs }) (hbulk : B.ba ds ≤ 68719476736) :
    Calls P f args w fun e w' => ∃ v, e = .returned v ∧ s.post enc P fn false true false false w args v w' := by
  exact law_ok2 hT B hct hl hok hread hvars hres htb (fun cs h1 h2 => ⟨cs, h2, hdom cs h1⟩) hG hval hW hs hbulk
end
section
variable {T : Tab} {d t : Nat} {cs : List CV}
theorem shI (h : Sh T d t cs) (ht : T.tk t = .int .i64) : ∃ n : Int, cs = [.int .i64 n] := by
  cases d with
  | zero => exact h.elim
  | succ d => simp only [Sh, ht] at h; exact h
theorem shB (h : Sh T d t cs) (ht : T.tk t = .bool) : ∃ b : Bool, cs = [.bool b] := by
  cases d with
  | zero => exact h.elim
  | succ d => simp only [Sh, ht] at h; exact h
theorem shS (h : Sh T d t cs) (ht : T.tk t = .str) : ∃ s : Str, cs = [.str s] := by
  cases d with
  | zero => exact h.elim
  | succ d => simp only [Sh, ht] at h; exact h
theorem shT (h : Sh T d t cs) {fs : List (Nat × Nat)} {ft : List Nat} (ht : T.tk t = .struct fs) (hf : (T.ti t).ft = ft) : ∃ e, ShFs (Sh T e) ft cs := by
  cases d with
  | zero => exact h.elim
  | succ d => simp only [Sh, ht, hf] at h; exact ⟨d, h⟩
theorem ex_rows {α : Type} (R : Rw α) : ∀ (es : List (List CV)), (∀ r ∈ es, ∃ x, r = R.enc x) → ∃ l : List α, es = l.map R.enc
  | [], _ => ⟨[], rfl⟩
  | r :: es, h => by
    obtain ⟨x, rfl⟩ := h r (.head _)
    obtain ⟨l, rfl⟩ := ex_rows R es fun r hr => h r (.tail _ hr)
    exact ⟨x :: l, rfl⟩
theorem shL (h : Sh T d t cs) {α : Type} (R : Rw α) {e : Nat} (ht : T.tk t = .slice e) (hs : T.size e = R.sz) (he : ∀ d r, Sh T d e r → ∃ x, r = R.enc x) : ∃ l : List α, cs = [.sl R.sz (l.map R.enc)] := by
  cases d with
  | zero => exact h.elim
  | succ d =>
    simp only [Sh, ht] at h
    obtain ⟨es, rfl, hr⟩ := h
    obtain ⟨l, rfl⟩ := ex_rows R es fun r hr' => he _ _ (hr r hr')
    exact ⟨l, by rw [hs]⟩
theorem shAll_cons {ts : List Nat} {cs : RV} (h : ShAll T d (t :: ts) cs) : ∃ es cs', cs = (isStruct (T.tk t), es) :: cs' ∧ Sh T d t es ∧ ShAll T d ts cs' := by
  cases cs with
  | nil => exact h.elim
  | cons c cs => obtain ⟨b, es⟩ := c; obtain ⟨h1, h2, h3⟩ := h; simp only at h1 h2; subst h1; exact ⟨es, cs, rfl, h2, h3⟩
theorem shAll_nil {cs : RV} (h : ShAll T d [] cs) : cs = [] := by
  cases cs with
  | nil => rfl
  | cons c cs => exact h.elim
end
end Go.Gx
end
section
namespace Go.Gx
def GlobAt (w : World) (g : Nat) (cs : List CV) : Prop := ∃ cur T fr, heapS w g = some (.cells cur T fr) ∧ cur.size = cs.length ∧ ∀ (j : Nat) (c : CV), cs[j]? = some c → ∃ x, cur[j]? = some x ∧ RepI (heapS w) c x
theorem gok_nil {w : World} : GOk [] (heapS w) := fun g hg => absurd rfl hg
theorem gok_cons {w : World} {g : Nat} {cs : List CV} {G : Globs} (h : GlobAt w g cs) (h' : GOk G (heapS w)) : GOk ((g, cs) :: G) (heapS w) := fun g' hg' => by
  unfold Env.glob at hg' ⊢
  simp only [look] at hg' ⊢
  by_cases e : g = g'
  · subst e
    simp only [beq_self_eq_true, cond_true] at hg' ⊢
    exact h
  · have hb : (g == g') = false := beq_eq_false_iff_ne.2 e
    simp only [hb, cond_false] at hg' ⊢
    exact h' g' hg'
open Go.Proofs Go.Lib
section
variable {P : Program} {w : World}
theorem strs_exact {H : Type} {enc : TypeId × Value → H} {base : Nat} {sp : Nat → Bool} {held : Bool} {fuel t e : Nat} {cs : List Value} {l : List Str} {ps : List MemPlace} (ht : P.underlying t = some (.slice e)) (he : P.underlying e = some .string) (hc : P.cellsOf e = 1)
    (h : DataW.trod enc P w base sp held fuel t cs = some (.slice (l.map fun s => .lit (.string s)) [], ps)) (hl : Fit l.length) (hf : ∀ s ∈ l, Fit s.length) : ∃ v, cs = [v] ∧ RepI (heapS w) (.sl 1 (l.map rStr.enc)) v := by
  rcases DataW.trod_slice ht h with ⟨rfl, hx⟩ | ⟨a, len, cap, elems, rest, n, rfl, rfl, hx, hba, hlc, hcm, hel, hget, _, _⟩
  · simp at hx
  · simp only [Prod.mk.injEq, DataW.slice.injEq] at hx
    obtain ⟨⟨hx1, _⟩, _⟩ := hx
    have hll : l.length = len := by have := congrArg List.length hx1; simp only [List.length_map] at this; omega
    subst hll
    refine ⟨_, rfl, ?_⟩
    rw [hc] at hget
    have each : ∀ i (hi : i < l.length), w.cell? ((a.add (i * 1)).add 0) = some (.string ⟨l[i].toArray⟩) := fun i hi => by
      have hg := hget i hi
      rw [List.getElem?_eq_getElem (by omega : i < elems.length)] at hg
      obtain ⟨vs, h1, h2⟩ := Option.bind_eq_some_iff.1 hg
      obtain ⟨s, rfl, hx, _⟩ := DataW.trod_string he h2
      have h3 : (elems.map (·.1))[i]? = some (.lit (.string s.data.toList)) := by
        rw [List.getElem?_map, List.getElem?_eq_getElem (by omega : i < elems.length), hx]; rfl
      rw [← hx1, List.getElem?_map, List.getElem?_eq_getElem hi] at h3
      simp only [Option.map_some, Option.some.injEq, DataW.lit.injEq, Lit.string.injEq] at h3
      rw [h3]
      unfold World.cells? at h1
      split at h1
      · have h4 := mapM_some_get h1 0 0 (by simp)
        rw [h4]; simp
      · cases h1
    rcases Nat.eq_zero_or_pos l.length with hz | hz
    · obtain rfl : l = [] := List.length_eq_zero_iff.1 hz
      exact .nil
    · have h0 := each 0 hz
      have hspot : a.spot = none := by
        have := World.cell?_spot h0
        simpa [Addr.add] using this
      obtain ⟨b, o, spot⟩ := a
      simp only at hspot
      subst hspot
      have hadd : ∀ i j, ((⟨b, o, none⟩ : Addr).add (i * 1)).add j = ⟨b, o + i * 1 + j, none⟩ := fun i j => by
        unfold Addr.add
        split <;> split <;> simp_all
      simp only [hadd] at each h0
      have hblk : ∃ cur Ty fr, w.heap[b]? = some (.cells cur Ty fr) := by
        unfold World.cell? at h0
        split at h0
        · rename_i c t fr hh; exact ⟨c, t, fr, hh⟩
        · cases h0
      obtain ⟨cur, Ty, fr, hblk⟩ := hblk
      have hcur : ∀ k v, w.cell? ⟨b, k, none⟩ = some v → cur[k]? = some v := fun k v hv => by
        unfold World.cell? at hv
        simp only [hblk] at hv
        simpa using hv
      have hlen : (l.map rStr.enc).length = l.length := by simp
      have hrow : ∀ i (hi : i < l.length), (l.map rStr.enc).getD i [] = [.str l[i]] := fun i hi => by
        simp [List.getD_eq_getElem?_getD, hi, rStr]
      have := RepI.sl (St := heapS w) (sz := 1) (es := l.map rStr.enc) (b := b) (o := o) (c := cap) (cur := cur) (T := Ty) (fr := fr) (fun i _ => .string ⟨(l.getD i []).toArray⟩)
        (by rw [hlen]; exact hl) (fun i hi => by rw [hlen] at hi; rw [hrow i hi]; rfl) hblk (by rw [hlen]; exact hlc)
        (fun i j hi hj => by
          rw [hlen] at hi
          obtain rfl : j = 0 := by omega
          rw [hcur _ _ (each i hi)]
          simp [List.getD_eq_getElem?_getD, hi])
        (fun i j hi hj => by
          rw [hlen] at hi
          obtain rfl : j = 0 := by omega
          unfold getC
          rw [hrow i hi]
          simp only [List.getD_eq_getElem?_getD, List.getElem?_eq_getElem hi, Option.getD_some, List.getElem?_cons_zero]
          exact .str (hf _ (List.getElem_mem hi)))
      rw [hlen] at this
      exact this
theorem glob_strs {name : String} {g t e : Nat} {l : List Str} (hn : P.globalNamed name = some g) (hy : (P.globals[g]?).map (·.type) = some t) (ht : P.underlying t = some (.slice e)) (he : P.underlying e = some .string) (hc : P.cellsOf e = 1)
    (h : VarReads P w name (.slice (l.map fun s => .lit (.string s)) [])) (hl : Fit l.length) (hf : ∀ s ∈ l, Fit s.length) : GlobAt w g [.sl 1 (l.map rStr.enc)] := by
  obtain ⟨g', t', cs, fuel, p, h1, h2, h3, h4⟩ := h
  rw [hn] at h1; injection h1 with h1; subst h1
  rw [hy] at h2; injection h2 with h2; subst h2
  obtain ⟨v, hv, hr⟩ := strs_exact ht he hc h4 hl hf
  unfold World.var? at h3
  rw [hn] at h3
  simp only [Option.bind_some] at h3
  split at h3
  · rename_i cs' T fr hh
    injection h3 with h3; subst h3
    refine ⟨cs', T, fr, hh, ?_, fun j c hc' => ?_⟩
    · have := congrArg List.length hv; simpa using this
    · cases j with
      | zero => simp at hc'; subst hc'; exact ⟨v, by rw [← Array.getElem?_toList, hv]; rfl, hr⟩
      | succ j => simp at hc'
  · cases h3
theorem glob_tab {name : String} {g t e n : Nat} {k : IntKind} {zs : List Int} (hn : P.globalNamed name = some g) (hy : (P.globals[g]?).map (·.type) = some t) (ht : P.underlying t = some (.array n e)) (he : P.underlying e = some (.int k)) (hc : P.cellsOf e = 1) (hct : P.cellsOf t = n)
    (h : VarReads P w name (Lib.tabData k zs)) (hw : ∀ z ∈ zs, InR k z) : GlobAt w g (zs.map fun z => .int k z) := by
  obtain ⟨g', t', cs, fuel, p, h1, h2, h3, h4⟩ := h
  rw [hn] at h1; injection h1 with h1; subst h1
  rw [hy] at h2; injection h2 with h2; subst h2
  have hv := Lib.cells_of_tab ht he hc hct h4
  unfold World.var? at h3
  rw [hn] at h3
  simp only [Option.bind_some] at h3
  split at h3
  · rename_i cs' T fr hh
    injection h3 with h3; subst h3
    refine ⟨cs', T, fr, hh, ?_, fun j c hc' => ?_⟩
    · have := congrArg List.length hv; simpa using this
    · rw [List.getElem?_map] at hc'
      cases hz : zs[j]? with
      | none => rw [hz] at hc'; cases hc'
      | some z =>
        rw [hz] at hc'; injection hc' with hc'; subst hc'
        exact ⟨.int k z, by rw [← Array.getElem?_toList, hv, List.getElem?_map, hz]; rfl, .int (hw z (List.mem_of_getElem? hz))⟩
  · cases h3
theorem glob_any {g : Nat} (h : w.ShapedOpen P) (hg : g < P.globals.size) {zero : Array Value} {t : Nat} (hz : (((begin P (fun _ _ => 0) default).world.heap[g]?).bind Obj.row?) = some (zero, t)) (h1 : zero.size = 1)
    (hc : ∃ m, w.cell? ⟨g, 0, none⟩ = some (.int .i64 m)) : GlobAt w g [.ex (fun v => ∃ m, v = .int .i64 m)] := by
  obtain ⟨cs, a, b, _⟩ := h.1 g zero t hg hz
  obtain ⟨m, hm⟩ := hc
  refine ⟨cs, t, _, a, by rw [b, h1]; rfl, fun j c hc => ?_⟩
  cases j with
  | zero =>
    simp at hc; subst hc
    unfold World.cell? at hm
    simp only [a] at hm
    exact ⟨.int .i64 m, by simpa using hm, .ex ⟨m, rfl⟩ ⟨rfl, ⟨(fun x h => nomatch h), (fun x h => nomatch h)⟩⟩⟩
  | succ j => simp at hc
end
end Go.Gx
namespace Go.Gx
theorem list1 {α : Type} {ds : List α} (h : ds.length = 1) : ∃ a, ds = [a] := List.length_eq_one_iff.1 h
theorem list3 {α : Type} {ds : List α} (h : ds.length = 3) : ∃ a b c, ds = [a, b, c] := by
  match ds, h with
  | [a, b, c], _ => exact ⟨a, b, c, rfl⟩
theorem vars_length {H : Type} {enc : TypeId × Value → H} {P : Program} {w : World} {sp : Nat → Bool} : ∀ {ns : List String} {gs : List (DataW H)} {ps : List MemPlace}, DataW.TrodVars enc P w sp ns gs ps → gs.length = ns.length
  | [], [], _, _ => rfl
  | [], _ :: _, _, h => h.elim
  | _ :: _, [], _, h => h.elim
  | n :: ns, d :: ds, _, h => by
    obtain ⟨g, t, cs, fuel, p, q, _, _, _, _, hs, _⟩ := h
    simp [vars_length hs]
theorem opt_any {α : Type} {o : Option α} {p : α → Bool} (h : o.any p = true) : ∃ x, o = some x ∧ p x = true := by
  cases o with
  | none => cases h
  | some x => exact ⟨x, rfl, h⟩
theorem all_length {H : Type} {enc : TypeId × Value → H} {P : Program} {w : World} {base : Nat} {sp : Nat → Bool} {held : Bool} : ∀ {ts : List Nat} {vs : List Value} {ds : List (DataW H)} {ps : List MemPlace}, DataW.TrodAll enc P w base sp held ts vs ds ps → ds.length = ts.length
  | [], [], [], _, _ => rfl
  | t :: ts, v :: vs, x :: ds, _, h => by
    obtain ⟨p, q, _, h2, _⟩ := h
    simp [all_length h2]
  | [], _ :: _, _, _, h => h.elim
  | [], [], _ :: _, _, h => h.elim
  | _ :: _, [], _, _, h => h.elim
  | _ :: _, _ :: _, [], _, h => h.elim
end Go.Gx
end
section
namespace Go.Proofs.YtingolkleldegaaGreatDoor.fnExactWindowAsk
open Go.Gx Go.Lib
theorem sh_t106 {d : Nat} {cs : List CV} (h : Sh Tz.tab d 106 cs) : ∃ x : Go.Gx.Host, cs = Go.Gx.Host.cv x := by
  obtain ⟨d, h⟩ := shT h rfl rfl
  obtain ⟨a0, r0, e0, h0, h⟩ := h
  obtain ⟨x0, rfl⟩ := shI h0 rfl
  obtain ⟨a1, r1, e1, h1, h⟩ := h
  obtain ⟨x1, rfl⟩ := shS h1 rfl
  obtain ⟨a2, r2, e2, h2, h⟩ := h
  obtain ⟨x2, rfl⟩ := shI h2 rfl
  have h : r2 = [] := h
  refine ⟨⟨x0, x1, x2⟩, ?_⟩
  rw [e0, e1, e2, h]
  rfl
theorem sh_t108 {d : Nat} {cs : List CV} (h : Sh Tz.tab d 108 cs) : ∃ x : Go.Gx.Url, cs = Go.Gx.Url.cv x := by
  obtain ⟨d, h⟩ := shT h rfl rfl
  obtain ⟨a0, r0, e0, h0, h⟩ := h
  obtain ⟨x0, rfl⟩ := shS h0 rfl
  obtain ⟨a1, r1, e1, h1, h⟩ := h
  obtain ⟨x1, rfl⟩ := shS h1 rfl
  obtain ⟨a2, r2, e2, h2, h⟩ := h
  obtain ⟨x2, rfl⟩ := shS h2 rfl
  obtain ⟨a3, r3, e3, h3, h⟩ := h
  obtain ⟨x3, rfl⟩ := sh_t106 h3
  obtain ⟨a4, r4, e4, h4, h⟩ := h
  obtain ⟨x4, rfl⟩ := shI h4 rfl
  obtain ⟨a5, r5, e5, h5, h⟩ := h
  obtain ⟨x5, rfl⟩ := shL h5 rStr rfl rfl (fun d r h => shS h rfl)
  obtain ⟨a6, r6, e6, h6, h⟩ := h
  obtain ⟨x6, rfl⟩ := shS h6 rfl
  obtain ⟨a7, r7, e7, h7, h⟩ := h
  obtain ⟨x7, rfl⟩ := shB h7 rfl
  obtain ⟨a8, r8, e8, h8, h⟩ := h
  obtain ⟨x8, rfl⟩ := shS h8 rfl
  obtain ⟨a9, r9, e9, h9, h⟩ := h
  obtain ⟨x9, rfl⟩ := shB h9 rfl
  obtain ⟨a10, r10, e10, h10, h⟩ := h
  obtain ⟨x10, rfl⟩ := shS h10 rfl
  have h : r10 = [] := h
  refine ⟨⟨x0, x1, x2, x3, x4, x5, x6, x7, x8, x9, x10⟩, ?_⟩
  rw [e0, e1, e2, e3, e4, e5, e6, e7, e8, e9, e10, h]
  rfl
theorem sh_t110 {d : Nat} {cs : List CV} (h : Sh Tz.tab d 110 cs) : ∃ x : Go.Gx.Entry, cs = Go.Gx.Entry.cv x := by
  obtain ⟨d, h⟩ := shT h rfl rfl
  obtain ⟨a0, r0, e0, h0, h⟩ := h
  obtain ⟨x0, rfl⟩ := shI h0 rfl
  obtain ⟨a1, r1, e1, h1, h⟩ := h
  obtain ⟨x1, rfl⟩ := sh_t108 h1
  obtain ⟨a2, r2, e2, h2, h⟩ := h
  obtain ⟨x2, rfl⟩ := shI h2 rfl
  obtain ⟨a3, r3, e3, h3, h⟩ := h
  obtain ⟨x3, rfl⟩ := shI h3 rfl
  obtain ⟨a4, r4, e4, h4, h⟩ := h
  obtain ⟨x4, rfl⟩ := shS h4 rfl
  have h : r4 = [] := h
  refine ⟨⟨x0, x1, x2, x3, x4⟩, ?_⟩
  rw [e0, e1, e2, e3, e4, h]
  rfl
theorem sh_t59 {d : Nat} {cs : List CV} (h : Sh Tz.tab d 59 cs) : ∃ x : Go.Gx.Frame, cs = Go.Gx.Frame.cv x := by
  obtain ⟨d, h⟩ := shT h rfl rfl
  obtain ⟨a0, r0, e0, h0, h⟩ := h
  obtain ⟨x0, rfl⟩ := shI h0 rfl
  obtain ⟨a1, r1, e1, h1, h⟩ := h
  obtain ⟨x1, rfl⟩ := shS h1 rfl
  obtain ⟨a2, r2, e2, h2, h⟩ := h
  obtain ⟨x2, rfl⟩ := shL h2 rEntry rfl rfl (fun d r h => sh_t110 h)
  obtain ⟨a3, r3, e3, h3, h⟩ := h
  obtain ⟨x3, rfl⟩ := shB h3 rfl
  have h : r3 = [] := h
  refine ⟨⟨x0, x1, x2, x3⟩, ?_⟩
  rw [e0, e1, e2, e3, h]
  rfl
theorem sh_t24 {d : Nat} {cs : List CV} (h : Sh Tz.tab d 24 cs) : ∃ x : Go.Gx.Window, cs = Go.Gx.Window.cv x := by
  obtain ⟨d, h⟩ := shT h rfl rfl
  obtain ⟨a0, r0, e0, h0, h⟩ := h
  obtain ⟨x0, rfl⟩ := shL h0 rFrame rfl rfl (fun d r h => sh_t59 h)
  obtain ⟨a1, r1, e1, h1, h⟩ := h
  obtain ⟨x1, rfl⟩ := shI h1 rfl
  obtain ⟨a2, r2, e2, h2, h⟩ := h
  obtain ⟨x2, rfl⟩ := shI h2 rfl
  obtain ⟨a3, r3, e3, h3, h⟩ := h
  obtain ⟨x3, rfl⟩ := shI h3 rfl
  have h : r3 = [] := h
  refine ⟨⟨x0, x1, x2, x3⟩, ?_⟩
  rw [e0, e1, e2, e3, h]
  rfl
theorem dom_ok (cs : RV) (h : ShAll Tz.tab 9 Tryz.f3.params.toList cs) : dom3 tWindow tInt tBool (fun _ _ _ => True) cs ∧ fn3 tWindow tInt tBool (fun _ _ _ => [tBool.enc true]) cs = [(false, [.bool true])] := by
  rw [Tryz.params3] at h
  obtain ⟨c0, cs0, rfl, h0, hh0⟩ := shAll_cons h
  obtain ⟨x0, rfl⟩ := sh_t24 h0
  obtain ⟨c1, cs1, rfl, h1, hh1⟩ := shAll_cons hh0
  obtain ⟨x1, rfl⟩ := shI h1 rfl
  obtain ⟨c2, cs2, rfl, h2, hh2⟩ := shAll_cons hh1
  obtain ⟨x2, rfl⟩ := shB h2 rfl
  obtain rfl := shAll_nil hh2
  exact ⟨⟨⟨rfl, rfl, ⟨_, rfl⟩⟩, trivial, trivial, trivial⟩, rfl⟩
theorem own : ownKnob Tryz.prog.godebug = none := by kernel_rfl
theorem laidOut : laidOutB Tryz.prog = true := by kernel_rfl
def bulk (H : Type) : Bulk H where
  b := Rows.uptoBulk
  ba := Rows.uptoBulkAll
  str _ := rfl
  slc _ _ := rfl
  agg _ := rfl
  nil := rfl
  cons _ _ := rfl
  pos d := by
    cases d with
    | lit l => cases l <;> simp [Rows.uptoBulk]
    | _ => simp [Rows.uptoBulk]
theorem bulk_app {H : Type} (ds gs : List (DataW H)) : Rows.uptoBulkAll ds ≤ Rows.uptoBulkAll (ds ++ gs) := by
  induction ds with
  | nil => simp [Rows.uptoBulkAll]
  | cons d ds ih => simp only [List.cons_append, Rows.uptoBulkAll]; omega
theorem globs {W : World} (hL : laidMetH Tryz.prog Rows.fnExactWindowAskUptoRow.laid W) (hS : W.ShapedOpen Tryz.prog) : GOk Gl (heapS W) := by
  rw [MakeChecks.laidMetH_plain _ _ _ (by kernel_rfl)] at hL
  refine gok_cons (glob_strs (l := [[], [32, 34, 35, 60, 62, 63, 123, 125, 96], [32, 34, 35, 60, 62, 39], [32, 34, 60, 62, 96], [32, 34, 35, 60, 62, 63, 123, 125, 96, 47, 58, 59, 61, 64, 91, 92, 93, 94, 124], [32]]) (t := 64) (e := 9) (name := "loop.example/guilloche/impl.sets") (by kernel_rfl) (by kernel_rfl) Tryz.underlying64 Tryz.underlying9 (by kernel_rfl) (laidMet.reads hL (List.mem_of_getElem? (i := 4) rfl)) (by decide) (by decide)) ?_
  refine gok_cons (glob_any (zero := #[.int .i64 0]) (t := 3) hS (of_decide_eq_true (by kernel_rfl)) (by kernel_rfl) rfl (cell_of_shapedOpen_int hS (zero := #[.int .i64 0]) (t := 3) (of_decide_eq_true (by kernel_rfl)) (by kernel_rfl) rfl (by kernel_rfl) (by kernel_rfl) Tryz.underlying3)) ?_
  refine gok_cons (glob_tab (k := .u64) (zs := [1, 10, 100, 1000, 10000, 100000, 1000000, 10000000, 100000000, 1000000000, 10000000000, 100000000000, 1000000000000, 10000000000000, 100000000000000, 1000000000000000, 10000000000000000, 100000000000000000, 1000000000000000000, 10000000000000000000]) (t := 215) (e := 130) (n := 20) (name := "internal/strconv.uint64pow10") (by kernel_rfl) (by kernel_rfl) Tryz.underlying215 Tryz.underlying130 (by kernel_rfl) (by kernel_rfl) (laidMet.reads hL (List.mem_of_getElem? (i := 2) rfl)) (by unfold InR; decide)) gok_nil
theorem contract (H : Type) (enc : TypeId × Value → H) (W : World) (base : Nat) (args : Array Value) (ds gs : List (DataW H)) (before : List MemPlace)
    (hval : ∀ (j : Nat) t v, Tryz.f3.params[j]? = some t → args[j]? = some v → Value.okWide Tryz.prog W .any base t v)
    (hW : DataW.Whole enc Tryz.prog Tryz.f3.params.toList Rows.fnExactWindowAskSpec.vars false W args.toList ds gs before)
    (hk : Rows.uptoSmall H (ds ++ gs) = true) (hL : laidMetH Tryz.prog Rows.fnExactWindowAskUptoRow.laid W) (hS : W.ShapedOpen Tryz.prog) :
    Calls Tryz.prog 3 args W fun e W' => ∃ v, e = .returned v ∧ Rows.fnExactWindowAskSpec.post enc Tryz.prog Tryz.f3 false true false false W args v W' := by
  have hb : Rows.uptoBulkAll (ds ++ gs) ≤ 1048576 := of_decide_eq_true hk
  have hb1 := bulk_app ds gs
  have hlen := all_length hW.choose_spec.choose_spec.1
  have hlv := vars_length hW.choose_spec.choose_spec.2.1
  refine law_ok (dom := dom3 tWindow tInt tBool fun _ _ _ => True) (g := fn3 tWindow tInt tBool fun _ _ _ => [tBool.enc true]) Tz.tab_ok (bulk H) (d := 9) (tb := 4) ok3 laidOut (by kernel_rfl) (by kernel_rfl) (by kernel_rfl) (by kernel_rfl) Tryz.underlying4 (fun cs h => dom_ok cs h) (globs hL hS) hval hW ?_ (show Rows.uptoBulkAll ds ≤ 68719476736 by omega)
  obtain ⟨d0, d1, d2, rfl⟩ := list3 (ds := ds) (by simpa [Tryz.params3] using hlen)
  obtain ⟨g0, rfl⟩ := list1 (ds := gs) (by simpa [Rows.fnExactWindowAskSpec] using hlv)
  rfl
noncomputable def wit (os : Os) : World := World.laidAll Tryz.prog os Rows.fnExactWindowAskUptoRow.laid
def args0 : Array Value := #[.agg #[.slice none 0 0, .int .i64 0, .int .i64 0, .int .i64 0], .int .i64 0, .bool false]
theorem wit_laid (os : Os) : laidMetH Tryz.prog Rows.fnExactWindowAskUptoRow.laid ((wit os).forCall (fun _ _ => 0) ⟨#[], args0, []⟩).memory := by
  rw [MakeChecks.laidMetH_plain _ _ _ (by kernel_rfl)]
  exact laidMet_laidAll _ (by kernel_rfl) (by kernel_rfl)
theorem wit_reads (os : Os) {H : Type} (enc : TypeId × Value → H) : ((DataW.whole enc Tryz.prog ((wit os).forCall (fun _ _ => 0) ⟨#[], args0, []⟩).memory Tryz.f3.params.toList Rows.fnExactWindowAskSpec.vars false args0.toList 12).any fun x => Rows.uptoSmall H (x.1 ++ x.2.1)) = true := by kernel_rfl
theorem lifted (os : Os) (started : os.Started) (H : Type) (enc : TypeId × Value → H) (F : Stop.Interp) :
    ReturnsInHanded {} Tryz.checked os 3 .any ((Rows.OpenSpec.upto Rows.fnExactWindowAskSpec).preRow enc Tryz.prog Tryz.f3 Rows.fnExactWindowAskUptoRow.domain false Rows.fnExactWindowAskUptoRow.laid) (((Rows.OpenSpec.upto Rows.fnExactWindowAskSpec).at F).post enc Tryz.prog Tryz.f3 false true false false) := by
  have hr := wit_reads os enc
  obtain ⟨x, hx, hk⟩ := opt_any hr
  refine returnsInHanded_of_row (C := Tryz.checked) (s := Rows.OpenSpec.upto Rows.fnExactWindowAskSpec) own started (by kernel_rfl) Tryz.func3
    (witness_row_atRef (enc := enc) (C := Tryz.checked) false (wit os) args0 (World.laidAll_os _ _ _) (by kernel_rfl) (by kernel_rfl) (by kernel_rfl)
      (OpenSpec.preRow_of_cond 12 hx rfl (fun k hk' => by cases hk'; exact hk) (by kernel_rfl) (wit_laid os))) ?_
  intro W base args ds gs before hval hW _ hcond _ hL hS _
  exact contract H enc W base args ds gs before hval hW (hcond _ rfl) hL hS
theorem band {a b : Bool} (h : a = true) (g : b = true) : (a && b) = true := by rw [h, g]; rfl
theorem jf0 : (Rows.fnExactWindowAskUptoRow.wf (OpenSpec.ofChange (Rows.OpenSpec.upto Rows.fnExactWindowAskSpec).bare)) = true := by kernel_rfl
theorem jf1 : (laidOutB Tryz.pinned.checked.prog) = true := by kernel_rfl
theorem jf2 : (mapsRowed Tryz.pinned.checked.prog) = true := by kernel_rfl
theorem jf3 : (Tryz.f3.params.all (Tryz.pinned.checked.prog.readableRec ·)) = true := by kernel_rfl
theorem jf4 : (namedTie Tryz.pinned.checked.prog Rows.fnExactWindowAskUptoRow.named (Rows.OpenSpec.upto Rows.fnExactWindowAskSpec).bare.vars) = true := by kernel_rfl
theorem jf5 : ((Rows.fnExactWindowAskUptoRow.stops == [])) = true := by kernel_rfl
theorem jf6 : ((Tryz.pinned.checked.prog.stops == [])) = true := by kernel_rfl
theorem jf7 : ((Rows.fnExactWindowAskUptoRow.knobs == [])) = true := by kernel_rfl
theorem jf8 : ((Tryz.pinned.checked.prog.stopKnobs == [])) = true := by kernel_rfl
theorem jf9 : ((Rows.fnExactWindowAskUptoRow.inPlace == Tryz.pinned.checked.prog.inPlace 3)) = true := by kernel_rfl
theorem jf10 : ((Rows.fnExactWindowAskUptoRow.unfollowed == Tryz.pinned.checked.prog.unfollowed 3)) = true := by kernel_rfl
theorem jf11 : ((Rows.fnExactWindowAskUptoRow.recurses == Tryz.pinned.checked.prog.recurses 3)) = true := by kernel_rfl
theorem jf12 : ((Rows.fnExactWindowAskUptoRow.named == Tryz.pinned.checked.prog.varsNamed 3)) = true := by kernel_rfl
theorem jf13 : ((Rows.fnExactWindowAskUptoRow.maps == (Tryz.f3.params.toList ++ (Rows.OpenSpec.upto Rows.fnExactWindowAskSpec).bare.plain.varTypes Tryz.pinned.checked.prog).any (Tryz.pinned.checked.prog.mapsRec ·))) = true := by kernel_rfl
theorem jf14 : ((Rows.fnExactWindowAskUptoRow.ifaces == (Tryz.f3.params.toList ++ (Rows.OpenSpec.upto Rows.fnExactWindowAskSpec).bare.plain.varTypes Tryz.pinned.checked.prog).any (Tryz.pinned.checked.prog.ifacesRec ·))) = true := by kernel_rfl
theorem jf15 : ((Rows.fnExactWindowAskUptoRow.mapsOut == Tryz.pinned.checked.prog.mapsAmong Tryz.f3.resultTypes.toList)) = true := by kernel_rfl
theorem jf16 : ((Rows.fnExactWindowAskUptoRow.loops == (Tryz.f3.params.toList ++ (Rows.OpenSpec.upto Rows.fnExactWindowAskSpec).bare.plain.varTypes Tryz.pinned.checked.prog).any (Tryz.pinned.checked.prog.loopsFrom ·))) = true := by kernel_rfl
theorem jf17 : ((Rows.fnExactWindowAskUptoRow.wideKeys == (Tryz.f3.params.toList ++ (Rows.OpenSpec.upto Rows.fnExactWindowAskSpec).bare.plain.varTypes Tryz.pinned.checked.prog ++ Tryz.f3.resultTypes.toList).any (Tryz.pinned.checked.prog.wideKeysFrom ·))) = true := by kernel_rfl
theorem jf18 : ((Rows.OpenSpec.upto Rows.fnExactWindowAskSpec).bare.vars.all (Tryz.pinned.checked.prog.varReadable ·)) = true := by kernel_rfl
theorem jf19 : (Tryz.f3.resultTypes.all (fun t => Tryz.pinned.checked.prog.readableRec t && decide (t < Tryz.pinned.checked.prog.types.size))) = true := by kernel_rfl
theorem jf20 : ((Rows.fnExactWindowAskUptoRow.ifacesOut == Tryz.f3.resultTypes.toList.any (Tryz.pinned.checked.prog.ifacesRec ·))) = true := by kernel_rfl
theorem jf21 : ((Rows.fnExactWindowAskUptoRow.loopsOut == Tryz.f3.resultTypes.toList.any (Tryz.pinned.checked.prog.loopsFrom ·))) = true := by kernel_rfl
theorem jf22 : ((Rows.fnExactWindowAskUptoRow.plainKeys == Tryz.pinned.checked.prog.plainKeys)) = true := by kernel_rfl
theorem jf23 : (Rows.fnExactWindowAskUptoRow.shortTexts.isNone) = true := by kernel_rfl
theorem jf24 : (Tryz.pinned.checked.prog.stopsHeard) = true := by kernel_rfl
theorem jf25 : (Tryz.pinned.checked.prog.mayEnter) = true := by kernel_rfl
theorem jf26 : ((Rows.fnExactWindowAskUptoRow.lifted == Tryz.pinned.checked.prog.liftsFinal)) = true := by kernel_rfl
theorem jf27 : ((Tryz.pinned.checked.prog.make == some Rows.fnExactWindowAskUptoRow.make)) = true := by kernel_rfl
theorem jf29 : ((Rows.fnExactWindowAskUptoRow.pinned == Rows.fnExactWindowAskUptoRow.pinnedBy)) = true := by kernel_rfl
theorem jf30 : ((Rows.fnExactWindowAskUptoRow.veiled == (Tryz.f3.params.toList ++ (Rows.OpenSpec.upto Rows.fnExactWindowAskSpec).bare.plain.varTypes Tryz.pinned.checked.prog ++ Tryz.f3.resultTypes.toList).any (Tryz.pinned.checked.prog.veiledRec ·))) = true := by kernel_rfl
theorem jf31 : (Rows.fnExactWindowAskUptoRow.veiledFits Tryz.pinned.checked.prog Tryz.f3.params.toList (Tryz.f3.params.toList ++ (Rows.OpenSpec.upto Rows.fnExactWindowAskSpec).bare.plain.varTypes Tryz.pinned.checked.prog ++ Tryz.f3.resultTypes.toList)) = true := by kernel_rfl
theorem closed : joinedFacts Tryz.pinned.checked.prog 3 Tryz.f3 (Rows.OpenSpec.upto Rows.fnExactWindowAskSpec).bare Rows.fnExactWindowAskUptoRow = true := by
  unfold joinedFacts
  exact (band (band (band (band (band (band (band (band (band (band (band (band (band (band (band (band (band (band (band (band (band (band (band (band (band (band (band (band (band (band (band jf0 jf1) jf2) jf3) jf4) jf5) jf6) jf7) jf8) jf9) jf10) jf11) jf12) jf13) jf14) jf15) jf16) jf17) jf18) jf19) jf20) jf21) jf22) jf23) jf24) jf25) jf26) jf27) (by kernel_rfl)) jf29) jf30) jf31)
theorem named : Tryz.pinned.checked.prog.funcNamed Rows.fnExactWindowAskUptoRow.func = some 3 := by kernel_rfl
theorem inst : Tryz.f3.isInstance Tryz.pinned.checked.prog Rows.fnExactWindowAskUptoRow.origin Rows.fnExactWindowAskUptoRow.targs := of_decide_eq_true (by kernel_rfl)
theorem wrap : Tryz.f3.isWrapper Tryz.pinned.checked.prog Rows.fnExactWindowAskUptoRow.wrapper Rows.fnExactWindowAskUptoRow.mainSum := by
  unfold Func.isWrapper
  first | (rw [if_pos (by decide +kernel)]; kernel_rfl) | (rw [if_neg (by decide +kernel)]; exact ⟨rfl, rfl⟩)
theorem goes : false = Rows.fnExactWindowAskUptoRow.goesBy Tryz.pinned.checked.prog := by kernel_rfl
theorem wfBy : Rows.fnExactWindowAskUptoRow.wfByText (Rows.OpenSpec.upto Rows.fnExactWindowAskSpec) = true := by kernel_rfl
theorem mainIs : Tryz.pinned.checked.prog.mainIs = some ((Rows.fnExactWindowAskUptoCard.stood.harness).1, (Rows.fnExactWindowAskUptoCard.stood.harness).2.toList) := by kernel_rfl
theorem saidUpto : Rows.FnExactWindowAskUptoSaid :=
  OpenClaim.holds_of_cond 3 Tryz.f3 rfl rfl rfl rfl rfl rfl rfl ⟨rfl, rfl, rfl, rfl, rfl⟩ rfl rfl rfl rfl rfl named Tryz.func3 closed
    inst wrap
    (fun os started H enc _ F => by rw [OpenClaim.pre_eq_preRow]; exact lifted os started H enc F)
theorem plain (f : FuncId) (fn : Func) (hf : Tryz.pinned.checked.prog.funcNamed "loop.example/guilloche/laws.FnExactWindowAsk" = some f) (hfn : Tryz.pinned.checked.prog.funcs[f]? = some fn) :
    false = Tryz.pinned.checked.prog.looks [] ∧ ∀ (j : Nat) t, fn.params[j]? = some t → Tryz.pinned.checked.prog.wantsStandIn t = false := by
  obtain rfl : f = 3 := Option.some.inj ((show Tryz.prog.funcNamed "loop.example/guilloche/laws.FnExactWindowAsk" = some 3 by kernel_rfl).symm.trans hf) |>.symm
  obtain rfl : fn = Tryz.f3 := (Option.some.inj (Tryz.func3.symm.trans hfn)).symm
  refine ⟨by kernel_rfl, fun j t ht => ?_⟩
  have hall : (Tryz.f3.params.all fun t => !Tryz.prog.wantsStandIn t) = true := by kernel_rfl
  have := Array.all_eq_true_iff_forall_mem.1 hall t (Array.mem_of_getElem? ht)
  have h2 : Tryz.prog.wantsStandIn t = false := by simpa using this
  exact h2
theorem card : Rows.FnExactWindowAskUptoCardSaid :=
  Claim7.holds_tied_plain_at .later [] _ _ _ _ saidUpto (fun _ h => by cases h) wfBy (fun _ h => by cases h) fnExactWindowAskUpto_row_tie rfl ⟨rfl, rfl⟩ mainIs rfl plain goes
#print axioms card
end Go.Proofs.YtingolkleldegaaGreatDoor.fnExactWindowAsk
end

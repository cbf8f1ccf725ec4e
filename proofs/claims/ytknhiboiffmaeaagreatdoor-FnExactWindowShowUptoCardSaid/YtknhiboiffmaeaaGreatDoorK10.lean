/- laws.Rows.FnExactWindowShow: what the given card says of it. No condition beyond the card's own: what comes in holds at most 1048576 values and letters. -/
import Derived.Test.YtknhiboiffmaeaaGreatDoorK09
import Derived.KernelRfl
import Derived.ChangeArms
import Derived.ChangeMaps5
import Derived.OpenVars
import Derived.ChangeSame
import Derived.Lib.LaidU8
import Derived.Lib.LaidTab
import Derived.Test.YtknhiboiffmaeaaGreatDoorCards
import Derived.Test.YtknhiboiffmaeaaGreatDoorTie
import Derived.Deep.DeepWitnessRowRef
import Derived.Lay
import Derived.MakeChecks
import Derived.Test.YtknhiboiffmaeaaGreatDoorK01
import Derived.Test.YtknhiboiffmaeaaGreatDoorK02
import Derived.Test.YtknhiboiffmaeaaGreatDoorK03
import Derived.Test.YtknhiboiffmaeaaGreatDoorK04
import Derived.Test.YtknhiboiffmaeaaGreatDoorK05
import Derived.Test.YtknhiboiffmaeaaGreatDoorK06
import Derived.Test.YtknhiboiffmaeaaGreatDoorK07
import Derived.Test.YtknhiboiffmaeaaGreatDoorK08
set_option linter.unusedVariables false
set_option linter.unusedSimpArgs false
set_option maxRecDepth 100000
section
namespace Go.Gx
open Go.Proofs
def E56 : Env := { T := Tz.tab, G := Gl, C := [(109, ct109)], live := [(0, [2, 3]), (1, [2, 3, 9]), (2, [4]), (3, [2, 3, 15]), (4, [4]), (5, [2, 3, 20]), (6, [4]), (7, [2, 3, 25]), (8, [4]), (9, [30]), (10, [4]), (11, [4])] }
def ct56 : Ct := .scal (dom2 tEntry tEntry (fun a b => True)) (fn2 tEntry tEntry fun a b => [tBool.enc (decide (a = b))])
attribute [go_sem] E56 ct56 Go.Proofs.Tryz.f56
set_option maxHeartbeats 1000000 in
theorem ok56 : CtOk Tryz.prog Gl 56 ct56 := okA2 (E := E56) (sound_of Tz.tab_ok Tz.mixed (AllOk.cons ok109 AllOk.nil)) rfl Tryz.func56 (by kernel_rfl) fun a b fa fb hp => by
  have ga := fa
  have fa := fit_entry fa
  have gb := fb
  have fb := fit_entry fb
  refine vcFn_intro rfl rfl (by kernel_rfl) rfl ?_
  repeat (dsimp +instances only [go_sem, Nat.reduceBEq, Nat.reduceAdd, Nat.reduceSub, Nat.reduceLT, Nat.reduceLeDiff]; try simp only [bb, Nat.reduceAdd, Int.reduceToNat, Int.reduceLE, Int.reduceLT, Nat.reduceLT, Nat.reduceMul, Nat.reduceLeDiff])
  try simp only [nn, reduceCtorEq]
  obtain ⟨a0, a1, a2, a3, a4⟩ := a
  obtain ⟨b0, b1, b2, b3, b4⟩ := b
  simp only [Entry.mk.injEq]
  clear ga gb fa fb
  (repeat' (first | refine And.intro ?_ ?_ | intro _)) <;> try first | omega | trivial
  all_goals grind
def E21 : Env := { T := Tz.tab, G := Gl, C := [(56, ct56)], live := [(0, [0, 1]), (1, [0, 1, 10]), (2, [4]), (3, [0, 1, 5]), (4, [0, 1, 5, 14]), (5, [0, 1, 5]), (6, [0, 1, 5, 26]), (7, [4]), (8, [4])] }
def ct21 : Ct := .scal (dom2 tEntryS tEntryS (fun a b => True)) (fn2 tEntryS tEntryS fun a b => [tBool.enc (decide (a = b))])
attribute [go_sem] E21 ct21 Go.Proofs.Tryz.f21
set_option maxHeartbeats 1000000 in
theorem ok21 : CtOk Tryz.prog Gl 21 ct21 := okA2 (E := E21) (sound_of Tz.tab_ok Tz.mixed (AllOk.cons ok56 AllOk.nil)) rfl Tryz.func21 (by kernel_rfl) fun a b fa fb hp => by
  have ga := fa
  have fa := fit_list fa
  have gb := fb
  have fb := fit_list fb
  refine vcFn_intro rfl rfl (by kernel_rfl) rfl ?_
  repeat (dsimp +instances only [go_sem, Nat.reduceBEq, Nat.reduceAdd, Nat.reduceSub, Nat.reduceLT, Nat.reduceLeDiff]; try simp only [bb, Nat.reduceAdd, Int.reduceToNat, Int.reduceLE, Int.reduceLT, Nat.reduceLT, Nat.reduceMul, Nat.reduceLeDiff])
  try simp only [nn, reduceCtorEq]
  refine ⟨fun h => ?_, fun h => ?_⟩
  · rw [eq_comm, decide_eq_false_iff_not]; rintro rfl; exact h rfl
  refine vcC_loop [0, 1, 5] (fun (i : Nat) => i ≤ a.length ∧ a.take i = b.take i) (fun i => [.cv (.sl 17 (a.map rEntry.enc)), .cv (.sl 17 (b.map rEntry.enc)), .cv (.int .i64 i)]) (fun _ => []) (fun i => a.length - i) 0 (by simp) ⟨rfl, rfl⟩ ?_
  rintro i ⟨hi, he⟩
  rcases Nat.lt_or_ge i a.length with hlt | hge
  · have hlt2 : i < b.length := by omega
    have hg := getD_at rEntry hlt
    have hg2 := getD_at rEntry hlt2
    try dsimp +instances only [go_sem, Nat.reduceBEq, Nat.reduceAdd, Nat.reduceSub, Nat.reduceLT, Nat.reduceLeDiff]
    repeat (simp only [hg, hg2, rEntry_enc, Int.toNat_natCast, bb, Nat.reduceAdd, Int.reduceToNat, Int.reduceLE, Int.reduceLT, Nat.reduceLT, Nat.reduceMul, Nat.reduceLeDiff]; try dsimp +instances only [go_sem, Nat.reduceBEq, Nat.reduceAdd, Nat.reduceSub, Nat.reduceLT, Nat.reduceLeDiff])
    try simp only [nn, reduceCtorEq, hlt, hlt2, decide_true]
    (repeat' (first | refine And.intro ?_ ?_ | intro _)) <;> try first | omega | trivial
    all_goals first
    | (rename_i h9; rw [eq_comm, decide_eq_false_iff_not]; rintro rfl; exact h9 rfl)
    | (rename_i h9; exact nextL_intro (i + 1) ⟨by omega, by rw [take_snoc hlt, take_snoc hlt2, he, h9]⟩ (by omega) rfl rfl)
  · have : i = a.length := by omega
    subst this
    rw [List.take_length, h, List.take_length] at he
    repeat (dsimp +instances only [go_sem, Nat.reduceBEq, Nat.reduceAdd, Nat.reduceSub, Nat.reduceLT, Nat.reduceLeDiff]; try simp only [bb, Nat.reduceAdd, Int.reduceToNat, Int.reduceLE, Int.reduceLT, Nat.reduceLT, Nat.reduceMul, Nat.reduceLeDiff])
    try simp only [nn, reduceCtorEq, Nat.lt_irrefl]
    simp [he]
def E79 : Env := { T := Tz.tab, G := Gl, C := [(21, ct21)], live := [(0, [2, 3]), (1, [2, 3, 9]), (2, [4]), (3, [2, 3, 14]), (4, [4]), (5, [2, 3, 20]), (6, [4]), (7, [25]), (8, [4]), (9, [4])] }
def ct79 : Ct := .scal (dom2 tFrame tFrame (fun a b => True)) (fn2 tFrame tFrame fun a b => [tBool.enc (decide (a = b))])
attribute [go_sem] E79 ct79 Go.Proofs.Tryz.f79
set_option maxHeartbeats 1000000 in
theorem ok79 : CtOk Tryz.prog Gl 79 ct79 := okA2 (E := E79) (sound_of Tz.tab_ok Tz.mixed (AllOk.cons ok21 AllOk.nil)) rfl Tryz.func79 (by kernel_rfl) fun a b fa fb hp => by
  have ga := fa
  have fa := fit_frame fa
  have gb := fb
  have fb := fit_frame fb
  refine vcFn_intro rfl rfl (by kernel_rfl) rfl ?_
  repeat (dsimp +instances only [go_sem, Nat.reduceBEq, Nat.reduceAdd, Nat.reduceSub, Nat.reduceLT, Nat.reduceLeDiff]; try simp only [bb, Nat.reduceAdd, Int.reduceToNat, Int.reduceLE, Int.reduceLT, Nat.reduceLT, Nat.reduceMul, Nat.reduceLeDiff])
  try simp only [nn, reduceCtorEq]
  obtain ⟨a0, a1, a2, a3⟩ := a
  obtain ⟨b0, b1, b2, b3⟩ := b
  simp only [Frame.mk.injEq]
  clear ga gb fa fb
  (repeat' (first | refine And.intro ?_ ?_ | intro _)) <;> try first | omega | trivial
  all_goals grind
def E31 : Env := { T := Tz.tab, G := Gl, C := [(79, ct79)], live := [(0, [0, 1]), (1, [0, 1, 10]), (2, [4]), (3, [0, 1, 5]), (4, [0, 1, 5, 14]), (5, [0, 1, 5]), (6, [0, 1, 5, 26]), (7, [4]), (8, [4])] }
def ct31 : Ct := .scal (dom2 tFrameS tFrameS (fun a b => True)) (fn2 tFrameS tFrameS fun a b => [tBool.enc (decide (a = b))])
attribute [go_sem] E31 ct31 Go.Proofs.Tryz.f31
set_option maxHeartbeats 1000000 in
theorem ok31 : CtOk Tryz.prog Gl 31 ct31 := okA2 (E := E31) (sound_of Tz.tab_ok Tz.mixed (AllOk.cons ok79 AllOk.nil)) rfl Tryz.func31 (by kernel_rfl) fun a b fa fb hp => by
  have ga := fa
  have fa := fit_list fa
  have gb := fb
  have fb := fit_list fb
  refine vcFn_intro rfl rfl (by kernel_rfl) rfl ?_
  repeat (dsimp +instances only [go_sem, Nat.reduceBEq, Nat.reduceAdd, Nat.reduceSub, Nat.reduceLT, Nat.reduceLeDiff]; try simp only [bb, Nat.reduceAdd, Int.reduceToNat, Int.reduceLE, Int.reduceLT, Nat.reduceLT, Nat.reduceMul, Nat.reduceLeDiff])
  try simp only [nn, reduceCtorEq]
  refine ⟨fun h => ?_, fun h => ?_⟩
  · rw [eq_comm, decide_eq_false_iff_not]; rintro rfl; exact h rfl
  refine vcC_loop [0, 1, 5] (fun (i : Nat) => i ≤ a.length ∧ a.take i = b.take i) (fun i => [.cv (.sl 4 (a.map rFrame.enc)), .cv (.sl 4 (b.map rFrame.enc)), .cv (.int .i64 i)]) (fun _ => []) (fun i => a.length - i) 0 (by simp) ⟨rfl, rfl⟩ ?_
  rintro i ⟨hi, he⟩
  rcases Nat.lt_or_ge i a.length with hlt | hge
  · have hlt2 : i < b.length := by omega
    have hg := getD_at rFrame hlt
    have hg2 := getD_at rFrame hlt2
    try dsimp +instances only [go_sem, Nat.reduceBEq, Nat.reduceAdd, Nat.reduceSub, Nat.reduceLT, Nat.reduceLeDiff]
    repeat (simp only [hg, hg2, rFrame_enc, Int.toNat_natCast, bb, Nat.reduceAdd, Int.reduceToNat, Int.reduceLE, Int.reduceLT, Nat.reduceLT, Nat.reduceMul, Nat.reduceLeDiff]; try dsimp +instances only [go_sem, Nat.reduceBEq, Nat.reduceAdd, Nat.reduceSub, Nat.reduceLT, Nat.reduceLeDiff])
    try simp only [nn, reduceCtorEq, hlt, hlt2, decide_true]
    (repeat' (first | refine And.intro ?_ ?_ | intro _)) <;> try first | omega | trivial
    all_goals first
    | (rename_i h9; rw [eq_comm, decide_eq_false_iff_not]; rintro rfl; exact h9 rfl)
    | (rename_i h9; exact nextL_intro (i + 1) ⟨by omega, by rw [take_snoc hlt, take_snoc hlt2, he, h9]⟩ (by omega) rfl rfl)
  · have : i = a.length := by omega
    subst this
    rw [List.take_length, h, List.take_length] at he
    repeat (dsimp +instances only [go_sem, Nat.reduceBEq, Nat.reduceAdd, Nat.reduceSub, Nat.reduceLT, Nat.reduceLeDiff]; try simp only [bb, Nat.reduceAdd, Int.reduceToNat, Int.reduceLE, Int.reduceLT, Nat.reduceLT, Nat.reduceMul, Nat.reduceLeDiff])
    try simp only [nn, reduceCtorEq, Nat.lt_irrefl]
    simp [he]
def E11 : Env := { T := Tz.tab, G := Gl, C := [(31, ct31)], live := [(0, [2, 3]), (1, [2, 3, 10]), (2, [4]), (3, [2, 3, 15]), (4, [4]), (5, [2, 3, 20]), (6, [4]), (7, [25]), (8, [4]), (9, [4])] }
def ct11 : Ct := .scal (dom2 tWindow tWindow (fun a b => True)) (fn2 tWindow tWindow fun a b => [tBool.enc (decide (a = b))])
attribute [go_sem] E11 ct11 Go.Proofs.Tryz.f11
set_option maxHeartbeats 1000000 in
theorem ok11 : CtOk Tryz.prog Gl 11 ct11 := okA2 (E := E11) (sound_of Tz.tab_ok Tz.mixed (AllOk.cons ok31 AllOk.nil)) rfl Tryz.func11 (by kernel_rfl) fun a b fa fb hp => by
  have ga := fa
  have fa := fit_window fa
  have gb := fb
  have fb := fit_window fb
  refine vcFn_intro rfl rfl (by kernel_rfl) rfl ?_
  repeat (dsimp +instances only [go_sem, Nat.reduceBEq, Nat.reduceAdd, Nat.reduceSub, Nat.reduceLT, Nat.reduceLeDiff]; try simp only [bb, Nat.reduceAdd, Int.reduceToNat, Int.reduceLE, Int.reduceLT, Nat.reduceLT, Nat.reduceMul, Nat.reduceLeDiff])
  try simp only [nn, reduceCtorEq]
  obtain ⟨a0, a1, a2, a3⟩ := a
  obtain ⟨b0, b1, b2, b3⟩ := b
  simp only [Window.mk.injEq]
  clear ga gb fa fb
  (repeat' (first | refine And.intro ?_ ?_ | intro _)) <;> try first | omega | trivial
  all_goals grind
attribute [go_sem] Go.Proofs.Tryz.f99
attribute [go_sem] Go.Proofs.Tryz.f50
attribute [go_sem] Go.Proofs.Tryz.f51
attribute [go_sem] Go.Proofs.Tryz.f18
end Go.Gx
end
section
namespace Go.Gx
open Go.Proofs
theorem take_mk {α β : Type} (f : α → β) (l m : List α) (h : m.length = l.length) : List.take l.length (m.map f) = m.map f := List.take_of_length_le (by simp [h])
theorem take_strs {β : Type} (f : Str → β) (l : List Str) (k : Int) : List.take l.length ((markStrs l k).1.map f) = (markStrs l k).1.map f := take_mk f _ _ (markStrs_len l k)
theorem ex_enc {α : Type} (R : Rw α) (l : List α) : (∃ x : List α, l.map R.enc = x.map R.enc) = True := eq_true ⟨l, rfl⟩
theorem pathPut_len : ∀ l : List Str, (PathPut l).length = l.length + sumL l
  | [] => rfl
  | s :: r => by simp [PathPut, pathPut_len r, sumL]; omega
theorem szTo_ok {n left : Int} (h : ¬ szTo n left < 0) (hl : 0 ≤ left) : n ≤ left := by
  unfold szTo at h; split at h <;> omega
end Go.Gx
end
section
namespace Go.Gx
open Go.Proofs
def zEntry : List CV := [.int .i64 0, .str [], .str [], .str [], .int .i64 0, .str [], .int .i64 0, .int .i64 0, .sl 1 [], .str [], .bool false, .str [], .bool false, .str [], .int .i64 0, .int .i64 0, .str []]
def zFrame : List CV := [.int .i64 0, .str [], .sl 17 [], .bool false]
theorem zEntry_len : zEntry.length = 17 := rfl
theorem zEntry_drop : zEntry.drop 17 = [] := rfl
theorem zFrame_len : zFrame.length = 4 := rfl
theorem zFrame_drop : zFrame.drop 4 = [] := rfl
theorem szTo_cases (n left : Int) : (left - n < 0 ∧ szTo n left = -1) ∨ (0 ≤ left - n ∧ szTo n left = left - n) := by
  unfold szTo; split <;> omega
def urlC (u : Url) : Int := u.Scheme.length + u.User.length + u.Pass.length + u.Host.Name.length + (u.Path.length + sumL u.Path) + u.Opaque.length + u.Query.length + u.Frag.length
def entC (e : Entry) : Int := urlC e.Url + e.State.length
def sumE : List Entry → Int
  | [] => 0
  | e :: r => entC e + sumE r
def frmC (f : Frame) : Int := f.Name.length + (f.Hist.length + sumE f.Hist)
def sumF : List Frame → Int
  | [] => 0
  | f :: r => frmC f + sumF r
theorem urlC_nn (u : Url) : 0 ≤ urlC u := by unfold urlC; omega
theorem entC_nn (e : Entry) : 0 ≤ entC e := by have := urlC_nn e.Url; unfold entC; omega
theorem sumE_nn : ∀ l : List Entry, 0 ≤ sumE l
  | [] => Int.le_refl 0
  | e :: r => by have := entC_nn e; have := sumE_nn r; rw [sumE]; omega
theorem frmC_nn (f : Frame) : 0 ≤ frmC f := by have := sumE_nn f.Hist; unfold frmC; omega
theorem sumF_nn : ∀ l : List Frame, 0 ≤ sumF l
  | [] => Int.le_refl 0
  | f :: r => by have := frmC_nn f; have := sumF_nn r; rw [sumF]; omega
def winC (w : Window) : Int := w.Frames.length + sumF w.Frames
theorem sumE_mem : ∀ (l : List Entry), ∀ e ∈ l, entC e ≤ sumE l
  | a :: r, e, he => by
    have := entC_nn a; have := sumE_nn r
    rw [sumE]
    rcases List.mem_cons.1 he with rfl | he
    · omega
    · have := sumE_mem r e he; omega
theorem sumF_mem : ∀ (l : List Frame), ∀ f ∈ l, frmC f ≤ sumF l
  | a :: r, e, he => by
    have := frmC_nn a; have := sumF_nn r
    rw [sumF]
    rcases List.mem_cons.1 he with rfl | he
    · omega
    · have := sumF_mem r e he; omega
def E150 : Env := { T := Tz.tab, G := Gl, C := [(188, ct188)], live := [(0, [1, 2]), (1, [1, 2]), (2, [1, 2, 10]), (3, [4]), (4, [1]), (5, [1, 17]), (6, [4]), (7, [4])] }
def ct150 : Ct := .scal (dom2 tEntry tInt (fun a left => 0 ≤ left ∧ left ≤ 1048576)) (fn2 tEntry tInt fun a left => [tInt.enc (szTo (entC a) left)])
attribute [go_sem] E150 ct150 Go.Proofs.Tryz.f150
theorem ok150 : CtOk Tryz.prog Gl 150 ct150 := okA2 (E := E150) (sound_of Tz.tab_ok Tz.mixed (AllOk.cons ok188 AllOk.nil)) rfl Tryz.func150 (by kernel_rfl) fun a left fa fleft hp => by
  have ga := fa
  have fa := fit_entry fa
  have fleft := fit_int fleft
  refine vcFn_intro rfl rfl (by kernel_rfl) rfl ?_
  have h1 := szTo_cases (urlC a.Url) left
  have h2 := szTo_cases (entC a) left
  have h3 : entC a = urlC a.Url + a.State.length := rfl
  have h4 := urlC_nn a.Url
  simp only [urlC] at h1 h3 h4
  cases fa
  repeat (dsimp +instances only [go_sem, Nat.reduceBEq, Nat.reduceAdd, Nat.reduceSub, Nat.reduceLT, Nat.reduceLeDiff]; try simp only [bb, Nat.reduceAdd, Int.reduceToNat, Int.reduceLE, Int.reduceLT, Nat.reduceLT, Nat.reduceMul, Nat.reduceLeDiff])
  try simp only [nn, reduceCtorEq]
  (repeat' (first | refine And.intro ?_ ?_ | intro _)) <;> try first | omega | trivial
  all_goals grind
def E110 : Env := { T := Tz.tab, G := Gl, C := [(150, ct150)], live := [(0, [0, 1]), (1, [0, 1]), (2, [0, 1, 11]), (3, [4]), (4, [0, 1, 5]), (5, [0, 1, 5, 15]), (6, [0, 1, 5]), (7, [0, 1, 5]), (8, [0, 1, 5, 25]), (9, [4]), (10, [4])] }
def ct110 : Ct := .scal (dom2 tEntryS tInt (fun a left => 0 ≤ left ∧ left ≤ 1048576)) (fn2 tEntryS tInt fun a left => [tInt.enc (szTo (a.length + sumE a) left)])
attribute [go_sem] E110 ct110 Go.Proofs.Tryz.f110
theorem ok110 : CtOk Tryz.prog Gl 110 ct110 := okA2 (E := E110) (sound_of Tz.tab_ok Tz.mixed (AllOk.cons ok150 AllOk.nil)) rfl Tryz.func110 (by kernel_rfl) fun a left fa fleft hp => by
  have ga := fa
  have fa := fit_list fa
  have fleft := fit_int fleft
  refine vcFn_intro rfl rfl (by kernel_rfl) rfl ?_
  obtain ⟨hp0, hp1⟩ := hp
  have hnn := sumE_nn a
  repeat (dsimp +instances only [go_sem, Nat.reduceBEq, Nat.reduceAdd, Nat.reduceSub, Nat.reduceLT, Nat.reduceLeDiff]; try simp only [bb, Nat.reduceAdd, Int.reduceToNat, Int.reduceLE, Int.reduceLT, Nat.reduceLT, Nat.reduceMul, Nat.reduceLeDiff])
  try simp only [nn, reduceCtorEq]
  refine ⟨by omega, fun h => by rw [szTo, if_pos (by omega)], fun h => ?_⟩
  refine vcC_loop [0, 1, 5] (fun (x : Nat × Int) => x.1 ≤ a.length ∧ 0 ≤ x.2 ∧ x.2 ≤ 1048576 ∧ x.2 - sumE (a.drop x.1) = left - (a.length + sumE a)) (fun x => [.cv (.sl 17 (a.map rEntry.enc)), .cv (.int .i64 x.2), .cv (.int .i64 x.1)]) (fun _ => []) (fun x => a.length - x.1) (0, left - a.length) ⟨by simp, by simp only; omega, by simp only; omega, by simp only [List.drop_zero]; omega⟩ ⟨rfl, rfl⟩ ?_
  rintro ⟨i, q⟩ ⟨hi, hq, hq2, he⟩
  simp only at hi hq hq2 he
  rcases Nat.lt_or_ge i a.length with hlt | hge
  · have hg := getD_at rEntry hlt
    rw [List.drop_eq_getElem_cons hlt, sumE] at he
    have hn1 := entC_nn a[i]
    have hn2 := sumE_nn (a.drop (i + 1))
    have hst := szTo_cases (entC a[i]) q
    generalize a[i] = e at *
    try dsimp +instances only [go_sem, Nat.reduceBEq, Nat.reduceAdd, Nat.reduceSub, Nat.reduceLT, Nat.reduceLeDiff]
    repeat (simp only [hg, rEntry_enc, Int.toNat_natCast, bb, Nat.reduceAdd, Int.reduceToNat, Int.reduceLE, Int.reduceLT, Nat.reduceLT, Nat.reduceMul, Nat.reduceLeDiff]; try dsimp +instances only [go_sem, Nat.reduceBEq, Nat.reduceAdd, Nat.reduceSub, Nat.reduceLT, Nat.reduceLeDiff])
    try simp only [nn, reduceCtorEq, hlt, decide_true]
    refine ⟨⟨by omega, by omega⟩, fun h => ?_, fun h => ⟨by omega, nextL_intro (i + 1, szTo (entC e) q) ⟨by simp only; omega, by simp only; omega, by simp only; omega, by simp only; omega⟩ (by simp only; omega) rfl rfl⟩⟩
    rw [szTo, if_pos (by omega)]
  · have : i = a.length := by omega
    subst this
    rw [List.drop_length, sumE] at he
    repeat (dsimp +instances only [go_sem, Nat.reduceBEq, Nat.reduceAdd, Nat.reduceSub, Nat.reduceLT, Nat.reduceLeDiff]; try simp only [bb, Nat.reduceAdd, Int.reduceToNat, Int.reduceLE, Int.reduceLT, Nat.reduceLT, Nat.reduceMul, Nat.reduceLeDiff])
    try simp only [nn, reduceCtorEq, Nat.lt_irrefl]
    rw [szTo, if_neg (by omega)]; omega
def E61 : Env := { T := Tz.tab, G := Gl, C := [(110, ct110)], live := [(0, [1, 2]), (1, [1, 2]), (2, [1, 2, 11]), (3, [4]), (4, [1]), (5, [1, 17]), (6, [4]), (7, [4])] }
def ct61 : Ct := .scal (dom2 tFrame tInt (fun a left => 0 ≤ left ∧ left ≤ 1048576)) (fn2 tFrame tInt fun a left => [tInt.enc (szTo (frmC a) left)])
attribute [go_sem] E61 ct61 Go.Proofs.Tryz.f61
theorem ok61 : CtOk Tryz.prog Gl 61 ct61 := okA2 (E := E61) (sound_of Tz.tab_ok Tz.mixed (AllOk.cons ok110 AllOk.nil)) rfl Tryz.func61 (by kernel_rfl) fun a left fa fleft hp => by
  have ga := fa
  have fa := fit_frame fa
  have fleft := fit_int fleft
  refine vcFn_intro rfl rfl (by kernel_rfl) rfl ?_
  have h1 := szTo_cases (a.Hist.length + sumE a.Hist) (left - a.Name.length)
  have h2 := szTo_cases (frmC a) left
  have h3 : frmC a = a.Name.length + (a.Hist.length + sumE a.Hist) := rfl
  have h4 := sumE_nn a.Hist
  cases fa
  repeat (dsimp +instances only [go_sem, Nat.reduceBEq, Nat.reduceAdd, Nat.reduceSub, Nat.reduceLT, Nat.reduceLeDiff]; try simp only [bb, Nat.reduceAdd, Int.reduceToNat, Int.reduceLE, Int.reduceLT, Nat.reduceLT, Nat.reduceMul, Nat.reduceLeDiff])
  try simp only [nn, reduceCtorEq]
  (repeat' (first | refine And.intro ?_ ?_ | intro _)) <;> try first | omega | trivial
  all_goals grind
def E25 : Env := { T := Tz.tab, G := Gl, C := [(61, ct61)], live := [(0, [0, 1]), (1, [0, 1]), (2, [0, 1, 11]), (3, [4]), (4, [0, 1, 5]), (5, [0, 1, 5, 15]), (6, [0, 1, 5]), (7, [0, 1, 5]), (8, [0, 1, 5, 25]), (9, [4]), (10, [4])] }
def ct25 : Ct := .scal (dom2 tFrameS tInt (fun a left => 0 ≤ left ∧ left ≤ 1048576)) (fn2 tFrameS tInt fun a left => [tInt.enc (szTo (a.length + sumF a) left)])
attribute [go_sem] E25 ct25 Go.Proofs.Tryz.f25
theorem ok25 : CtOk Tryz.prog Gl 25 ct25 := okA2 (E := E25) (sound_of Tz.tab_ok Tz.mixed (AllOk.cons ok61 AllOk.nil)) rfl Tryz.func25 (by kernel_rfl) fun a left fa fleft hp => by
  have ga := fa
  have fa := fit_list fa
  have fleft := fit_int fleft
  refine vcFn_intro rfl rfl (by kernel_rfl) rfl ?_
  obtain ⟨hp0, hp1⟩ := hp
  have hnn := sumF_nn a
  repeat (dsimp +instances only [go_sem, Nat.reduceBEq, Nat.reduceAdd, Nat.reduceSub, Nat.reduceLT, Nat.reduceLeDiff]; try simp only [bb, Nat.reduceAdd, Int.reduceToNat, Int.reduceLE, Int.reduceLT, Nat.reduceLT, Nat.reduceMul, Nat.reduceLeDiff])
  try simp only [nn, reduceCtorEq]
  refine ⟨by omega, fun h => by rw [szTo, if_pos (by omega)], fun h => ?_⟩
  refine vcC_loop [0, 1, 5] (fun (x : Nat × Int) => x.1 ≤ a.length ∧ 0 ≤ x.2 ∧ x.2 ≤ 1048576 ∧ x.2 - sumF (a.drop x.1) = left - (a.length + sumF a)) (fun x => [.cv (.sl 4 (a.map rFrame.enc)), .cv (.int .i64 x.2), .cv (.int .i64 x.1)]) (fun _ => []) (fun x => a.length - x.1) (0, left - a.length) ⟨by simp, by simp only; omega, by simp only; omega, by simp only [List.drop_zero]; omega⟩ ⟨rfl, rfl⟩ ?_
  rintro ⟨i, q⟩ ⟨hi, hq, hq2, he⟩
  simp only at hi hq hq2 he
  rcases Nat.lt_or_ge i a.length with hlt | hge
  · have hg := getD_at rFrame hlt
    rw [List.drop_eq_getElem_cons hlt, sumF] at he
    have hn1 := frmC_nn a[i]
    have hn2 := sumF_nn (a.drop (i + 1))
    have hst := szTo_cases (frmC a[i]) q
    generalize a[i] = e at *
    try dsimp +instances only [go_sem, Nat.reduceBEq, Nat.reduceAdd, Nat.reduceSub, Nat.reduceLT, Nat.reduceLeDiff]
    repeat (simp only [hg, rFrame_enc, Int.toNat_natCast, bb, Nat.reduceAdd, Int.reduceToNat, Int.reduceLE, Int.reduceLT, Nat.reduceLT, Nat.reduceMul, Nat.reduceLeDiff]; try dsimp +instances only [go_sem, Nat.reduceBEq, Nat.reduceAdd, Nat.reduceSub, Nat.reduceLT, Nat.reduceLeDiff])
    try simp only [nn, reduceCtorEq, hlt, decide_true]
    refine ⟨⟨by omega, by omega⟩, fun h => ?_, fun h => ⟨by omega, nextL_intro (i + 1, szTo (frmC e) q) ⟨by simp only; omega, by simp only; omega, by simp only; omega, by simp only; omega⟩ (by simp only; omega) rfl rfl⟩⟩
    rw [szTo, if_pos (by omega)]
  · have : i = a.length := by omega
    subst this
    rw [List.drop_length, sumF] at he
    repeat (dsimp +instances only [go_sem, Nat.reduceBEq, Nat.reduceAdd, Nat.reduceSub, Nat.reduceLT, Nat.reduceLeDiff]; try simp only [bb, Nat.reduceAdd, Int.reduceToNat, Int.reduceLE, Int.reduceLT, Nat.reduceLT, Nat.reduceMul, Nat.reduceLeDiff])
    try simp only [nn, reduceCtorEq, Nat.lt_irrefl]
    rw [szTo, if_neg (by omega)]; omega
def E7 : Env := { T := Tz.tab, G := Gl, C := [(25, ct25)], live := [(0, [1, 2]), (1, [1]), (2, [1, 10]), (3, [4]), (4, [4])] }
def ct7 : Ct := .scal (dom2 tWindow tInt (fun a left => 0 ≤ left ∧ left ≤ 1048576)) (fn2 tWindow tInt fun a left => [tInt.enc (szTo (winC a) left)])
attribute [go_sem] E7 ct7 Go.Proofs.Tryz.f7
theorem ok7 : CtOk Tryz.prog Gl 7 ct7 := okA2 (E := E7) (sound_of Tz.tab_ok Tz.mixed (AllOk.cons ok25 AllOk.nil)) rfl Tryz.func7 (by kernel_rfl) fun a left fa fleft hp => by
  have ga := fa
  have fa := fit_window fa
  have fleft := fit_int fleft
  refine vcFn_intro rfl rfl (by kernel_rfl) rfl ?_
  have h1 := szTo_cases (winC a) left
  have h2 : winC a = a.Frames.length + sumF a.Frames := rfl
  repeat (dsimp +instances only [go_sem, Nat.reduceBEq, Nat.reduceAdd, Nat.reduceSub, Nat.reduceLT, Nat.reduceLeDiff]; try simp only [bb, Nat.reduceAdd, Int.reduceToNat, Int.reduceLE, Int.reduceLT, Nat.reduceLT, Nat.reduceMul, Nat.reduceLeDiff])
  try simp only [nn, reduceCtorEq]
  (repeat' (first | refine And.intro ?_ ?_ | intro _)) <;> try first | omega | trivial
  all_goals grind
def E153 : Env := { T := Tz.tab, G := Gl, C := [(191, ct191)], live := [(0, [1, 2]), (1, [1, 2, 3]), (2, [1, 2, 3]), (3, [1, 2, 3]), (4, [1, 2, 3]), (5, [1, 2, 3]), (6, [2, 3]), (7, [2])] }
def ct153 : Ct := .pure (dom1 tEntry (fun a => True)) (fn1 tEntry fun a => [tEntry.enc a])
attribute [go_sem] E153 ct153 Go.Proofs.Tryz.f153
theorem ok153 : CtOk Tryz.prog Gl 153 ct153 := okA1 (E := E153) (sound_of Tz.tab_ok Tz.mixed (AllOk.cons ok191 AllOk.nil)) rfl Tryz.func153 (by kernel_rfl) fun a fa hp => by
  have ga := fa
  have fa := fit_entry fa
  refine vcFn_intro rfl rfl (by kernel_rfl) rfl ?_
  repeat (dsimp +instances only [go_sem, Nat.reduceBEq, Nat.reduceAdd, Nat.reduceSub, Nat.reduceLT, Nat.reduceLeDiff]; try simp only [bb, Nat.reduceAdd, Int.reduceToNat, Int.reduceLE, Int.reduceLT, Nat.reduceLT, Nat.reduceMul, Nat.reduceLeDiff])
  try simp only [nn, reduceCtorEq]
def E116 : Env := { T := Tz.tab, G := Gl, C := [(153, ct153)], live := [(0, [0]), (1, [0, 3]), (2, [0, 3, 4]), (3, [0, 3, 4, 11]), (4, [0, 3, 4]), (5, [0, 3, 4]), (6, [2])] }
def ct116 : Ct := .pure (dom1 tEntryS (fun a => True)) (fn1 tEntryS fun a => [tEntryS.enc a])
attribute [go_sem] E116 ct116 Go.Proofs.Tryz.f116
set_option maxHeartbeats 2000000 in
theorem ok116 : CtOk Tryz.prog Gl 116 ct116 := okA1 (E := E116) (sound_of Tz.tab_ok Tz.mixed (AllOk.cons ok153 AllOk.nil)) rfl Tryz.func116 (by kernel_rfl) fun a fa hp => by
  have ga := fa
  have fa := fit_list fa
  refine vcFn_intro rfl rfl (by kernel_rfl) rfl ?_
  repeat (dsimp +instances only [go_sem, Nat.reduceBEq, Nat.reduceAdd, Nat.reduceSub, Nat.reduceLT, Nat.reduceLeDiff]; try simp only [bb, Nat.reduceAdd, Int.reduceToNat, Int.reduceLE, Int.reduceLT, Nat.reduceLT, Nat.reduceMul, Nat.reduceLeDiff])
  try simp only [nn, reduceCtorEq]
  refine ⟨by omega, by omega, ?_⟩
  refine vcC_loop [0, 3, 4] (fun (i : Nat) => i ≤ a.length) (fun i => [.cv (.sl 17 (a.map rEntry.enc)), .pth 0 17 0 a.length, .cv (.int .i64 i)]) (fun i => [.row 17 ((a.take i).map rEntry.enc ++ List.replicate (a.length - i) zEntry) []]) (fun i => a.length - i) 0 (by simp) ⟨rfl, rfl⟩ ?_
  intro i hi
  rcases Nat.lt_or_ge i a.length with hlt | hge
  · have hg := getD_at rEntry hlt
    have hr : List.replicate (a.length - i) zEntry = zEntry :: List.replicate (a.length - (i + 1)) zEntry := by rw [show a.length - i = (a.length - (i + 1)) + 1 by omega]; rfl
    have hl : (a.take i).length = i := by simp; omega
    have htk := take_snoc hlt
    rw [hr]
    generalize a[i] = e at *
    generalize hrest : List.replicate (a.length - (i + 1)) zEntry = rest at *
    have g1 : ((a.take i).map rEntry.enc ++ zEntry :: rest).getD i [] = zEntry := by
      have := getD_mmid rEntry.enc (a.take i) rest zEntry []
      rwa [hl] at this
    have g2 : ∀ y, ((a.take i).map rEntry.enc ++ zEntry :: rest).set i y = (a.take i).map rEntry.enc ++ y :: rest := fun y => by
      have := set_mmid rEntry.enc (a.take i) rest zEntry y
      rwa [hl] at this
    try dsimp +instances only [go_sem, Nat.reduceBEq, Nat.reduceAdd, Nat.reduceSub, Nat.reduceLT, Nat.reduceLeDiff]
    repeat (simp only [hg, rEntry_enc, Int.toNat_natCast, g1, g2, zEntry_len, zEntry_drop, bb, Nat.reduceAdd, Int.reduceToNat, Int.reduceLE, Int.reduceLT, Nat.reduceLT, Nat.reduceMul, Nat.reduceLeDiff]; try dsimp +instances only [go_sem, Nat.reduceBEq, Nat.reduceAdd, Nat.reduceSub, Nat.reduceLT, Nat.reduceLeDiff])
    try simp only [nn, reduceCtorEq, hlt, decide_true]
    have hrl : rest.length = a.length - (i + 1) := by rw [← hrest]; simp
    refine ⟨by rw [hl]; omega, by omega, nextL_intro (i + 1) (by omega) (by omega) rfl ?_⟩
    simp only [htk, List.map_append, List.map_cons, List.map_nil, List.append_assoc, hrest]
    rfl
  · have : i = a.length := by omega
    subst this
    repeat (dsimp +instances only [go_sem, Nat.reduceBEq, Nat.reduceAdd, Nat.reduceSub, Nat.reduceLT, Nat.reduceLeDiff]; try simp only [bb, Nat.reduceAdd, Int.reduceToNat, Int.reduceLE, Int.reduceLT, Nat.reduceLT, Nat.reduceMul, Nat.reduceLeDiff])
    try simp only [nn, reduceCtorEq, Nat.lt_irrefl]
    refine fun _ => ⟨by omega, ?_⟩
    rw [Nat.sub_self, List.replicate_zero, List.append_nil, List.take_of_length_le (by simp)]
def E70 : Env := { T := Tz.tab, G := Gl, C := [(116, ct116)], live := [(0, [1, 2]), (1, [1, 2, 3]), (2, [1, 2, 3]), (3, [1, 2, 3]), (4, [1, 2, 3]), (5, [2, 3]), (6, [2])] }
def ct70 : Ct := .pure (dom1 tFrame (fun a => True)) (fn1 tFrame fun a => [tFrame.enc a])
attribute [go_sem] E70 ct70 Go.Proofs.Tryz.f70
theorem ok70 : CtOk Tryz.prog Gl 70 ct70 := okA1 (E := E70) (sound_of Tz.tab_ok Tz.mixed (AllOk.cons ok116 AllOk.nil)) rfl Tryz.func70 (by kernel_rfl) fun a fa hp => by
  have ga := fa
  have fa := fit_frame fa
  refine vcFn_intro rfl rfl (by kernel_rfl) rfl ?_
  repeat (dsimp +instances only [go_sem, Nat.reduceBEq, Nat.reduceAdd, Nat.reduceSub, Nat.reduceLT, Nat.reduceLeDiff]; try simp only [bb, Nat.reduceAdd, Int.reduceToNat, Int.reduceLE, Int.reduceLT, Nat.reduceLT, Nat.reduceMul, Nat.reduceLeDiff])
  try simp only [nn, reduceCtorEq]
def E28 : Env := { T := Tz.tab, G := Gl, C := [(70, ct70)], live := [(0, [0]), (1, [0, 3]), (2, [0, 3, 4]), (3, [0, 3, 4, 11]), (4, [0, 3, 4]), (5, [0, 3, 4]), (6, [2])] }
def ct28 : Ct := .pure (dom1 tFrameS (fun a => True)) (fn1 tFrameS fun a => [tFrameS.enc a])
attribute [go_sem] E28 ct28 Go.Proofs.Tryz.f28
set_option maxHeartbeats 2000000 in
theorem ok28 : CtOk Tryz.prog Gl 28 ct28 := okA1 (E := E28) (sound_of Tz.tab_ok Tz.mixed (AllOk.cons ok70 AllOk.nil)) rfl Tryz.func28 (by kernel_rfl) fun a fa hp => by
  have ga := fa
  have fa := fit_list fa
  refine vcFn_intro rfl rfl (by kernel_rfl) rfl ?_
  repeat (dsimp +instances only [go_sem, Nat.reduceBEq, Nat.reduceAdd, Nat.reduceSub, Nat.reduceLT, Nat.reduceLeDiff]; try simp only [bb, Nat.reduceAdd, Int.reduceToNat, Int.reduceLE, Int.reduceLT, Nat.reduceLT, Nat.reduceMul, Nat.reduceLeDiff])
  try simp only [nn, reduceCtorEq]
  refine ⟨by omega, by omega, ?_⟩
  refine vcC_loop [0, 3, 4] (fun (i : Nat) => i ≤ a.length) (fun i => [.cv (.sl 4 (a.map rFrame.enc)), .pth 0 4 0 a.length, .cv (.int .i64 i)]) (fun i => [.row 4 ((a.take i).map rFrame.enc ++ List.replicate (a.length - i) zFrame) []]) (fun i => a.length - i) 0 (by simp) ⟨rfl, rfl⟩ ?_
  intro i hi
  rcases Nat.lt_or_ge i a.length with hlt | hge
  · have hg := getD_at rFrame hlt
    have hr : List.replicate (a.length - i) zFrame = zFrame :: List.replicate (a.length - (i + 1)) zFrame := by rw [show a.length - i = (a.length - (i + 1)) + 1 by omega]; rfl
    have hl : (a.take i).length = i := by simp; omega
    have htk := take_snoc hlt
    rw [hr]
    generalize a[i] = e at *
    generalize hrest : List.replicate (a.length - (i + 1)) zFrame = rest at *
    have g1 : ((a.take i).map rFrame.enc ++ zFrame :: rest).getD i [] = zFrame := by
      have := getD_mmid rFrame.enc (a.take i) rest zFrame []
      rwa [hl] at this
    have g2 : ∀ y, ((a.take i).map rFrame.enc ++ zFrame :: rest).set i y = (a.take i).map rFrame.enc ++ y :: rest := fun y => by
      have := set_mmid rFrame.enc (a.take i) rest zFrame y
      rwa [hl] at this
    try dsimp +instances only [go_sem, Nat.reduceBEq, Nat.reduceAdd, Nat.reduceSub, Nat.reduceLT, Nat.reduceLeDiff]
    repeat (simp only [hg, rFrame_enc, Int.toNat_natCast, g1, g2, zFrame_len, zFrame_drop, bb, Nat.reduceAdd, Int.reduceToNat, Int.reduceLE, Int.reduceLT, Nat.reduceLT, Nat.reduceMul, Nat.reduceLeDiff]; try dsimp +instances only [go_sem, Nat.reduceBEq, Nat.reduceAdd, Nat.reduceSub, Nat.reduceLT, Nat.reduceLeDiff])
    try simp only [nn, reduceCtorEq, hlt, decide_true]
    have hrl : rest.length = a.length - (i + 1) := by rw [← hrest]; simp
    refine ⟨by rw [hl]; omega, by omega, nextL_intro (i + 1) (by omega) (by omega) rfl ?_⟩
    simp only [htk, List.map_append, List.map_cons, List.map_nil, List.append_assoc, hrest]
    rfl
  · have : i = a.length := by omega
    subst this
    repeat (dsimp +instances only [go_sem, Nat.reduceBEq, Nat.reduceAdd, Nat.reduceSub, Nat.reduceLT, Nat.reduceLeDiff]; try simp only [bb, Nat.reduceAdd, Int.reduceToNat, Int.reduceLE, Int.reduceLT, Nat.reduceLT, Nat.reduceMul, Nat.reduceLeDiff])
    try simp only [nn, reduceCtorEq, Nat.lt_irrefl]
    refine fun _ => ⟨by omega, ?_⟩
    rw [Nat.sub_self, List.replicate_zero, List.append_nil, List.take_of_length_le (by simp)]
def E9 : Env := { T := Tz.tab, G := Gl, C := [(28, ct28)], live := [(0, [1, 2]), (1, [1, 2, 3]), (2, [1, 2, 3]), (3, [1, 2, 3]), (4, [1, 2, 3]), (5, [2, 3]), (6, [2])] }
def ct9 : Ct := .pure (dom1 tWindow (fun a => True)) (fn1 tWindow fun a => [tWindow.enc a])
attribute [go_sem] E9 ct9 Go.Proofs.Tryz.f9
theorem ok9 : CtOk Tryz.prog Gl 9 ct9 := okA1 (E := E9) (sound_of Tz.tab_ok Tz.mixed (AllOk.cons ok28 AllOk.nil)) rfl Tryz.func9 (by kernel_rfl) fun a fa hp => by
  have ga := fa
  have fa := fit_window fa
  refine vcFn_intro rfl rfl (by kernel_rfl) rfl ?_
  repeat (dsimp +instances only [go_sem, Nat.reduceBEq, Nat.reduceAdd, Nat.reduceSub, Nat.reduceLT, Nat.reduceLeDiff]; try simp only [bb, Nat.reduceAdd, Int.reduceToNat, Int.reduceLE, Int.reduceLT, Nat.reduceLT, Nat.reduceMul, Nat.reduceLeDiff])
  try simp only [nn, reduceCtorEq]
end Go.Gx
end
section
namespace Go.Gx
open Go.Proofs
attribute [go_sem] Go.Proofs.Tryz.f145
theorem nowF_at {w : Window} {k : Nat} (hlt : k < w.Frames.length) : nowF w k = w.Frames[k].Hist.getD (hatF w.Frames[k].Hist w.Step).toNat default := by
  unfold nowF; rw [Int.toNat_natCast, getD_lt hlt]
end Go.Gx
end
section
namespace Go.Gx
open Go.Proofs
structure Origin where
  Scheme : Str
  Host : Host
  Port : Int
  deriving DecidableEq, Inhabited
def Origin.cv (u : Origin) : List CV := [.str u.Scheme, .int .i64 u.Host.Kind, .str u.Host.Name, .int .i64 u.Host.Addr, .int .i64 u.Port]
def Origin.de (c : List CV) : Origin := match c with
  | [.str x0, .int _ x1, .str x2, .int _ x3, .int _ x4] => ⟨x0, ⟨x1, x2, x3⟩, x4⟩
  | _ => default
def Origin.sh (c : List CV) : Prop := match c with
  | [.str _, .int .i64 _, .str _, .int .i64 _, .int .i64 _] => True
  | _ => False
theorem Origin.sh_eq {c : List CV} (h : Origin.sh c) : c = (Origin.de c).cv := by
  unfold Origin.sh at h; split at h
  · rfl
  · exact h.elim
theorem Origin.de_cv (u : Origin) : Origin.de u.cv = u := by rfl
def tOrigin : Ty Origin where
  enc u := (true, u.cv)
  dec v := Origin.de v.2
  ok v := v.1 = true ∧ Origin.sh v.2
  law v h := by obtain ⟨b, c⟩ := v; obtain ⟨rfl, h⟩ := h; simp only; rw [← Origin.sh_eq h]
  de u := Origin.de_cv u
def rOrigin : Rw Origin := ⟨5, Origin.cv, Origin.de, Origin.de_cv⟩
def tOriginS : Ty (List Origin) := tList rOrigin
theorem tOrigin_enc {u : Origin} : tOrigin.enc u = (true, [.str u.Scheme, .int .i64 u.Host.Kind, .str u.Host.Name, .int .i64 u.Host.Addr, .int .i64 u.Port]) := rfl
theorem tOrigin_dec {b : Bool} {x0 : Str} {x1 : Int} {x2 : Str} {x3 : Int} {x4 : Int} {kx1 : IntKind} {kx3 : IntKind} {kx4 : IntKind}  : tOrigin.dec (b, [.str x0, .int kx1 x1, .str x2, .int kx3 x3, .int kx4 x4]) = ⟨x0, ⟨x1, x2, x3⟩, x4⟩ := rfl
theorem tOrigin_ok {x0 : Str} {x1 : Int} {x2 : Str} {x3 : Int} {x4 : Int}  : tOrigin.ok (true, [.str x0, .int .i64 x1, .str x2, .int .i64 x3, .int .i64 x4]) = (true = true ∧ True) := rfl
theorem Origin_eta (u : Origin) : (⟨u.Scheme, u.Host, u.Port⟩ : Origin) = u := rfl
theorem tOriginS_enc {l : List Origin} : tOriginS.enc l = (false, [.sl 5 (l.map rOrigin.enc)]) := rfl
theorem tOriginS_dec {b : Bool} {n : Nat} {es : List (List CV)} : tOriginS.dec (b, [.sl n es]) = es.map rOrigin.dec := rfl
theorem tOriginS_ok {n : Nat} {es : List (List CV)} : tOriginS.ok (false, [.sl n es]) = (n = 5 ∧ ∃ l : List Origin, es = l.map rOrigin.enc) := rfl
attribute [go_sem] tOriginS_enc tOriginS_dec tOriginS_ok
theorem rOrigin_sz : rOrigin.sz = 5 := rfl
attribute [go_sem] rOrigin_sz
attribute [go_sem] Origin_eta tOrigin_enc tOrigin_dec tOrigin_ok
structure OriginFit (u : Origin) : Prop where
  Scheme : Fit u.Scheme.length
  Host_Kind : R64 u.Host.Kind
  Host_Name : Fit u.Host.Name.length
  Host_Addr : R64 u.Host.Addr
  Port : R64 u.Port
attribute [go_sem] Go.Proofs.Tryz.f144
attribute [go_sem] Go.Proofs.Tryz.f103
attribute [go_sem] Go.Proofs.Tryz.f186
attribute [go_sem] Go.Proofs.Tryz.f146
attribute [go_sem] Go.Proofs.Tryz.f147
attribute [go_sem] Go.Proofs.Tryz.f107
end Go.Gx
end
section
namespace Go.Gx
open Go.Proofs
theorem loadPV_iptr0 {T : Tab} {G : Nat → List CV} {A : ASt} {t j : Nat} : loadPV T G A t (.iptr [] j) = (0 < T.size t ∧ j + T.size t ≤ 0, partPV (T.tk t) (T.size t) [] j) := rfl
attribute [go_sem] loadPV_iptr0
attribute [go_sem] Go.Proofs.Tryz.f104
attribute [go_sem] Go.Proofs.Tryz.f102
theorem histGo_ent : ∀ {l : List Entry} {ks : List Int} {x : Int}, histGo ks x l = true → ∀ e ∈ l, entOk e = true
  | [], _, _, _, e, he => by simp at he
  | a :: r, ks, x, h, e, he => by
    simp only [histGo, Bool.and_eq_true] at h
    rcases List.mem_cons.1 he with rfl | he
    · exact h.1.1.2
    · exact histGo_ent h.2 e he
theorem histOk_ent {l : List Entry} (h : histOk l = true) : ∀ e ∈ l, entOk e = true := by
  unfold histOk at h; rw [Bool.and_eq_true] at h; exact histGo_ent h.1
theorem entOk_url {e : Entry} (h : entOk e = true) : urlOk e.Url = true := by
  unfold entOk at h; simp only [Bool.and_eq_true] at h; exact h.1.1.1.2
attribute [go_sem] Go.Proofs.Tryz.f53
attribute [go_sem] Go.Proofs.Tryz.f55
attribute [go_sem] Go.Proofs.Tryz.f19
attribute [go_sem] Go.Proofs.Tryz.f20
end Go.Gx
end
section
namespace Go.Gx
open Go.Proofs
theorem urlOk_put {u : Url} (h : urlOk u = true) : (putU u).length ≤ 200 := by
  unfold urlOk at h
  rw [Bool.and_eq_true] at h
  rcases Nat.lt_or_ge 200 (putU u).length with h2 | h2
  · have h3 := h.1
    unfold UrlGet at h3
    rw [if_pos h2] at h3
    cases h3
  · exact h2
def hexD (n : Nat) : UInt8 := ([48, 49, 50, 51, 52, 53, 54, 55, 56, 57, 97, 98, 99, 100, 101, 102] : Str).getD n 0
def hexG : Str → Str
  | [] => []
  | c :: r => hexD (c.toNat / 16) :: hexD (c.toNat % 16) :: hexG r
def hexT (s : Str) : Str := if s = [] then [45] else hexG s
def nameT (s : Str) : Str := if s = [] then [45] else s
def decI (n : Int) : Str := decN n.toNat
def askT (b : Bool) : Str := if b = true then [97, 115, 107, 115] else [102, 114, 101, 101]
def putE (e : Entry) : Str := [101, 110, 116, 114, 121, 32] ++ decI e.Step ++ [32] ++ decI e.Doc ++ [32] ++ decI e.Key ++ [32] ++ hexT e.State ++ [32] ++ putU e.Url ++ [10]
def putEs : List Entry → Str
  | [] => []
  | e :: r => putE e ++ putEs r
def putF (f : Frame) : Str := [102, 114, 97, 109, 101, 32] ++ decI f.Within ++ [32] ++ nameT f.Name ++ [32] ++ askT f.Asks ++ [10]
def putFs : List Frame → Str
  | [] => []
  | f :: r => putF f ++ (putEs f.Hist ++ putFs r)
def putH0 (w : Window) : Str := [119, 105, 110, 100, 111, 119, 32] ++ decI w.Step ++ [32] ++ decI w.NextDoc ++ [32] ++ decI w.NextKey ++ [10]
def putW (w : Window) : Str := putH0 w ++ putFs w.Frames
structure WPut (w : Window) : Prop where
  hd : 0 ≤ w.Step ∧ 0 ≤ w.NextDoc ∧ 0 ≤ w.NextKey
  fr : ∀ f ∈ w.Frames, 0 ≤ f.Within
  en : ∀ f ∈ w.Frames, ∀ e ∈ f.Hist, 0 ≤ e.Step ∧ 0 ≤ e.Doc ∧ 0 ≤ e.Key ∧ urlSz e.Url ≤ 16777216
  len : (putW w).length ≤ 1000000
theorem decI_len {n : Int} (h : n ≤ 9999) : (decI n).length ≤ 4 := decN_len n.toNat 3 (by omega)
attribute [go_sem] Go.Proofs.Tryz.f67
theorem ex4 (a b c d : Str) : ∃ l : List Str, [[CV.str a], [CV.str b], [CV.str c], [CV.str d]] = l.map rStr.enc := ⟨[a, b, c, d], rfl⟩
attribute [go_sem] Go.Proofs.Tryz.f68
attribute [go_sem] Go.Proofs.Tryz.f77
attribute [go_sem] Go.Proofs.Tryz.f27
attribute [go_sem] Go.Proofs.Tryz.f76
attribute [go_sem] Go.Proofs.Tryz.f30
attribute [go_sem] Go.Proofs.Tryz.f8
attribute [go_sem] Go.Proofs.Tryz.f10
end Go.Gx
end
section
namespace Go.Gx
open Go.Proofs
def lineT (w : Window) (f : Int) (ind : Str) : Str := ind ++ decI f ++ [32] ++ (frA w f).Name ++ [32] ++ putU (nowF w f).Url ++ [32, 100, 111, 99, 32] ++ decI (nowF w f).Doc ++ [32, 107, 101, 121, 32] ++ decI (nowF w f).Key ++ ((if (nowF w f).State = [] then [] else [32, 115, 116, 97, 116, 101, 32] ++ (nowF w f).State) ++ ((if (frA w f).Asks = true then [32, 97, 115, 107, 115] else []) ++ [10]))
def isKid (w : Window) (f : Int) (i : Nat) : Bool := decide ((frA w i).Within = (nowF w f).Doc) && liveF w w.Step 3 i
def kidsA (w : Window) (f : Int) (l : List Nat) : List Int := (l.filter (isKid w f)).map Int.ofNat
def kidsF (w : Window) (f : Int) : List Int := kidsA w f (List.range w.Frames.length)
def showG (w : Window) : Nat → Int → Str → Str
  | 0, _, _ => []
  | k + 1, f, ind => lineT w f ind ++ (kidsF w f).flatMap (fun i => showG w k i (ind ++ [32, 32]))
def showF (w : Window) (f : Int) (ind : Str) : Str := showG w (3 - levN w f) f ind
structure Kid (w : Window) (f : Int) (i : Nat) : Prop where
  lt : i < w.Frames.length
  pos : 0 < i
  live : liveF w w.Step 3 i = true
  lev : levN w i = levN w f + 1
  at_ : (frA w i).Within = (nowF w f).Doc
structure There (w : Window) (f : Int) : Prop where
  ok : winOk w = true
  ge : 0 ≤ f
  lt : f < w.Frames.length
  live : liveF w w.Step 3 f = true
theorem There.hat {w : Window} {f : Int} (h : There w f) : 0 ≤ hatF (frA w f).Hist w.Step := now_hat (live_now h.live)
theorem There.mem {w : Window} {f : Int} (h : There w f) : ∃ (k : Nat) (hk : k < w.Frames.length), f = k ∧ nowF w f ∈ w.Frames[k].Hist ∧ frA w f = w.Frames[k] := by
  obtain ⟨ok, ge, lt, live⟩ := id h
  obtain ⟨k, rfl⟩ : ∃ k : Nat, f = k := ⟨f.toNat, by omega⟩
  have hk : k < w.Frames.length := by omega
  refine ⟨k, hk, rfl, ?_, frA_eq w k hk⟩
  have h1 := h.hat
  rw [frA_eq w k hk] at h1
  have h2 := hatF_lt w.Frames[k].Hist w.Step
  rw [nowF_at hk, getD_lt (by omega)]
  exact List.getElem_mem _
theorem There.ent {w : Window} {f : Int} (h : There w f) : entOk (nowF w f) = true ∧ lowOk (frA w f).Name = true ∧ 1 ≤ (nowF w f).Doc := by
  obtain ⟨k, hk, rfl, hm, he⟩ := h.mem
  have W := (winOk_iff w).1 h.ok
  have h1 := W.fr k hk
  have h2 := W.rg _ (List.getElem_mem hk) _ hm
  rw [he]
  exact ⟨histOk_ent h1.1 _ hm, h1.2.2, h2.1⟩
theorem levN_le (w : Window) (f : Int) : levN w f ≤ 2 := by unfold levN; split; omega; split <;> omega
theorem kid_of {w : Window} {f : Int} (h : There w f) {i : Nat} (hi : i < w.Frames.length) (hk : isKid w f i = true) : Kid w f i := by
  unfold isKid at hk
  simp only [Bool.and_eq_true, decide_eq_true_iff] at hk
  obtain ⟨k, hkl, rfl, hm, he⟩ := h.mem
  have W := (winOk_iff w).1 h.ok
  have hd := h.ent.2.2
  have hw := hk.1
  rw [frA_eq w i hi] at hw
  have hpos : 0 < i := by
    rcases Nat.eq_zero_or_pos i with h0 | h0
    · have := (W.tree.top i hi).1 h0; omega
    · exact h0
  have how : ownerF w (frA w i).Within = k := by
    rw [hk.1]
    exact (own_iff w k hkl _ hm).2 fun j hj x hx => (W.ap k j hkl hj _ hm x hx).1
  refine ⟨hi, hpos, hk.2, ?_, hk.1⟩
  have h3 := (depthF_le w i (by omega)).1 (W.tree.deep i hi)
  rw [how] at h3
  have h4 : levN w i = if (k : Int) = 0 then 1 else 2 := by
    unfold levN
    rw [if_neg (by omega), how]
  rw [h4]
  unfold levN
  by_cases hk0 : (k : Int) = 0
  · rw [if_pos hk0, if_pos hk0]
  · rw [if_neg hk0, if_neg hk0]
    rcases h3 with h3 | h3 | h3
    · omega
    · omega
    · rw [if_pos h3.2]
theorem Kid.there {w : Window} {f : Int} {i : Nat} (h : There w f) (k : Kid w f i) : There w i := ⟨h.ok, by omega, by have := k.lt; omega, k.live⟩
theorem kidsA_mem {w : Window} {f : Int} {l : List Nat} {x : Int} (h : x ∈ kidsA w f l) : ∃ i : Nat, x = i ∧ i ∈ l ∧ isKid w f i = true := by
  unfold kidsA at h
  obtain ⟨i, hi, rfl⟩ := List.mem_map.1 h
  exact ⟨i, rfl, (List.mem_filter.1 hi).1, (List.mem_filter.1 hi).2⟩
theorem kidsF_mem {w : Window} {f : Int} (h : There w f) {x : Int} (hx : x ∈ kidsF w f) : ∃ i : Nat, x = i ∧ Kid w f i := by
  obtain ⟨i, rfl, hi, hk⟩ := kidsA_mem hx
  exact ⟨i, rfl, kid_of h (List.mem_range.1 hi) hk⟩
theorem showF_step {w : Window} {f : Int} (h : There w f) (ind : Str) : showF w f ind = lineT w f ind ++ (kidsF w f).flatMap (fun i => showF w i (ind ++ [32, 32])) := by
  have hl := levN_le w f
  unfold showF
  obtain ⟨k, hk⟩ : ∃ k, 3 - levN w f = k + 1 := ⟨2 - levN w f, by omega⟩
  rw [hk, showG]
  congr 1
  have : ∀ x ∈ kidsF w f, showG w k x (ind ++ [32, 32]) = showG w (3 - levN w x) x (ind ++ [32, 32]) := fun x hx => by
    obtain ⟨i, rfl, hi⟩ := kidsF_mem h hx
    have := hi.lev
    rw [show 3 - levN w i = k by omega]
  rw [List.flatMap_def, List.flatMap_def, List.map_congr_left this]
theorem lineT_len {w : Window} {f : Int} (h : There w f) (ind : Str) : (lineT w f ind).length ≤ ind.length + 290 := by
  have he := h.ent
  have hu := urlOk_put (entOk_url he.1)
  have hf : f ≤ 9999 := by
    have := h.lt
    have W := ((winOk_iff w).1 h.ok).head
    unfold headOk at W
    simp only [Bool.and_eq_true, decide_eq_true_iff] at W
    omega
  have h1 := he.1
  unfold entOk at h1
  simp only [Bool.and_eq_true, decide_eq_true_iff] at h1
  have h2 := decI_len (n := (nowF w f).Doc) (by omega)
  have h3 := decI_len (n := (nowF w f).Key) (by omega)
  have h4 := decI_len hf
  have h5 := he.2.1
  unfold lowOk at h5
  rw [decide_eq_true_iff] at h5
  have h6 := h5.1
  unfold lineT
  simp only [List.length_append, List.length_cons, List.length_nil]
  (repeat' split) <;> simp only [List.length_append, List.length_cons, List.length_nil] <;> omega
theorem flatS_len {α : Type} (g : α → Str) (m : Nat) : ∀ l : List α, (∀ x ∈ l, (g x).length ≤ m) → (l.flatMap g).length ≤ l.length * m
  | [], _ => by simp
  | a :: r, h => by
    have h1 := h a (by simp)
    have h2 := flatS_len g m r fun x hx => h x (by simp [hx])
    rw [List.flatMap_cons, List.length_append, List.length_cons, Nat.succ_mul]; omega
theorem frames_le {w : Window} (h : winOk w = true) : w.Frames.length ≤ 8 := by
  have W := ((winOk_iff w).1 h).head
  unfold headOk at W
  simp only [Bool.and_eq_true, decide_eq_true_iff] at W
  omega
theorem kidsF_len {w : Window} (h : winOk w = true) (f : Int) : (kidsF w f).length ≤ 8 := by
  have h1 := frames_le h
  have h2 := List.length_filter_le (isKid w f) (List.range w.Frames.length)
  unfold kidsF kidsA
  rw [List.length_map]
  rw [List.length_range] at h2
  omega
theorem showG_len {w : Window} : ∀ (k : Nat) (f : Int) (ind : Str), There w f → (showG w k f ind).length ≤ (ind.length + 2 * k + 290) * 9 ^ k
  | 0, _, _, _ => by simp [showG]
  | k + 1, f, ind, h => by
    have h1 := lineT_len h ind
    have h2 := flatS_len (fun i => showG w k i (ind ++ [32, 32])) ((ind.length + 2 + 2 * k + 290) * 9 ^ k) (kidsF w f) fun x hx => by
      obtain ⟨i, rfl, hi⟩ := kidsF_mem h hx
      have := showG_len k i (ind ++ [32, 32]) (hi.there h)
      simpa using this
    have h3 := kidsF_len h.ok f
    have h4 : (kidsF w f).length * ((ind.length + 2 + 2 * k + 290) * 9 ^ k) ≤ 8 * ((ind.length + 2 + 2 * k + 290) * 9 ^ k) := Nat.mul_le_mul_right _ h3
    have h5 : 1 ≤ 9 ^ k := Nat.one_le_pow _ _ (by omega)
    have h6 : (ind.length + 2 * (k + 1) + 290) * 1 ≤ (ind.length + 2 * (k + 1) + 290) * 9 ^ k := Nat.mul_le_mul_left _ h5
    rw [showG, List.length_append, Nat.pow_succ]
    have e : ind.length + 2 + 2 * k + 290 = ind.length + 2 * (k + 1) + 290 := by omega
    rw [e] at h2 h4
    rw [← Nat.mul_assoc]
    generalize (ind.length + 2 * (k + 1) + 290) * 9 ^ k = X at *
    omega
theorem showF_len {w : Window} {f : Int} (h : There w f) {ind : Str} (hi : ind.length ≤ 8) : (showF w f ind).length ≤ 300000 := by
  have h1 := showG_len (3 - levN w f) f ind h
  have h2 : (3 - levN w f) ≤ 3 := by omega
  have h3 : 9 ^ (3 - levN w f) ≤ 9 ^ 3 := Nat.pow_le_pow_right (by omega) h2
  have h4 : (ind.length + 2 * (3 - levN w f) + 290) * 9 ^ (3 - levN w f) ≤ 304 * 9 ^ 3 := Nat.mul_le_mul (by omega) h3
  unfold showF
  omega
def showW (w : Window) : Str := if winOk w = true then (showF w 0 [] ++ ([115, 116, 101, 112, 32] ++ decI w.Step ++ [32, 111, 102, 32] ++ decI ((stepsF w).getD ((stepsF w).length - 1) 0) ++ [10])) else []
end Go.Gx
end
section
namespace Go.Gx
open Go.Proofs
theorem There.page {w : Window} {f : Int} (h : There w f) : pageF w f = (nowF w f).Doc := by
  have h0 := h.hat
  unfold pageF nowF
  unfold frA at h0
  rw [if_neg (by omega)]
theorem kidsA_snoc {w : Window} {f : Int} {i : Nat} : kidsA w f (List.range (i + 1)) = kidsA w f (List.range i) ++ (if isKid w f i = true then [(i : Int)] else []) := by
  unfold kidsA
  rw [List.range_succ, List.filter_append, List.map_append]
  congr 1
  by_cases h : isKid w f i = true
  · rw [if_pos h]; simp [h]
  · rw [if_neg h]; simp [h]
theorem kidsA_cons {w : Window} {f : Int} {i : Nat} {l : List Nat} : kidsA w f (i :: l) = if isKid w f i = true then (i : Int) :: kidsA w f l else kidsA w f l := by
  unfold kidsA
  by_cases h : isKid w f i = true
  · rw [if_pos h, List.filter_cons_of_pos h]; rfl
  · rw [if_neg h, List.filter_cons_of_neg h]
theorem range_drop {n i : Nat} (h : i < n) : (List.range n).drop i = i :: (List.range n).drop (i + 1) := by
  rw [List.drop_eq_getElem_cons (by simpa using h), List.getElem_range]
theorem There.cnt {w : Window} (h : winOk w = true) : cntE w.Frames ≤ 1048576 := by
  have W := (winOk_iff w).1 h
  have h1 := frames_le h
  have h2 := cntE_le w.Frames fun f hf => by
    obtain ⟨i, hi, rfl⟩ := List.mem_iff_getElem.1 hf
    exact histOk_len (W.fr i hi).1
  omega
theorem mem_allSteps {x : Int} : ∀ {l : List Frame}, x ∈ allSteps l → ∃ f ∈ l, ∃ e ∈ f.Hist, e.Step = x
  | [], h => by simp [allSteps] at h
  | f :: r, h => by
    rw [allSteps, List.mem_append] at h
    rcases h with h | h
    · obtain ⟨e, he, hx⟩ := List.mem_map.1 h
      exact ⟨f, by simp, e, he, hx⟩
    · obtain ⟨g, hg, h⟩ := mem_allSteps h
      exact ⟨g, by simp [hg], h⟩
theorem steps_in {w : Window} (h : winOk w = true) : ∀ x ∈ stepsF w, 0 ≤ x ∧ x ≤ 60 := fun x hx => by
  have W := (winOk_iff w).1 h
  obtain ⟨f, hf, e, he, rfl⟩ := mem_allSteps (((stepsF_sorted w).2 x).1 hx)
  obtain ⟨i, hi, rfl⟩ := List.mem_iff_getElem.1 hf
  have h1 := histOk_ent (W.fr i hi).1 e he
  unfold entOk at h1
  simp only [Bool.and_eq_true, decide_eq_true_iff] at h1
  omega
theorem there0 {w : Window} (h : winOk w = true) : There w 0 := by
  have W := (winOk_iff w).1 h
  have hh := W.head
  unfold headOk at hh
  simp only [Bool.and_eq_true, decide_eq_true_iff] at hh
  have h0 : 0 < w.Frames.length := by omega
  refine ⟨h, Int.le_refl 0, by omega, ?_⟩
  rw [live_top]
  have hs := W.s0
  have hf := W.fr 0 h0
  unfold step0 at hs
  rw [getD_lt h0] at hs
  have h1 : 0 < w.Frames[0].Hist.length := List.length_pos_iff.2 hf.2.1
  rw [getD_lt h1] at hs
  have hat : 0 ≤ hatF w.Frames[0].Hist w.Step := by
    generalize w.Frames[0].Hist = l at *
    cases l with
    | nil => simp at h1
    | cons e r =>
      simp at hs
      have : ∀ (l : List Entry) (i : Nat) (a : Int), 0 ≤ a → 0 ≤ hatGo w.Step i a l := fun l => by
        induction l with
        | nil => intro i a ha; exact ha
        | cons e r ih => intro i a ha; rw [hatGo]; exact ih _ _ (by split <;> omega)
      unfold hatF
      rw [hatGo, if_pos (by omega)]
      exact this _ _ _ (by omega)
  have h2 := hatF_lt w.Frames[0].Hist w.Step
  have e0 : nowD w 0 w.Step = (w.Frames[0].Hist.getD (hatF w.Frames[0].Hist w.Step).toNat default).Doc := by
    have := frA_eq w 0 h0
    unfold nowD
    have e : frA w 0 = w.Frames[0] := this
    rw [e, if_neg (by omega)]
  rw [e0, getD_lt (by omega)]
  have := W.rg _ (List.getElem_mem h0) _ (List.getElem_mem (show (hatF w.Frames[0].Hist w.Step).toNat < w.Frames[0].Hist.length by omega))
  exact decide_eq_true (by omega)
def E82 : Env := { T := Tz.tab, G := Gl, C := [(105, ct105), (54, ct54)], live := [(0, [1, 2]), (1, [1, 2, 5]), (2, [1, 2, 5, 9, 10, 11]), (3, [1, 2, 5, 9, 10, 11, 12]), (4, [1, 2, 5, 6, 7, 9, 10, 11]), (5, [1, 2, 5, 6, 9, 10, 11, 30]), (6, [1, 2, 5, 9, 10, 11]), (7, [1, 2, 5, 9, 10, 11]), (8, [4])] }
def ct82 : Ct := .pure (dom2 tWindow tInt (fun w f => There w f)) (fn2 tWindow tInt fun w f => [tInts.enc (kidsF w f)])
attribute [go_sem] E82 ct82 Go.Proofs.Tryz.f82
set_option maxHeartbeats 4000000 in
theorem ok82 : CtOk Tryz.prog Gl 82 ct82 := okA2 (E := E82) (sound_of Tz.tab_ok Tz.mixed (AllOk.cons ok105 (AllOk.cons ok54 AllOk.nil))) rfl Tryz.func82 (by kernel_rfl) fun w f fw ff hp => by
  have gw := fw
  have fw := fit_window fw
  have ff := fit_int ff
  refine vcFn_intro rfl rfl (by kernel_rfl) rfl ?_
  have fF := (WindowFit.Frames (fit_window gw)).1
  have hT := ((winOk_iff w).1 hp.ok).tree
  have hpg := hp.page
  have hkl := kidsF_len hp.ok f
  repeat (dsimp +instances only [go_sem, Nat.reduceBEq, Nat.reduceAdd, Nat.reduceSub, Nat.reduceLT, Nat.reduceLeDiff]; try simp only [bb, Nat.reduceAdd, Int.reduceToNat, Int.reduceLE, Int.reduceLT, Nat.reduceLT, Nat.reduceMul, Nat.reduceLeDiff])
  refine vcC_loopN [1, 2, 5, 9, 10, 11] (fun (i : Nat) => i ≤ w.Frames.length) (fun i => [.cv (.int .i64 f), .ptr 0 4 0 0, .pth 1 1 0 (kidsA w f (List.range i)).length, .cv (.sl 4 (w.Frames.map rFrame.enc)), .cv (.int .i64 w.Frames.length), .cv (.int .i64 i)]) (fun i => [.boxT 0 [.cv (.sl 4 (w.Frames.map rFrame.enc)), .cv (.int .i64 w.Step), .cv (.int .i64 w.NextDoc), .cv (.int .i64 w.NextKey)], .row 1 ((kidsA w f (List.range i)).map rInt.enc) []]) (fun i => w.Frames.length - i) 0 [(5, false)] (by simp) ⟨rfl, rfl⟩ ?_
  intro i hi
  rcases Nat.lt_or_ge i w.Frames.length with hlt | hge
  · have hg := getD_at rFrame hlt
    have hK : isKid w f i = (decide (w.Frames[i].Within = (nowF w f).Doc) && liveF w w.Step 3 i) := by unfold isKid; rw [frA_eq w i hlt]
    have hkp := fun h => (kid_of hp hlt h).pos
    have hks := kidsA_snoc (w := w) (f := f) (i := i)
    have hlen : (kidsA w f (List.range i)).length ≤ i := by
      unfold kidsA; rw [List.length_map]; have := List.length_filter_le (isKid w f) (List.range i); rw [List.length_range] at this; exact this
    rw [← hpg] at hK
    have hd := hp.lt
    generalize w.Frames[i] = g at *
    try dsimp +instances only [go_sem, Nat.reduceBEq, Nat.reduceAdd, Nat.reduceSub, Nat.reduceLT, Nat.reduceLeDiff]
    repeat (simp only [hg, rFrame_enc, Int.toNat_natCast, bb, Nat.reduceAdd, Int.reduceToNat, Int.reduceLE, Int.reduceLT, Nat.reduceLT, Nat.reduceMul, Nat.reduceLeDiff]; try dsimp +instances only [go_sem, Nat.reduceBEq, Nat.reduceAdd, Nat.reduceSub, Nat.reduceLT, Nat.reduceLeDiff])
    try simp only [nn, reduceCtorEq, hlt, decide_true]
    refine ⟨fun _ => ⟨hp.ge, hd⟩, fun _ => hT, fun h => ⟨by omega, by omega, ?_⟩, fun h => ⟨by omega, ?_⟩⟩
    · have hy : isKid w f i = true := by rw [hK, decide_eq_true h.1.2, h.2]; rfl
      rw [if_pos hy] at hks
      refine nextL_intro (i + 1) (by omega) (by omega) ?_ ?_
      · simp only [hks, List.length_append, List.length_cons, List.length_nil]; rfl
      · simp only [hks, List.map_append, List.map_cons, List.map_nil]; rfl
    · have hn : ¬ isKid w f i = true := fun hy => by
        have h1 := hkp hy
        rw [hK, Bool.and_eq_true, decide_eq_true_iff] at hy
        rcases h with (h | h) | h
        · omega
        · exact h hy.1
        · rw [hy.2] at h; cases h
      rw [if_neg hn, List.append_nil] at hks
      refine nextL_intro (i + 1) (by omega) (by omega) ?_ ?_
      · simp only [hks]; rfl
      · simp only [hks]
  · have : i = w.Frames.length := by omega
    subst this
    repeat (dsimp +instances only [go_sem, Nat.reduceBEq, Nat.reduceAdd, Nat.reduceSub, Nat.reduceLT, Nat.reduceLeDiff]; try simp only [bb, Nat.reduceAdd, Int.reduceToNat, Int.reduceLE, Int.reduceLT, Nat.reduceLT, Nat.reduceMul, Nat.reduceLeDiff])
    try simp only [nn, reduceCtorEq, Nat.lt_irrefl]
    exact fun _ => rfl
def ctr33 (m : Nat) : Ct := .scal (dom3 tWindow tInt tStr (fun w f ind => (There w f ∧ smallW w ∧ ind.length ≤ 2 * levN w f) ∧ 3 - levN w f < m)) (fn3 tWindow tInt tStr fun w f ind => [tStr.enc (showF w f ind)])
def E33 (m : Nat) : Env := { T := Tz.tab, G := Gl, C := [(33, ctr33 m), (80, ct80), (34, ct34), (69, ct69), (52, ct52)], live := [(0, [1, 2, 3]), (1, [1, 2, 3, 7]), (2, [1, 2, 3, 8]), (3, [1, 2, 3, 8, 9]), (4, [1, 2, 3, 8, 9, 53]), (5, [1, 2, 3, 8, 9]), (6, [2, 3, 8, 9, 64]), (7, [2, 3, 8, 9]), (8, [2, 3, 8, 9]), (9, [2, 3, 8, 9, 10]), (10, [2, 3, 8, 9, 10, 73]), (11, [2, 3, 8, 9, 10]), (12, [2, 3, 8, 9, 10, 89]), (13, [2, 3, 8, 9, 10]), (14, [6])] }
def ct33 : Ct := .scal (dom3 tWindow tInt tStr (fun w f ind => There w f ∧ smallW w ∧ ind.length ≤ 2 * levN w f)) (fn3 tWindow tInt tStr fun w f ind => [tStr.enc (showF w f ind)])
attribute [go_sem] ctr33 E33 ct33 Go.Proofs.Tryz.f33
set_option maxHeartbeats 8000000 in
theorem okr33 : ∀ m, CtOk Tryz.prog Gl 33 (ctr33 m)
  | 0 => fun w cs vs _ _ hd => by
    obtain ⟨w, f, ind, _, h⟩ := dom3_inv hd
    omega
  | m + 1 => okA3 (E := E33 m) (sound_of Tz.tab_ok Tz.mixed (AllOk.cons (okr33 m) (AllOk.cons ok80 (AllOk.cons ok34 (AllOk.cons ok69 (AllOk.cons ok52 AllOk.nil)))))) rfl Tryz.func33 (by kernel_rfl) fun w f ind fw ff find hp => by
    have gw := fw
    have fw := fit_window fw
    have ff := fit_int ff
    have find := fit_str find
    refine vcFn_intro rfl rfl (by kernel_rfl) rfl ?_
    have fF := (WindowFit.Frames (fit_window gw)).1
    have fH : ∀ f ∈ w.Frames, Fit f.Hist.length := fun f hf => (FrameFit_el (WindowFit.Frames (fit_window gw)).2 hf).Hist.1
    obtain ⟨⟨hth, hsm, hin⟩, hm⟩ := hp
    have hlv := levN_le w f
    have hstep := showF_step hth ind
    have hlen := showF_len hth (ind := ind) (by omega)
    have hT := ((winOk_iff w).1 hth.ok).tree
    have hent := hth.ent
    have hkid := fun i (h : i < w.Frames.length) (hk : isKid w f i = true) => kid_of hth h hk
    have hline : lineT w f ind = ind ++ decI f ++ [32] ++ (frA w f).Name ++ [32] ++ putU (nowF w f).Url ++ [32, 100, 111, 99, 32] ++ decI (nowF w f).Doc ++ [32, 107, 101, 121, 32] ++ decI (nowF w f).Key ++ ((if (nowF w f).State = [] then [] else [32, 115, 116, 97, 116, 101, 32] ++ (nowF w f).State) ++ ((if (frA w f).Asks = true then [32, 97, 115, 107, 115] else []) ++ [10])) := rfl
    have hlnl := lineT_len hth ind
    have hl1 := hlnl
    rw [hline] at hl1
    simp only [decI, List.length_append, List.length_cons, List.length_nil] at hl1
    have h0 := hth.hat
    have hKi : ∀ i, isKid w f i = (decide ((frA w i).Within = (nowF w f).Doc) && liveF w w.Step 3 i) := fun i => rfl
    obtain ⟨ok, ge, lt, live⟩ := id hth
    obtain ⟨k, rfl⟩ : ∃ k : Nat, f = k := ⟨f.toNat, by omega⟩
    have hlt : k < w.Frames.length := by omega
    have hg := getD_at rFrame hlt
    have hn := nowF_at hlt
    have hfr := frA_eq w k hlt
    have hh := hatF_lt w.Frames[k].Hist w.Step
    have hfit := fH _ (List.getElem_mem hlt)
    have hsk := hsm _ (List.getElem_mem hlt)
    rw [hfr] at h0 hline hl1 hent
    generalize w.Frames[k] = g at *
    generalize hz : hatF g.Hist w.Step = z at *
    obtain ⟨m0, rfl⟩ : ∃ m : Nat, z = m := ⟨z.toNat, by omega⟩
    have hmm : m0 < g.Hist.length := by omega
    have hg2 := getD_at rEntry hmm
    rw [Int.toNat_natCast, getD_lt hmm] at hn
    have hsu := hsk _ (List.getElem_mem hmm)
    rw [hn] at hline hl1 hent
    simp only [hn] at hKi
    generalize g.Hist[m0] = x at *
    have hent1 := hent.1
    unfold entOk at hent1
    simp only [Bool.and_eq_true, decide_eq_true_iff] at hent1
    cases hask : g.Asks
    all_goals
      by_cases hst : x.State = []
      all_goals
        simp only [hask, hst, if_true, if_false, Bool.false_eq_true, List.length_nil, List.length_append, List.length_cons, reduceCtorEq] at hl1 hline
        try dsimp +instances only [go_sem, Nat.reduceBEq, Nat.reduceAdd, Nat.reduceSub, Nat.reduceLT, Nat.reduceLeDiff]
        repeat (simp only [hg, rFrame_enc, hz, hg2, rEntry_enc, Int.toNat_natCast, hask, hst, bb, Nat.reduceAdd, Int.reduceToNat, Int.reduceLE, Int.reduceLT, Nat.reduceLT, Nat.reduceMul, Nat.reduceLeDiff]; try dsimp +instances only [go_sem, Nat.reduceBEq, Nat.reduceAdd, Nat.reduceSub, Nat.reduceLT, Nat.reduceLeDiff])
        try simp only [nn, reduceCtorEq, hlt, hmm, decide_true]
        simp only [Int.toNat_natCast] at hl1
        simp only [decI, Int.toNat_natCast, List.nil_append, ← List.append_assoc] at hline
        try rw [← hline]
        first
        | refine ⟨by omega, by omega, by omega, by omega, hsu, by omega, by omega, by omega, by omega, by omega, by omega, by omega, by omega, by omega, ?_⟩
        | refine ⟨by omega, by omega, by omega, by omega, hsu, by omega, by omega, by omega, by omega, by omega, by omega, by omega, by omega, ?_⟩
        | refine ⟨by omega, by omega, by omega, by omega, hsu, by omega, by omega, by omega, by omega, by omega, by omega, by omega, fun _ => ⟨by omega, by omega, by omega, by omega, ?_⟩⟩
        | refine ⟨by omega, by omega, by omega, by omega, hsu, by omega, by omega, by omega, by omega, by omega, by omega, by omega, fun _ => ⟨by omega, by omega, by omega, ?_⟩⟩
        refine vcC_loop [2, 3, 8, 9, 10] (fun (y : Nat × Str) => y.1 ≤ w.Frames.length ∧ y.2 ++ (kidsA w k ((List.range w.Frames.length).drop y.1)).flatMap (fun i => showF w i (ind ++ [32, 32])) = showF w k ind) (fun y => [.cv (.str ind), .ptr 0 4 0 0, .ptr 1 17 0 0, .cv (.str y.2), .cv (.int .i64 y.1)]) (fun _ => [.boxT 0 [.cv (.sl 4 (w.Frames.map rFrame.enc)), .cv (.int .i64 w.Step), .cv (.int .i64 w.NextDoc), .cv (.int .i64 w.NextKey)], .boxT 0 [.cv (.int .i64 x.Step), .cv (.str x.Url.Scheme), .cv (.str x.Url.User), .cv (.str x.Url.Pass), .cv (.int .i64 x.Url.Host.Kind), .cv (.str x.Url.Host.Name), .cv (.int .i64 x.Url.Host.Addr), .cv (.int .i64 x.Url.Port), .cv (.sl 1 (x.Url.Path.map rStr.enc)), .cv (.str x.Url.Opaque), .cv (.bool x.Url.HasQuery), .cv (.str x.Url.Query), .cv (.bool x.Url.HasFrag), .cv (.str x.Url.Frag), .cv (.int .i64 x.Doc), .cv (.int .i64 x.Key), .cv (.str x.State)]]) (fun y => w.Frames.length - y.1) (0, lineT w k ind) ⟨by simp, by rw [List.drop_zero]; exact hstep.symm⟩ ⟨rfl, by first | rfl | (simp only [hst]; rfl)⟩ ?_
        rintro ⟨i, o⟩ ⟨hi, he⟩
        simp only at hi he
        rcases Nat.lt_or_ge i w.Frames.length with hl | hge
        · have hgi := getD_at rFrame hl
          rw [range_drop hl, kidsA_cons] at he
          have hKi := hKi i
          rw [frA_eq w i hl] at hKi
          have hkd := hkid i hl
          have hle := congrArg List.length he
          rw [List.length_append] at hle
          generalize w.Frames[i] = fi at *
          try dsimp +instances only [go_sem, Nat.reduceBEq, Nat.reduceAdd, Nat.reduceSub, Nat.reduceLT, Nat.reduceLeDiff]
          repeat (simp only [hgi, rFrame_enc, Int.toNat_natCast, bb, Nat.reduceAdd, Int.reduceToNat, Int.reduceLE, Int.reduceLT, Nat.reduceLT, Nat.reduceMul, Nat.reduceLeDiff]; try dsimp +instances only [go_sem, Nat.reduceBEq, Nat.reduceAdd, Nat.reduceSub, Nat.reduceLT, Nat.reduceLeDiff])
          try simp only [nn, reduceCtorEq, hl, decide_true]
          refine ⟨fun _ => hT, fun h => ?_, fun h => ⟨by omega, ?_⟩⟩
          · have hy : isKid w k i = true := by rw [hKi, decide_eq_true h.1, h.2]; rfl
            have K := hkd hy
            have hKl := K.lev
            rw [if_pos hy, List.flatMap_cons] at he
            have hle := congrArg List.length he
            simp only [List.length_append] at hle
            refine ⟨by omega, ⟨⟨K.there hth, hsm, by omega⟩, by omega⟩, by omega, by omega, nextL_intro (i + 1, o ++ showF w i (ind ++ [32, 32])) ⟨by simp only; omega, by simp only [List.append_assoc] at he ⊢; exact he⟩ (by simp only; omega) rfl rfl⟩
          · have hn : ¬ isKid w k i = true := fun hy => by
              rw [hKi, Bool.and_eq_true, decide_eq_true_iff] at hy
              rcases h with h | h
              · exact h hy.1
              · rw [hy.2] at h; cases h
            rw [if_neg hn] at he
            exact nextL_intro (i + 1, o) ⟨by simp only; omega, he⟩ (by simp only; omega) rfl rfl
        · have : i = w.Frames.length := by omega
          subst this
          rw [List.drop_of_length_le (by simp)] at he
          repeat (dsimp +instances only [go_sem, Nat.reduceBEq, Nat.reduceAdd, Nat.reduceSub, Nat.reduceLT, Nat.reduceLeDiff]; try simp only [bb, Nat.reduceAdd, Int.reduceToNat, Int.reduceLE, Int.reduceLT, Nat.reduceLT, Nat.reduceMul, Nat.reduceLeDiff])
          try simp only [nn, reduceCtorEq, Nat.lt_irrefl]
          exact fun _ => by simpa [kidsA] using he
theorem ok33 : CtOk Tryz.prog Gl 33 ct33 := fun W0 cs vs hG ha hd => by
  obtain ⟨w, f, ind, rfl, h⟩ := dom3_inv hd
  refine okr33 ((3 - levN w f) + 1) W0 _ vs hG ha ?_
  simp only [dom3, Ty.de] at hd ⊢
  grind
def E12 : Env := { T := Tz.tab, G := Gl, C := [(26, ct26), (32, ct32), (33, ct33), (34, ct34)], live := [(0, [1]), (1, [1, 6]), (2, [2]), (3, [1, 3]), (4, [2])] }
def ct12 : Ct := .scal (dom1 tWindow (fun w => smallW w)) (fn1 tWindow fun w => [tStr.enc (showW w)])
attribute [go_sem] E12 ct12 Go.Proofs.Tryz.f12
set_option maxHeartbeats 4000000 in
theorem ok12 : CtOk Tryz.prog Gl 12 ct12 := okA1 (E := E12) (sound_of Tz.tab_ok Tz.mixed (AllOk.cons ok26 (AllOk.cons ok32 (AllOk.cons ok33 (AllOk.cons ok34 AllOk.nil))))) rfl Tryz.func12 (by kernel_rfl) fun w fw hp => by
  have gw := fw
  have fw := fit_window fw
  refine vcFn_intro rfl rfl (by kernel_rfl) rfl ?_
  have hth := fun h => there0 (w := w) h
  have hcn := fun h => There.cnt (w := w) h
  have hS : showW w = if winOk w = true then (showF w 0 [] ++ ([115, 116, 101, 112, 32] ++ decI w.Step ++ [32, 111, 102, 32] ++ decI ((stepsF w).getD ((stepsF w).length - 1) 0) ++ [10])) else [] := rfl
  by_cases ho : winOk w = true
  · have hl0 := showF_len (hth ho) (ind := []) (by simp)
    have W := (winOk_iff w).1 ho
    have hpos : 0 < (stepsF w).length := List.length_pos_iff.2 fun e => by have := W.step; rw [e] at this; simp at this
    have h1 : (stepsF w).length - 1 < (stepsF w).length := by omega
    have hg := getD_at rInt h1
    have hsl := stepsF_len w
    have hcn := hcn ho
    rw [if_pos ho, getD_lt h1] at hS
    have hnn := steps_in ho _ (List.getElem_mem h1)
    have hst0 : 0 ≤ w.Step ∧ w.Step ≤ 60 := by
      have hh := W.head
      unfold headOk at hh
      simp only [Bool.and_eq_true, decide_eq_true_iff] at hh
      omega
    have hd1 := decI_len (n := w.Step) (by omega)
    have hd2 := decI_len (n := (stepsF w)[(stepsF w).length - 1]) (by omega)
    have hth := hth ho
    simp only [decI] at hd1 hd2 hS
    rw [hS]
    generalize (stepsF w)[(stepsF w).length - 1] = q at *
    try dsimp +instances only [go_sem, Nat.reduceBEq, Nat.reduceAdd, Nat.reduceSub, Nat.reduceLT, Nat.reduceLeDiff]
    repeat (simp only [hg, rInt_enc, ho, Int.toNat_natCast, bb, Nat.reduceAdd, Int.reduceToNat, Int.reduceLE, Int.reduceLT, Nat.reduceLT, Nat.reduceMul, Nat.reduceLeDiff]; try dsimp +instances only [go_sem, Nat.reduceBEq, Nat.reduceAdd, Nat.reduceSub, Nat.reduceLT, Nat.reduceLeDiff])
    try simp only [nn, reduceCtorEq, decide_true]
    refine ⟨hp, hcn, ⟨hth, hp, by omega⟩, by omega, by omega, by omega, by omega, by omega, by omega, by omega, by omega, by omega, by omega, by omega, ?_⟩
    simp
  · rw [if_neg ho] at hS
    rw [hS]
    repeat (dsimp +instances only [go_sem, Nat.reduceBEq, Nat.reduceAdd, Nat.reduceSub, Nat.reduceLT, Nat.reduceLeDiff]; try simp only [bb, Nat.reduceAdd, Int.reduceToNat, Int.reduceLE, Int.reduceLT, Nat.reduceLT, Nat.reduceMul, Nat.reduceLeDiff])
    try simp only [nn, reduceCtorEq]
    exact ⟨hp, fun h => absurd h ho⟩
end Go.Gx
end
section
namespace Go.Gx
open Go.Proofs
def ctr35 (m : Nat) : Ct := .gen (bgPV 66 5 (domB tWindow tInt tStr (fun w f ind n => (There w f ∧ smallW w ∧ ind.length ≤ 2 * levN w f ∧ n + (showF w f ind).length ≤ 1000000) ∧ 3 - levN w f < m)) (tx3 tWindow tInt tStr (fun w f ind => showF w f ind)))
def E35 (m : Nat) : Env := { T := Tz.tab, G := Gl, C := [(35, ctr35 m), (81, ct81), (38, ct38), (78, ct78), (37, ct37), (82, ct82)], live := [(0, [1, 2, 3, 4]), (1, [1, 2, 3, 4, 8]), (2, [1, 2, 3, 4, 8]), (3, [1, 2, 3, 4, 8, 45]), (4, [1, 2, 3, 4]), (5, [1, 2, 3, 4, 56]), (6, [1, 2, 3, 4]), (7, [1, 2, 3, 4]), (8, [1, 3, 4, 63, 64, 65]), (9, [1, 3, 4, 63, 64, 65, 66]), (10, [1, 3, 4, 10, 63, 64, 65]), (11, [1, 3, 4, 63, 64, 65]), (12, [1, 3, 4, 63, 64, 65])], pin := [0] }
def ct35 : Ct := ctr35 4
attribute [go_sem] ctr35 E35 ct35 Go.Proofs.Tryz.f35
set_option maxHeartbeats 8000000 in
theorem okr35 : ∀ m, CtOk Tryz.prog Gl 35 (ctr35 m)
  | 0 => bg_none fun _ _ _ _ h => Nat.not_lt_zero _ h.2
  | m + 1 => bg_ok3 (E := E35 m) (sound_of Tz.tab_ok Tz.mixed (AllOk.cons (okr35 m) (AllOk.cons ok81 (AllOk.cons ok38 (AllOk.cons ok78 (AllOk.cons ok37 (AllOk.cons ok82 AllOk.nil))))))) Tryz.func35 (by kernel_rfl) rfl fun w f ind o fw ff find fo hp => by
    have gw := fw
    have fw := fit_window fw
    have ff := fit_int ff
    have find := fit_str find
    refine vcFn_intro rfl rfl (by kernel_rfl) rfl ?_
    have fF := (WindowFit.Frames (fit_window gw)).1
    have fH : ∀ f ∈ w.Frames, Fit f.Hist.length := fun f hf => (FrameFit_el (WindowFit.Frames (fit_window gw)).2 hf).Hist.1
    obtain ⟨⟨hth, hsm, hin, hno⟩, hm⟩ := hp
    have hlv := levN_le w f
    have hstep := showF_step hth ind
    have hent := hth.ent
    have hkm := fun x (h : x ∈ kidsF w f) => kidsF_mem hth h
    have hkl := kidsF_len hth.ok f
    have hline : lineT w f ind = ind ++ decI f ++ [32] ++ (frA w f).Name ++ [32] ++ putU (nowF w f).Url ++ [32, 100, 111, 99, 32] ++ decI (nowF w f).Doc ++ [32, 107, 101, 121, 32] ++ decI (nowF w f).Key ++ ((if (nowF w f).State = [] then [] else [32, 115, 116, 97, 116, 101, 32] ++ (nowF w f).State) ++ ((if (frA w f).Asks = true then [32, 97, 115, 107, 115] else []) ++ [10])) := rfl
    have hlnl := lineT_len hth ind
    have hl1 := hlnl
    rw [hline] at hl1
    simp only [decI, List.length_append, List.length_cons, List.length_nil] at hl1
    have h0 := hth.hat
    have hmem := hth.mem
    obtain ⟨ok, ge, lt, live⟩ := id hth
    obtain ⟨k, hlt, rfl, hmm, hfr⟩ := hmem
    have hg := getD_at rFrame hlt
    have hsk := hsm _ (List.getElem_mem hlt)
    have hsu := hsk _ hmm
    have hh0 : 0 ≤ hatF (w.Frames.getD (k : Int).toNat default).Hist w.Step := h0
    rw [hfr] at hline hl1 hent h0
    generalize hgk : w.Frames[k] = g at *
    generalize hx : nowF w k = x at *
    have hent1 := hent.1
    unfold entOk at hent1
    simp only [Bool.and_eq_true, decide_eq_true_iff] at hent1
    cases hask : g.Asks
    all_goals
      by_cases hst : x.State = []
      all_goals
        simp only [hask, hst, if_true, if_false, Bool.false_eq_true, List.length_nil, List.length_append, List.length_cons, reduceCtorEq] at hl1 hline
        try dsimp +instances only [go_sem, Nat.reduceBEq, Nat.reduceAdd, Nat.reduceSub, Nat.reduceLT, Nat.reduceLeDiff]
        repeat (simp only [hg, rFrame_enc, rEntry_enc, Int.toNat_natCast, hask, hst, hx, bb, Nat.reduceAdd, Int.reduceToNat, Int.reduceLE, Int.reduceLT, Nat.reduceLT, Nat.reduceMul, Nat.reduceLeDiff]; try dsimp +instances only [go_sem, Nat.reduceBEq, Nat.reduceAdd, Nat.reduceSub, Nat.reduceLT, Nat.reduceLeDiff])
        repeat (dsimp +instances only [callIm_mk, killR, killA, killC, kill1, List.set_cons_zero, List.set_cons_succ]; repeat (dsimp +instances only [go_sem, Nat.reduceBEq, Nat.reduceAdd, Nat.reduceSub, Nat.reduceLT, Nat.reduceLeDiff]; try simp only [hg, rFrame_enc, rEntry_enc, Int.toNat_natCast, hask, hst, hx, bb, Nat.reduceAdd, Int.reduceToNat, Int.reduceLE, Int.reduceLT, Nat.reduceLT, Nat.reduceMul, Nat.reduceLeDiff]))
        try simp only [nn, reduceCtorEq, hlt, decide_true]
        simp only [Int.toNat_natCast] at hl1
        have e0 : 0 ≤ hatF w.Frames[k].Hist w.Step := by rw [hgk]; exact h0
        first
        | refine ⟨e0, by omega, by omega, by omega, by omega, hsu, by omega, by omega, by omega, by omega, by omega, by omega, by omega, by omega, by omega, by omega, hth, by omega, ?_⟩
        | refine ⟨e0, by omega, by omega, by omega, by omega, hsu, by omega, by omega, by omega, by omega, by omega, by omega, by omega, by omega, by omega, hth, by omega, ?_⟩
        | refine ⟨e0, by omega, by omega, by omega, by omega, hsu, by omega, by omega, by omega, by omega, by omega, by omega, by omega, by omega, fun _ => ⟨by omega, by omega, by omega, by omega, hth, by omega, ?_⟩⟩
        | refine ⟨e0, by omega, by omega, by omega, by omega, hsu, by omega, by omega, by omega, by omega, by omega, by omega, by omega, by omega, fun _ => ⟨by omega, by omega, by omega, hth, by omega, ?_⟩⟩
        refine vcC_loop [1, 3, 4, 63, 64, 65] (fun (y : Nat × Nat × Str) => y.2.1 = y.2.2.length ∧ y.1 ≤ (kidsF w k).length ∧ y.2.2 ++ ((kidsF w k).drop y.1).flatMap (fun i => showF w i (ind ++ [32, 32])) = o ++ showF w k ind) (fun y => [.ptr 0 2 0 0, .cv (.str ind), .ptr 1 4 0 0, .pth 2 1 0 (kidsF w k).length, .cv (.int .i64 (kidsF w k).length), .cv (.int .i64 y.1)]) (fun y => [.boxT 66 [.slf 0, .pth0 3 y.2.1], .boxT 0 [.cv (.sl 4 (w.Frames.map rFrame.enc)), .cv (.int .i64 w.Step), .cv (.int .i64 w.NextDoc), .cv (.int .i64 w.NextKey)], .row 1 ((kidsF w k).map rInt.enc) [], .byt0 5 y.2.2]) (fun y => (kidsF w k).length - y.1) (0, _, _) ?_ ⟨rfl, rfl⟩ ?_
        · refine ⟨?_, by simp, ?_⟩
          · simp only [List.length_append, List.length_cons, List.length_nil]
          · rw [hstep, hline]; simp [decI]
        rintro ⟨j, n, t⟩ ⟨hn, hj, he⟩
        simp only at hn hj he
        subst hn
        rcases Nat.lt_or_ge j (kidsF w k).length with hjl | hge
        · have hgj := getD_at rInt hjl
          obtain ⟨i, hxi, K⟩ := hkm _ (List.getElem_mem hjl)
          have hKl := K.lev
          rw [List.drop_eq_getElem_cons hjl, List.flatMap_cons] at he
          have hle := congrArg List.length he
          simp only [List.length_append] at hle
          rw [hxi] at hgj he hle
          try dsimp +instances only [go_sem, Nat.reduceBEq, Nat.reduceAdd, Nat.reduceSub, Nat.reduceLT, Nat.reduceLeDiff]
          repeat (simp only [hgj, rInt_enc, Int.toNat_natCast, bb, Nat.reduceAdd, Int.reduceToNat, Int.reduceLE, Int.reduceLT, Nat.reduceLT, Nat.reduceMul, Nat.reduceLeDiff]; try dsimp +instances only [go_sem, Nat.reduceBEq, Nat.reduceAdd, Nat.reduceSub, Nat.reduceLT, Nat.reduceLeDiff])
          try simp only [nn, reduceCtorEq, hjl, decide_true]
          exact ⟨by omega, by decide, ⟨⟨K.there hth, hsm, by omega, by omega⟩, by omega⟩, by omega, nextL_intro (j + 1, (t ++ showF w i (ind ++ [32, 32])).length, t ++ showF w i (ind ++ [32, 32])) ⟨rfl, by simp only; omega, by show (t ++ _) ++ _ = _; rw [List.append_assoc]; exact he⟩ (by simp only; omega) rfl (by simp only [List.length_append])⟩
        · have : j = (kidsF w k).length := by omega
          subst this
          rw [List.drop_length, List.flatMap_nil, List.append_nil] at he
          repeat (dsimp +instances only [go_sem, Nat.reduceBEq, Nat.reduceAdd, Nat.reduceSub, Nat.reduceLT, Nat.reduceLeDiff]; try simp only [bb, Nat.reduceAdd, Int.reduceToNat, Int.reduceLE, Int.reduceLT, Nat.reduceLT, Nat.reduceMul, Nat.reduceLeDiff])
          repeat (dsimp +instances only [callIm_mk, killR, killA, killC, kill1, List.set_cons_zero, List.set_cons_succ]; repeat (dsimp +instances only [go_sem, Nat.reduceBEq, Nat.reduceAdd, Nat.reduceSub, Nat.reduceLT, Nat.reduceLeDiff]; try simp only [bb, Nat.reduceAdd, Int.reduceToNat, Int.reduceLE, Int.reduceLT, Nat.reduceLT, Nat.reduceMul, Nat.reduceLeDiff]))
          try simp only [nn, reduceCtorEq, Nat.lt_irrefl]
          exact fun _ => ⟨by decide, by rw [he, List.length_append], he⟩
theorem ok35 : CtOk Tryz.prog Gl 35 ct35 := okr35 4
def E13 : Env := { T := Tz.tab, G := Gl, C := [(29, ct29), (35, ct35), (36, ct36), (38, ct38), (37, ct37), (39, ct39)], live := [(0, [1]), (1, [1, 7]), (2, [2]), (3, [1, 3]), (4, [1, 3]), (5, [1, 3, 4]), (6, [3]), (7, [2])] }
def ct13 : Ct := .scal (dom1 tWindow (fun w => smallW w)) (fn1 tWindow fun w => [tStr.enc (showW w)])
attribute [go_sem] E13 ct13 Go.Proofs.Tryz.f13
set_option maxHeartbeats 4000000 in
theorem ok13 : CtOk Tryz.prog Gl 13 ct13 := okA1 (E := E13) (sound_of Tz.tab_ok Tz.mixed (AllOk.cons ok29 (AllOk.cons ok35 (AllOk.cons ok36 (AllOk.cons ok38 (AllOk.cons ok37 (AllOk.cons ok39 AllOk.nil))))))) rfl Tryz.func13 (by kernel_rfl) fun w fw hp => by
  have gw := fw
  have fw := fit_window fw
  refine vcFn_intro rfl rfl (by kernel_rfl) rfl ?_
  have hth := fun h => there0 (w := w) h
  have hcn := fun h => There.cnt (w := w) h
  have hS : showW w = if winOk w = true then (showF w 0 [] ++ ([115, 116, 101, 112, 32] ++ decI w.Step ++ [32, 111, 102, 32] ++ decI ((stepsF w).getD ((stepsF w).length - 1) 0) ++ [10])) else [] := rfl
  by_cases ho : winOk w = true
  · have hl0 := showF_len (hth ho) (ind := []) (by simp)
    have W := (winOk_iff w).1 ho
    have hpos : 0 < (stepsF w).length := List.length_pos_iff.2 fun e => by have := W.step; rw [e] at this; simp at this
    have h1 : (stepsF w).length - 1 < (stepsF w).length := by omega
    have hg := getD_at rInt h1
    have hsl := stepsF_len w
    have hcn := hcn ho
    rw [if_pos ho, getD_lt h1] at hS
    have hnn := steps_in ho _ (List.getElem_mem h1)
    have hst0 : 0 ≤ w.Step ∧ w.Step ≤ 60 := by
      have hh := W.head
      unfold headOk at hh
      simp only [Bool.and_eq_true, decide_eq_true_iff] at hh
      omega
    have hd1 := decI_len (n := w.Step) (by omega)
    have hd2 := decI_len (n := (stepsF w)[(stepsF w).length - 1]) (by omega)
    have hth := hth ho
    simp only [decI] at hd1 hd2 hS
    rw [hS]
    generalize (stepsF w)[(stepsF w).length - 1] = q at *
    try dsimp +instances only [go_sem, Nat.reduceBEq, Nat.reduceAdd, Nat.reduceSub, Nat.reduceLT, Nat.reduceLeDiff]
    repeat (simp only [hg, rInt_enc, ho, Int.toNat_natCast, bb, Nat.reduceAdd, Int.reduceToNat, Int.reduceLE, Int.reduceLT, Nat.reduceLT, Nat.reduceMul, Nat.reduceLeDiff]; try dsimp +instances only [go_sem, Nat.reduceBEq, Nat.reduceAdd, Nat.reduceSub, Nat.reduceLT, Nat.reduceLeDiff])
    try simp only [nn, reduceCtorEq, decide_true]
    exact ⟨hp, by decide, ⟨⟨hth, hp, by omega, by omega⟩, by omega⟩, hcn, by omega, by omega, by omega, by omega, by omega, by omega, by omega, by omega, by omega, by omega, by omega, by decide⟩
  · rw [if_neg ho] at hS
    rw [hS]
    repeat (dsimp +instances only [go_sem, Nat.reduceBEq, Nat.reduceAdd, Nat.reduceSub, Nat.reduceLT, Nat.reduceLeDiff]; try simp only [bb, Nat.reduceAdd, Int.reduceToNat, Int.reduceLE, Int.reduceLT, Nat.reduceLT, Nat.reduceMul, Nat.reduceLeDiff])
    try simp only [nn, reduceCtorEq]
    exact ⟨hp, fun h => absurd h ho⟩
end Go.Gx
end
section
namespace Go.Gx
open Go.Proofs
theorem urlSz_C (u : Url) : (urlSz u : Int) = urlC u := by
  unfold urlSz urlC; rw [pathPut_len]; omega
theorem small_of_winC {w : Window} (h : winC w ≤ 1048576) : smallW w := by
  intro f hf e he
  have h1 := sumF_mem w.Frames f hf
  have h2 := sumE_mem f.Hist e he
  have h3 := urlSz_C e.Url
  unfold winC at h
  unfold frmC at h1
  unfold entC at h2
  omega
end Go.Gx
end
section
namespace Go.Gx
open Go.Proofs
def E4 : Env := { T := Tz.tab, G := Gl, C := [(7, ct7), (9, ct9), (12, ct12), (13, ct13), (11, ct11)], live := [(0, [1]), (1, [1, 3]), (2, [1, 3]), (3, [1, 11]), (4, [2]), (5, [1, 4]), (6, [1, 4, 5]), (7, [1, 4, 5, 6]), (8, [1, 5, 21]), (9, [2]), (10, [26]), (11, [2]), (12, [2])] }
def ct4 : Ct := .scal (dom1 tWindow (fun a => True)) (fn1 tWindow fun a => [tBool.enc true])
attribute [go_sem] E4 ct4 Go.Proofs.Tryz.f4
set_option maxHeartbeats 8000000 in
theorem ok4 : CtOk Tryz.prog Gl 4 ct4 := okA1 (E := E4) (sound_of Tz.tab_ok Tz.mixed (AllOk.cons ok7 (AllOk.cons ok9 (AllOk.cons ok12 (AllOk.cons ok13 (AllOk.cons ok11 AllOk.nil)))))) rfl Tryz.func4 (by kernel_rfl) fun a fa hp => by
  have ga := fa
  have fa := fit_window fa
  refine vcFn_intro rfl rfl (by kernel_rfl) rfl ?_
  repeat (dsimp +instances only [go_sem, Nat.reduceBEq, Nat.reduceAdd, Nat.reduceSub, Nat.reduceLT, Nat.reduceLeDiff]; try simp only [bb, Nat.reduceAdd, Int.reduceToNat, Int.reduceLE, Int.reduceLT, Nat.reduceLT, Nat.reduceMul, Nat.reduceLeDiff])
  try simp only [nn, reduceCtorEq]
  refine fun hsz => ?_
  have hb := szTo_ok hsz (by omega)
  have hsm := small_of_winC hb
  simp only [take_strs, Rw.map_dec, ex_enc, bne_self_eq_false, decide_true, Bool.not_true, Bool.false_eq_true, or_false, false_or, not_true_eq_false, false_implies, true_and, and_true, and_false, imp_false, Nat.le_refl, true_implies, forall_const, implies_true, or_self, hsm]
  (repeat' (first | refine And.intro ?_ ?_ | intro _)) <;> try first | omega | trivial
end Go.Gx
end
section
namespace Go.Gx
def ShFs (S : Nat → List CV → Prop) : List Nat → List CV → Prop
  | [], cs => cs = []
  | t :: ts, cs => ∃ a b, cs = a ++ b ∧ S t a ∧ ShFs S ts b
def ShK (T : Tab) (S : Nat → List CV → Prop) (ft : List Nat) (cs : List CV) : TK → Prop
  | .int k => ∃ n, cs = [.int k n]
  | .bool => ∃ b, cs = [.bool b]
  | .str => ∃ s, cs = [.str s]
  | .slice e => ∃ es, cs = [.sl (T.size e) es] ∧ ∀ r ∈ es, S e r
  | .struct _ => ShFs S ft cs
  | .mapIB => False
  | .other => False
def Sh (T : Tab) : Nat → Nat → List CV → Prop
  | 0, _, _ => False
  | d + 1, t, cs => ShK T (Sh T d) (T.ti t).ft cs (T.tk t)
def okK (T : Tab) (O : Nat → Bool) (t : Nat) : TK → Bool
  | .int _ => true
  | .bool => true
  | .str => true
  | .slice e => Nat.blt 0 (T.size e) && O e
  | .struct fs => contig 0 fs (T.size t) && (fs.map (·.2) == (T.ti t).ft.map T.size) && (T.ti t).ft.all O
  | .mapIB => false
  | .other => false
def okT (T : Tab) : Nat → Nat → Bool
  | 0, _ => false
  | d + 1, t => okK T (okT T d) t (T.tk t)
def RepIL (St : Snap) : List CV → List Value → Prop
  | [], [] => True
  | c :: cs, v :: vs => RepI St c v ∧ RepIL St cs vs
  | _, _ => False
theorem RepIL.len {St : Snap} : ∀ {cs : List CV} {vs : List Value}, RepIL St cs vs → cs.length = vs.length
  | [], [], _ => rfl
  | _ :: _, _ :: _, h => by simp [h.2.len]
  | [], _ :: _, h => h.elim
  | _ :: _, [], h => h.elim
theorem RepIL.get {St : Snap} : ∀ {cs : List CV} {vs : List Value}, RepIL St cs vs → ∀ (i : Nat) (c : CV), cs[i]? = some c → ∃ v, vs[i]? = some v ∧ RepI St c v
  | [], [], _, i, c, h => by simp at h
  | c :: _, v :: _, h, 0, c', hc => by simp at hc; subst hc; exact ⟨v, rfl, h.1⟩
  | _ :: cs, _ :: vs, h, i + 1, c', hc => by simp at hc; simpa using h.2.get i c' hc
  | [], _ :: _, h, _, _, _ => h.elim
  | _ :: _, [], h, _, _, _ => h.elim
theorem RepIL.app {St : Snap} : ∀ {a b : List CV} {u v : List Value}, RepIL St a u → RepIL St b v → RepIL St (a ++ b) (u ++ v)
  | [], _, [], _, _, h => h
  | _ :: _, _, _ :: _, _, h, h' => ⟨h.1, h.2.app h'⟩
  | [], _, _ :: _, _, h, _ => h.elim
  | _ :: _, _, [], _, h, _ => h.elim
structure Bulk (H : Type) where
  b : DataW H → Nat
  ba : List (DataW H) → Nat
  str : ∀ l, b (.lit (.string l)) = l.length + 1
  slc : ∀ e s, b (.slice e s) = ba e + ba s + 1
  agg : ∀ p, b (.agg p) = ba p + 1
  nil : ba [] = 0
  cons : ∀ d r, ba (d :: r) = b d + ba r
  pos : ∀ d, 1 ≤ b d
theorem Bulk.len {H : Type} (B : Bulk H) : ∀ l : List (DataW H), l.length ≤ B.ba l
  | [] => by simp
  | d :: r => by have := B.len r; have := B.pos d; rw [B.cons, List.length_cons]; omega
theorem Bulk.mem {H : Type} (B : Bulk H) : ∀ (l : List (DataW H)) (i : Nat) (d : DataW H), l[i]? = some d → B.b d ≤ B.ba l
  | [], i, d, h => by simp at h
  | a :: r, 0, d, h => by simp at h; subst h; rw [B.cons]; omega
  | a :: r, i + 1, d, h => by have := B.mem r i d (by simpa using h); rw [B.cons]; omega
theorem wrap_wf {k : IntKind} {n : Int} (h : (Lit.int k n).wf = true) : InR k n := by
  unfold InR
  cases k <;> simp [Lit.wf, IntKind.wrap, IntKind.min, IntKind.max, IntKind.signed, IntKind.bits] at h ⊢ <;> (try split) <;> omega
section
variable {H : Type} {enc : TypeId × Value → H} {P : Program} {T : Tab} {w : World} {base : Nat} {sp : Nat → Bool} {held : Bool}
theorem fields_ok {St : Snap} {S : Nat → List CV → Prop} {n : Nat} {CS : List Value} (hCS : CS.length = n) : ∀ (fl : List Field) (fss : List (Nat × Nat)) (off : Nat), contig off fss n = true → fl.length = fss.length →
    (∀ (i : Nat) (x : Nat × Nat) (f : Field), fss[i]? = some x → fl[i]? = some f → f.offset = x.1 ∧ ∃ es, S f.type es ∧ RepIL St es ((CS.drop x.1).take x.2)) →
    ∃ es, ShFs S (fl.map (·.type)) es ∧ RepIL St es (CS.drop off)
  | [], [], off, hc, _, _ => by
    simp [contig] at hc
    refine ⟨[], rfl, ?_⟩
    rw [List.drop_eq_nil_of_le (by omega)]; trivial
  | f :: fl, (o, s) :: fss, off, hc, hl, h => by
    simp [contig] at hc
    obtain ⟨rfl, hc⟩ := hc
    obtain ⟨e1, es, h1, h2⟩ := h 0 (o, s) f rfl rfl
    obtain ⟨es', h3, h4⟩ := fields_ok hCS fl fss (o + s) hc (by simpa using hl) fun i x g hx hg => h (i + 1) x g (by simpa using hx) (by simpa using hg)
    refine ⟨es ++ es', ⟨es, es', rfl, h1, h3⟩, ?_⟩
    have e : CS.drop o = (CS.drop o).take s ++ CS.drop (o + s) := by rw [← List.drop_drop, List.take_append_drop]
    rw [e]
    exact h2.app h4
  | [], _ :: _, _, _, hl, _ => by simp at hl
  | _ :: _, [], _, _, hl, _ => by simp at hl
theorem read_ok (hT : TabOk P T) (B : Bulk H) : ∀ (d fuel t : Nat) (cs : List Value) (x : DataW H × List MemPlace), okT T d t = true → DataW.trod enc P w base sp held fuel t cs = some x → B.b x.1 ≤ 68719476736 →
    ∃ es, Sh T d t es ∧ RepIL (heapS w) es cs
  | 0, _, _, _, _, h, _, _ => by simp [okT] at h
  | d + 1, fuel, t, cs, x, hok, h, hb => by
    have hti : T.tk t ≠ .other := fun e => by simp [okT, e, okK] at hok
    obtain ⟨inf, hi, hsz, hby, hb2, hz, hk, hft⟩ := hT.tk hti
    have hk' : TkOk P t (T.tk t) := hk
    simp only [okT] at hok
    simp only [Sh]
    cases e : T.tk t with
    | mapIB => simp [e, okK] at hok
    | other => exact absurd e hti
    | int k =>
      rw [e] at hk'
      obtain ⟨n, rfl, rfl, hw⟩ := DataW.trod_int hk' h
      exact ⟨[.int k n], ⟨n, rfl⟩, .int (wrap_wf hw), trivial⟩
    | bool =>
      rw [e] at hk'
      obtain ⟨b, rfl, rfl⟩ := DataW.trod_bool hk' h
      exact ⟨[.bool b], ⟨b, rfl⟩, .bool, trivial⟩
    | str =>
      rw [e] at hk'
      obtain ⟨s, rfl, rfl, hs⟩ := DataW.trod_string hk' h
      refine ⟨[.str s.data.toList], ⟨_, rfl⟩, ?_, trivial⟩
      have := RepI.str (St := heapS w) (l := s.data.toList) (by simp only [B.str] at hb; unfold Fit; omega)
      simpa using this
    | slice el =>
      rw [e] at hk' hok
      simp only [okK, Bool.and_eq_true] at hok
      have hpos : 0 < T.size el := by simpa using hok.1
      obtain ⟨infe, hie, hsze, _⟩ := hT.ti hpos
      have hcell : P.cellsOf el = T.size el := by simp [Program.cellsOf, hie, hsze]; rfl
      rcases DataW.trod_slice hk' h with ⟨rfl, rfl⟩ | ⟨a, len, cap, elems, rest, n, rfl, rfl, rfl, hba, hlc, hcm, hel, hget, _, _⟩
      · exact ⟨[.sl (T.size el) []], ⟨[], rfl, fun r hr => by cases hr⟩, .nil, trivial⟩
      · rw [hcell] at hget
        have hlen : B.ba (elems.map (·.1)) ≤ 68719476736 := by simp only [B.slc] at hb; omega
        have hlen2 := B.len (elems.map (·.1))
        rw [List.length_map] at hlen2
        have each : ∀ i, i < len → ∃ es vs, Sh T d el es ∧ RepIL (heapS w) es vs ∧ w.cells? base (a.add (i * T.size el)) (T.size el) = some vs := fun i hi => by
          have hg := hget i hi
          rw [List.getElem?_eq_getElem (by omega : i < elems.length)] at hg
          obtain ⟨vs, h1, h2⟩ := Option.bind_eq_some_iff.1 hg
          obtain ⟨es, h3, h4⟩ := read_ok hT B d n el vs _ hok.2 h2 (Nat.le_trans (B.mem (elems.map (·.1)) i _ (by rw [List.getElem?_map, List.getElem?_eq_getElem (by omega : i < elems.length)]; rfl)) hlen)
          exact ⟨es, vs, h3, h4, h1⟩
        have pick : ∃ (f : Nat → List CV) (g : Nat → List Value), ∀ i, i < len → Sh T d el (f i) ∧ RepIL (heapS w) (f i) (g i) ∧ w.cells? base (a.add (i * T.size el)) (T.size el) = some (g i) := by
          refine ⟨fun i => if h : i < len then (each i h).choose else [], fun i => if h : i < len then (each i h).choose_spec.choose else [], fun i hi => ?_⟩
          simp only [dif_pos hi]
          exact (each i hi).choose_spec.choose_spec
        obtain ⟨f, g, hfg⟩ := pick
        have hcells : ∀ i, i < len → ∀ j, j < T.size el → ∃ v, (g i)[j]? = some v ∧ w.cell? ((a.add (i * T.size el)).add j) = some v := fun i hi j hj => by
          have h1 := (hfg i hi).2.2
          unfold World.cells? at h1
          split at h1
          · have h2 := mapM_some_get h1 j j (by simp [hj])
            have h3 := mapM_some_length h1
            rw [List.length_range] at h3
            rw [List.getElem?_eq_getElem (by omega : j < (g i).length)] at h2 ⊢
            exact ⟨_, rfl, h2⟩
          · cases h1
        have hglen : ∀ i, i < len → (f i).length = T.size el := fun i hi => by
          have h1 := (hfg i hi).2.2
          unfold World.cells? at h1
          split at h1
          · have h3 := mapM_some_length h1
            rw [List.length_range] at h3
            rw [(hfg i hi).2.1.len, h3]
          · cases h1
        refine ⟨[.sl (T.size el) ((List.range len).map f)], ⟨_, rfl, fun r hr => ?_⟩, ?_, trivial⟩
        · obtain ⟨i, hi, rfl⟩ := List.mem_map.1 hr
          exact (hfg i (by simpa using hi)).1
        · cases len with
          | zero => exact .nil
          | succ len =>
            obtain ⟨v0, hv0, hc0⟩ := hcells 0 (by omega) 0 hpos
            have hspot : a.spot = none := by
              have := World.cell?_spot hc0
              simpa [Addr.add] using this
            obtain ⟨b, o, spot⟩ := a
            simp only at hspot
            subst hspot
            have hadd : ∀ i j, ((⟨b, o, none⟩ : Addr).add (i * T.size el)).add j = ⟨b, o + i * T.size el + j, none⟩ := fun i j => by
              unfold Addr.add
              split <;> split <;> simp_all
            simp only [hadd] at hcells hc0
            have hblk : ∃ cur Ty fr, w.heap[b]? = some (.cells cur Ty fr) := by
              unfold World.cell? at hc0
              split at hc0
              · rename_i c t fr hh; exact ⟨c, t, fr, hh⟩
              · cases hc0
            obtain ⟨cur, Ty, fr, hblk⟩ := hblk
            have hcur : ∀ k v, w.cell? ⟨b, k, none⟩ = some v → cur[k]? = some v := fun k v hv => by
              unfold World.cell? at hv
              simp only [hblk] at hv
              simpa using hv
            have hrow : ∀ i, i < len + 1 → ((List.range (len + 1)).map f).getD i [] = f i := fun i hi => by
              simp [List.getD_eq_getElem?_getD, hi]
            have hl : ((List.range (len + 1)).map f).length = len + 1 := by simp
            have := RepI.sl (St := heapS w) (sz := T.size el) (es := (List.range (len + 1)).map f) (b := b) (o := o) (c := cap) (cur := cur) (T := Ty) (fr := fr) (fun i j => (g i).getD j undef)
              (by rw [hl]; unfold Fit; omega) (fun i hi => by rw [hl] at hi; rw [hrow i hi]; exact hglen i hi) hblk (by rw [hl]; exact hlc)
              (fun i j hi hj => by
                rw [hl] at hi
                obtain ⟨v, h1, h2⟩ := hcells i hi j hj
                rw [hcur _ _ h2, List.getD_eq_getElem?_getD, h1]; rfl)
              (fun i j hi hj => by
                rw [hl] at hi
                unfold getC
                rw [hrow i hi]
                have hj' : j < (f i).length := by rw [hglen i hi]; exact hj
                obtain ⟨v, h1, h2⟩ := (hfg i hi).2.1.get j _ (List.getElem?_eq_getElem hj')
                rw [List.getD_eq_getElem?_getD, List.getD_eq_getElem?_getD, h1, List.getElem?_eq_getElem hj']
                exact h2)
            rw [hl] at this
            exact this
    | struct fs =>
      rw [e] at hk' hok
      simp only [okK, Bool.and_eq_true] at hok
      obtain ⟨⟨hcon, hsizes⟩, hall⟩ := hok
      obtain ⟨fields, hu, hfl, hfi⟩ := hk'
      obtain ⟨_, _, hty, _⟩ := hft fields hu
      obtain ⟨xs, n, rfl, rfl, hcl, hxl, hxi⟩ := DataW.trod_struct hu h
      have hcell : P.cellsOf t = T.size t := by simp [Program.cellsOf, hi, hsz]; rfl
      have hba : B.ba (xs.map (·.1)) ≤ 68719476736 := by simp only [B.agg] at hb; omega
      have := fields_ok (St := heapS w) (S := Sh T d) (CS := cs) (n := T.size t) (by rw [hcl, hcell]) fields.toList fs 0 hcon (by simpa using hfl) fun i x f hx hf => by
        obtain ⟨f', hf', ho, hs, _⟩ := hfi i x hx
        rw [Array.getElem?_toList] at hf
        rw [hf] at hf'; injection hf' with hf'; subst hf'
        refine ⟨ho, ?_⟩
        have hg := hxi i f hf
        have hci : P.cellsOf f.type = x.2 := by simp [Program.cellsOf, hs]
        have hil : i < xs.length := by rw [hxl]; exact (Array.getElem?_eq_some_iff.1 hf).1
        rw [ho, hci, List.getElem?_eq_getElem hil] at hg
        have hokf : okT T d f.type = true := by
          refine List.all_eq_true.1 hall f.type ?_
          rw [← hty]
          exact List.mem_map.2 ⟨f, Array.mem_toList_iff.2 (Array.mem_of_getElem? hf), rfl⟩
        exact read_ok hT B d n f.type _ _ hokf hg (Nat.le_trans (B.mem (xs.map (·.1)) i _ (by rw [List.getElem?_map, List.getElem?_eq_getElem hil]; rfl)) hba)
      obtain ⟨es, h1, h2⟩ := this
      refine ⟨es, ?_, by simpa using h2⟩
      simp only [ShK]
      rw [hty] at h1
      exact h1
end
end Go.Gx
end
section
namespace Go.Gx
open Go.ChangeShapes Go.WideShapes Go.RowKit
def ShAll (T : Tab) (d : Nat) : List Nat → RV → Prop
  | [], [] => True
  | t :: ts, c :: cs => c.1 = isStruct (T.tk t) ∧ Sh T d t c.2 ∧ ShAll T d ts cs
  | _, _ => False
section
variable {H : Type} {enc : TypeId × Value → H} {P : Program} {T : Tab} {w : World} {base : Nat} {sp : Nat → Bool} {held : Bool}
theorem arg_ok (hT : TabOk P T) (B : Bulk H) {d t b0 : Nat} {r : Reach} {v : Value} {x : DataW H} {ps : List MemPlace} (hok : okT T d t = true) (hval : Value.okWide P w r b0 t v) (h : DataW.Trod enc P w base sp held t v x ps) (hb : B.b x ≤ 68719476736) :
    ∃ es, Sh T d t es ∧ RepIA (heapS w) (isStruct (T.tk t), es) v := by
  obtain ⟨fuel, h⟩ := h
  obtain ⟨es, h1, h2⟩ := read_ok hT B d fuel t _ _ hok h hb
  refine ⟨es, h1, ?_⟩
  have hti : T.tk t ≠ .other := fun e => by cases d <;> simp [okT, e, okK] at hok
  obtain ⟨inf, hi, hsz, hby, hb2, hz, hk, hft⟩ := hT.tk hti
  have hk' : TkOk P t (T.tk t) := hk
  have one : ∀ u : Value, v = u → u.cells = #[u] → RepIA (heapS w) (false, es) v := fun u hu hc => by
    subst hu
    rw [hc] at h2
    have hl := h2.len
    match es, hl, h2 with
    | [c], _, h2 => exact ⟨c, rfl, h2.1⟩
  cases e : T.tk t with
  | mapIB => cases d <;> simp [okT, e, okK] at hok
  | other => exact absurd e hti
  | int k => rw [e] at hk'; obtain ⟨n, hv⟩ := okWide_int hk' hval; exact one _ hv rfl
  | bool => rw [e] at hk'; obtain ⟨n, hv⟩ := okWide_bool hk' hval; exact one _ hv rfl
  | str => rw [e] at hk'; obtain ⟨n, hv⟩ := okWide_string hk' hval; exact one _ hv rfl
  | slice el => rw [e] at hk'; obtain ⟨a, l, c, hv⟩ := okWide_slice hk' hval; exact one _ hv rfl
  | struct fs =>
    rw [e] at hk'
    obtain ⟨fields, hu, _⟩ := hk'
    obtain ⟨cs, rfl, _⟩ := okWide_struct hu hval
    exact ⟨cs.toList, by simp, h2.len.symm, h2.get⟩
theorem args_ok (hT : TabOk P T) (B : Bulk H) {d b0 : Nat} {r : Reach} : ∀ (ts : List Nat) (vs : List Value) (ds : List (DataW H)) (ps : List MemPlace), ts.all (okT T d) = true → DataW.TrodAll enc P w base sp held ts vs ds ps →
    (∀ (j : Nat) t v, ts[j]? = some t → vs[j]? = some v → Value.okWide P w r b0 t v) → B.ba ds ≤ 68719476736 → ∃ cs : RV, ShAll T d ts cs ∧ RepIAs (heapS w) cs vs
  | [], [], [], _, _, _, _, _ => ⟨[], trivial, rfl, fun i c hc => by simp at hc⟩
  | t :: ts, v :: vs, x :: ds, ps, hok, h, hval, hb => by
    obtain ⟨p, q, h1, h2, rfl⟩ := h
    rw [B.cons] at hb
    simp only [List.all_cons, Bool.and_eq_true] at hok
    obtain ⟨es, a1, a2⟩ := arg_ok hT B hok.1 (hval 0 t v rfl rfl) h1 (by omega)
    obtain ⟨cs, b1, b2⟩ := args_ok hT B ts vs ds q hok.2 h2 (fun j t v ht hv => hval (j + 1) t v (by simpa using ht) (by simpa using hv)) (by omega)
    refine ⟨(isStruct (T.tk t), es) :: cs, ⟨rfl, a1, b1⟩, by simp [b2.1], fun i c hc => ?_⟩
    cases i with
    | zero => simp at hc; subst hc; exact ⟨v, rfl, a2⟩
    | succ i => simp at hc; simpa using b2.2 i c hc
  | [], _ :: _, _, _, _, h, _, _ => h.elim
  | [], [], _ :: _, _, _, h, _, _ => h.elim
  | _ :: _, [], _, _, _, h, _, _ => h.elim
  | _ :: _, _ :: _, [], _, _, h, _, _ => h.elim
theorem Later.below {w w' : World} (h : Later w w') : Below w.heap.size w w' := ⟨h.os, h.tape, h.output, h.size, h.ext⟩
def rowed (P : Program) (ts : List Nat) : Bool := ts.all fun t => P.readableRec t && decide (t < P.types.size)
theorem later_all (hl : laidOutB P = true) {w' : World} (hb : Below w.heap.size w w') {sp' : Nat → Bool} : ∀ (ts : List Nat) (vs : List Value) (ds : List (DataW H)) (ps : List MemPlace), rowed P ts = true → DataW.TrodAll enc P w 0 (fun _ => true) true ts vs ds ps →
    (∀ p ∈ ps, p.block < w.heap.size) → (∀ p ∈ ps, sp' p.block = true) → DataW.TrodAll enc P w' 0 sp' true ts vs ds ps
  | [], [], [], _, _, h, _, _ => h
  | t :: ts, v :: vs, x :: ds, ps, hr, h, hlt, hs => by
    obtain ⟨p, q, h1, h2, rfl⟩ := h
    simp only [rowed, List.all_cons, Bool.and_eq_true, decide_eq_true_eq] at hr
    refine ⟨p, q, Go.WideElems.Trod_stays hl hr.1.1 hr.1.2 h1 (fun x hx => hb.same (hlt x (by simp [hx]))) (fun x hx => hs x (by simp [hx])), ?_, rfl⟩
    exact later_all hl hb ts vs ds q (by simpa [rowed] using hr.2) h2 (fun x hx => hlt x (by simp [hx])) (fun x hx => hs x (by simp [hx]))
  | [], _ :: _, _, _, _, h, _, _ => h.elim
  | [], [], _ :: _, _, _, h, _, _ => h.elim
  | _ :: _, [], _, _, _, h, _, _ => h.elim
  | _ :: _, _ :: _, [], _, _, h, _, _ => h.elim
theorem later_vars (hl : laidOutB P = true) {w' : World} (hb : Below w.heap.size w w') {sp' : Nat → Bool} : ∀ (ns : List String) (gs : List (DataW H)) (ps : List MemPlace), varsRowed P ns = true → DataW.TrodVars enc P w (fun _ => true) ns gs ps →
    (∀ p ∈ ps, sp' p.block = true) → DataW.TrodVars enc P w' sp' ns gs ps
  | [], [], _, _, h, _ => h
  | [], _ :: _, _, _, h, _ => h.elim
  | _ :: _, [], _, _, h, _ => h.elim
  | n :: ns, d :: ds, ps, hv, h, hs0 => by
    have hlt := h.lt
    obtain ⟨g, t, cs, fuel, p, q, h1, h2, h3, h4, hs, e⟩ := h
    simp only [varsRowed, List.all_cons, Bool.and_eq_true] at hv
    have ht : P.readableRec t = true ∧ t < P.types.size := by
      have := hv.1
      rw [h1] at this
      cases hg : P.globals[g]? with
      | none => rw [hg] at h2; cases h2
      | some gl =>
        rw [hg] at h2
        obtain rfl : gl.type = t := Option.some.inj h2
        simpa [hg] using this
    have hp : ∀ x ∈ p, x.block < w.heap.size := fun x hx => hlt x (by rw [e]; simp [hx])
    have h3' : w'.var? P n = some cs := by
      unfold World.var? at h3 ⊢
      rw [h1] at h3 ⊢
      simp only [Option.bind_some] at h3 ⊢
      have hg : g < w.heap.size := by
        cases hh : w.heap[g]? with
        | none => rw [hh] at h3; cases h3
        | some o => exact (Array.getElem?_eq_some_iff.1 hh).1
      rw [hb.block g hg]; exact h3
    exact ⟨g, t, cs, fuel, p, q, h1, h2, h3', DataW.trod_stays (kids_book hl ht.1) (book_sized ht.1) (fun h => by cases h) ⟨ht.2, book_self t⟩ h4 (fun x hx => hb.same (hp x hx)) (fun x hx => hs0 x (by rw [e]; simp [hx])),
      later_vars hl hb ns ds q (by simpa [varsRowed] using hv.2) hs (fun x hx => hs0 x (by rw [e]; simp [hx])), e⟩
theorem law_ok2 (hT : TabOk P T) (B : Bulk H) {G : Globs} {f : FuncId} {fn : Func} {dom : RV → Prop} {g : RV → RV} (hct : CtOk P G f (.scal dom g)) (hl : laidOutB P = true) {d tb b0 : Nat} {r : Reach}
    (hok : fn.params.toList.all (okT T d) = true) (hread : rowed P fn.params.toList = true) {s : ChangeSpec} (hvars : varsRowed P s.vars = true) (hres : fn.resultTypes = #[tb]) (htb : P.underlying tb = some .bool)
    {args : Array Value} (hdom : ∀ cs, ShAll T d fn.params.toList cs → RepIAs (heapS w) cs args.toList → ∃ cs', RepIAs (heapS w) cs' args.toList ∧ dom cs' ∧ g cs' = [(false, [.bool true])])
    {ds gs : List (DataW H)} {before : List MemPlace} (hG : GOk G (heapS w))
    (hval : ∀ (j : Nat) t v, fn.params[j]? = some t → args[j]? = some v → Value.okWide P w r b0 t v)
    (hW : DataW.Whole enc P fn.params.toList s.vars false w args.toList ds gs before)
    (hs : s.fn H (ds ++ gs) = { results := [.lit (.bool true)], args := ds, vars := gs }) (hbulk : B.ba ds ≤ 68719476736) :
    Calls P f args w fun e w' => ∃ v, e = .returned v ∧ s.post enc P fn false true false false w args v w' := by
  have hW' := hW
  obtain ⟨p, q, hA, hV, rfl, hfz, hnd⟩ := hW
  obtain ⟨cs, h1, h2⟩ := args_ok hT B fn.params.toList args.toList ds p hok hA (fun j t v ht hv => hval j t v (by simpa using ht) (by simpa using hv)) hbulk
  obtain ⟨cs, h2, h3, h4⟩ := hdom cs h1 h2
  have hc := (hct w cs args.toList hG h2 h3).2
  have ea : args.toList.toArray = args := rfl
  refine hc.mono fun e w' he => ?_
  obtain ⟨v, rfl, hlat, fp, hrv, hfp⟩ := he
  rw [h4] at hrv
  obtain ⟨c, hc1, hc2⟩ : RepOA w' (false, [.bool true]) v fp := hrv
  have hv : v = .bool true := by
    injection hc1 with hc1 _
    subst hc1
    cases hc2; rfl
  subst hv
  have hb := hlat.below
  have hlt := hW'.lt
  refine ⟨_, rfl, ds, gs, p ++ q, [], p, q, hW', ?_, ?_, ?_, hb.frame _, fun h => by cases h⟩
  · rw [hs, hres]
    exact ⟨[], [], shut_bool htb _, rfl, rfl⟩
  · rw [hs]
    exact later_all hl hb _ _ _ _ hread hA (fun x hx => hlt x (by simp [hx])) (fun x hx => by simpa using hlt x (by simp [hx]))
  · rw [hs]
    exact later_vars hl hb _ _ _ hvars hV (fun x hx => by simpa using hlt x (by simp [hx]))
theorem law_ok (hT : TabOk P T) (B : Bulk H) {G : Globs} {f : FuncId} {fn : Func} {dom : RV → Prop} {g : RV → RV} (hct : CtOk P G f (.scal dom g)) (hl : laidOutB P = true) {d tb b0 : Nat} {r : Reach}
    (hok : fn.params.toList.all (okT T d) = true) (hread : rowed P fn.params.toList = true) {s : ChangeSpec} (hvars : varsRowed P s.vars = true) (hres : fn.resultTypes = #[tb]) (htb : P.underlying tb = some .bool)
    (hdom : ∀ cs, ShAll T d fn.params.toList cs → dom cs ∧ g cs = [(false, [.bool true])])
    {args : Array Value} {ds gs : List (DataW H)} {before : List MemPlace} (hG : GOk G (heapS w))
    (hval : ∀ (j : Nat) t v, fn.params[j]? = some t → args[j]? = some v → Value.okWide P w r b0 t v)
    (hW : DataW.Whole enc P fn.params.toList s.vars false w args.toList ds gs before)
    (hs : s.fn H (ds ++ gs) = { results := [.lit (.bool true)], args := ds, vars := gs }) (hbulk : B.ba ds ≤ 68719476736) :
    Calls P f args w fun e w' => ∃ v, e = .returned v ∧ s.post enc P fn false true false false w args v w' := by
  exact law_ok2 hT B hct hl hok hread hvars hres htb (fun cs h1 h2 => ⟨cs, h2, hdom cs h1⟩) hG hval hW hs hbulk
end
section
variable {T : Tab} {d t : Nat} {cs : List CV}
theorem shI (h : Sh T d t cs) (ht : T.tk t = .int .i64) : ∃ n : Int, cs = [.int .i64 n] := by
  cases d with
  | zero => exact h.elim
  | succ d => simp only [Sh, ht] at h; exact h
theorem shB (h : Sh T d t cs) (ht : T.tk t = .bool) : ∃ b : Bool, cs = [.bool b] := by
  cases d with
  | zero => exact h.elim
  | succ d => simp only [Sh, ht] at h; exact h
theorem shS (h : Sh T d t cs) (ht : T.tk t = .str) : ∃ s : Str, cs = [.str s] := by
  cases d with
  | zero => exact h.elim
  | succ d => simp only [Sh, ht] at h; exact h
theorem shT (h : Sh T d t cs) {fs : List (Nat × Nat)} {ft : List Nat} (ht : T.tk t = .struct fs) (hf : (T.ti t).ft = ft) : ∃ e, ShFs (Sh T e) ft cs := by
  cases d with
  | zero => exact h.elim
  | succ d => simp only [Sh, ht, hf] at h; exact ⟨d, h⟩
theorem ex_rows {α : Type} (R : Rw α) : ∀ (es : List (List CV)), (∀ r ∈ es, ∃ x, r = R.enc x) → ∃ l : List α, es = l.map R.enc
  | [], _ => ⟨[], rfl⟩
  | r :: es, h => by
    obtain ⟨x, rfl⟩ := h r (.head _)
    obtain ⟨l, rfl⟩ := ex_rows R es fun r hr => h r (.tail _ hr)
    exact ⟨x :: l, rfl⟩
theorem shL (h : Sh T d t cs) {α : Type} (R : Rw α) {e : Nat} (ht : T.tk t = .slice e) (hs : T.size e = R.sz) (he : ∀ d r, Sh T d e r → ∃ x, r = R.enc x) : ∃ l : List α, cs = [.sl R.sz (l.map R.enc)] := by
  cases d with
  | zero => exact h.elim
  | succ d =>
    simp only [Sh, ht] at h
    obtain ⟨es, rfl, hr⟩ := h
    obtain ⟨l, rfl⟩ := ex_rows R es fun r hr' => he _ _ (hr r hr')
    exact ⟨l, by rw [hs]⟩
theorem shAll_cons {ts : List Nat} {cs : RV} (h : ShAll T d (t :: ts) cs) : ∃ es cs', cs = (isStruct (T.tk t), es) :: cs' ∧ Sh T d t es ∧ ShAll T d ts cs' := by
  cases cs with
  | nil => exact h.elim
  | cons c cs => obtain ⟨b, es⟩ := c; obtain ⟨h1, h2, h3⟩ := h; simp only at h1 h2; subst h1; exact ⟨es, cs, rfl, h2, h3⟩
theorem shAll_nil {cs : RV} (h : ShAll T d [] cs) : cs = [] := by
  cases cs with
  | nil => rfl
  | cons c cs => exact h.elim
end
end Go.Gx
end
section
namespace Go.Gx
def GlobAt (w : World) (g : Nat) (cs : List CV) : Prop := ∃ cur T fr, heapS w g = some (.cells cur T fr) ∧ cur.size = cs.length ∧ ∀ (j : Nat) (c : CV), cs[j]? = some c → ∃ x, cur[j]? = some x ∧ RepI (heapS w) c x
theorem gok_nil {w : World} : GOk [] (heapS w) := fun g hg => absurd rfl hg
theorem gok_cons {w : World} {g : Nat} {cs : List CV} {G : Globs} (h : GlobAt w g cs) (h' : GOk G (heapS w)) : GOk ((g, cs) :: G) (heapS w) := fun g' hg' => by
  unfold Env.glob at hg' ⊢
  simp only [look] at hg' ⊢
  by_cases e : g = g'
  · subst e
    simp only [beq_self_eq_true, cond_true] at hg' ⊢
    exact h
  · have hb : (g == g') = false := beq_eq_false_iff_ne.2 e
    simp only [hb, cond_false] at hg' ⊢
    exact h' g' hg'
open Go.Proofs Go.Lib
section
variable {P : Program} {w : World}
theorem strs_exact {H : Type} {enc : TypeId × Value → H} {base : Nat} {sp : Nat → Bool} {held : Bool} {fuel t e : Nat} {cs : List Value} {l : List Str} {ps : List MemPlace} (ht : P.underlying t = some (.slice e)) (he : P.underlying e = some .string) (hc : P.cellsOf e = 1)
    (h : DataW.trod enc P w base sp held fuel t cs = some (.slice (l.map fun s => .lit (.string s)) [], ps)) (hl : Fit l.length) (hf : ∀ s ∈ l, Fit s.length) : ∃ v, cs = [v] ∧ RepI (heapS w) (.sl 1 (l.map rStr.enc)) v := by
  rcases DataW.trod_slice ht h with ⟨rfl, hx⟩ | ⟨a, len, cap, elems, rest, n, rfl, rfl, hx, hba, hlc, hcm, hel, hget, _, _⟩
  · simp at hx
  · simp only [Prod.mk.injEq, DataW.slice.injEq] at hx
    obtain ⟨⟨hx1, _⟩, _⟩ := hx
    have hll : l.length = len := by have := congrArg List.length hx1; simp only [List.length_map] at this; omega
    subst hll
    refine ⟨_, rfl, ?_⟩
    rw [hc] at hget
    have each : ∀ i (hi : i < l.length), w.cell? ((a.add (i * 1)).add 0) = some (.string ⟨l[i].toArray⟩) := fun i hi => by
      have hg := hget i hi
      rw [List.getElem?_eq_getElem (by omega : i < elems.length)] at hg
      obtain ⟨vs, h1, h2⟩ := Option.bind_eq_some_iff.1 hg
      obtain ⟨s, rfl, hx, _⟩ := DataW.trod_string he h2
      have h3 : (elems.map (·.1))[i]? = some (.lit (.string s.data.toList)) := by
        rw [List.getElem?_map, List.getElem?_eq_getElem (by omega : i < elems.length), hx]; rfl
      rw [← hx1, List.getElem?_map, List.getElem?_eq_getElem hi] at h3
      simp only [Option.map_some, Option.some.injEq, DataW.lit.injEq, Lit.string.injEq] at h3
      rw [h3]
      unfold World.cells? at h1
      split at h1
      · have h4 := mapM_some_get h1 0 0 (by simp)
        rw [h4]; simp
      · cases h1
    rcases Nat.eq_zero_or_pos l.length with hz | hz
    · obtain rfl : l = [] := List.length_eq_zero_iff.1 hz
      exact .nil
    · have h0 := each 0 hz
      have hspot : a.spot = none := by
        have := World.cell?_spot h0
        simpa [Addr.add] using this
      obtain ⟨b, o, spot⟩ := a
      simp only at hspot
      subst hspot
      have hadd : ∀ i j, ((⟨b, o, none⟩ : Addr).add (i * 1)).add j = ⟨b, o + i * 1 + j, none⟩ := fun i j => by
        unfold Addr.add
        split <;> split <;> simp_all
      simp only [hadd] at each h0
      have hblk : ∃ cur Ty fr, w.heap[b]? = some (.cells cur Ty fr) := by
        unfold World.cell? at h0
        split at h0
        · rename_i c t fr hh; exact ⟨c, t, fr, hh⟩
        · cases h0
      obtain ⟨cur, Ty, fr, hblk⟩ := hblk
      have hcur : ∀ k v, w.cell? ⟨b, k, none⟩ = some v → cur[k]? = some v := fun k v hv => by
        unfold World.cell? at hv
        simp only [hblk] at hv
        simpa using hv
      have hlen : (l.map rStr.enc).length = l.length := by simp
      have hrow : ∀ i (hi : i < l.length), (l.map rStr.enc).getD i [] = [.str l[i]] := fun i hi => by
        simp [List.getD_eq_getElem?_getD, hi, rStr]
      have := RepI.sl (St := heapS w) (sz := 1) (es := l.map rStr.enc) (b := b) (o := o) (c := cap) (cur := cur) (T := Ty) (fr := fr) (fun i _ => .string ⟨(l.getD i []).toArray⟩)
        (by rw [hlen]; exact hl) (fun i hi => by rw [hlen] at hi; rw [hrow i hi]; rfl) hblk (by rw [hlen]; exact hlc)
        (fun i j hi hj => by
          rw [hlen] at hi
          obtain rfl : j = 0 := by omega
          rw [hcur _ _ (each i hi)]
          simp [List.getD_eq_getElem?_getD, hi])
        (fun i j hi hj => by
          rw [hlen] at hi
          obtain rfl : j = 0 := by omega
          unfold getC
          rw [hrow i hi]
          simp only [List.getD_eq_getElem?_getD, List.getElem?_eq_getElem hi, Option.getD_some, List.getElem?_cons_zero]
          exact .str (hf _ (List.getElem_mem hi)))
      rw [hlen] at this
      exact this
theorem glob_strs {name : String} {g t e : Nat} {l : List Str} (hn : P.globalNamed name = some g) (hy : (P.globals[g]?).map (·.type) = some t) (ht : P.underlying t = some (.slice e)) (he : P.underlying e = some .string) (hc : P.cellsOf e = 1)
    (h : VarReads P w name (.slice (l.map fun s => .lit (.string s)) [])) (hl : Fit l.length) (hf : ∀ s ∈ l, Fit s.length) : GlobAt w g [.sl 1 (l.map rStr.enc)] := by
  obtain ⟨g', t', cs, fuel, p, h1, h2, h3, h4⟩ := h
  rw [hn] at h1; injection h1 with h1; subst h1
  rw [hy] at h2; injection h2 with h2; subst h2
  obtain ⟨v, hv, hr⟩ := strs_exact ht he hc h4 hl hf
  unfold World.var? at h3
  rw [hn] at h3
  simp only [Option.bind_some] at h3
  split at h3
  · rename_i cs' T fr hh
    injection h3 with h3; subst h3
    refine ⟨cs', T, fr, hh, ?_, fun j c hc' => ?_⟩
    · have := congrArg List.length hv; simpa using this
    · cases j with
      | zero => simp at hc'; subst hc'; exact ⟨v, by rw [← Array.getElem?_toList, hv]; rfl, hr⟩
      | succ j => simp at hc'
  · cases h3
theorem glob_tab {name : String} {g t e n : Nat} {k : IntKind} {zs : List Int} (hn : P.globalNamed name = some g) (hy : (P.globals[g]?).map (·.type) = some t) (ht : P.underlying t = some (.array n e)) (he : P.underlying e = some (.int k)) (hc : P.cellsOf e = 1) (hct : P.cellsOf t = n)
    (h : VarReads P w name (Lib.tabData k zs)) (hw : ∀ z ∈ zs, InR k z) : GlobAt w g (zs.map fun z => .int k z) := by
  obtain ⟨g', t', cs, fuel, p, h1, h2, h3, h4⟩ := h
  rw [hn] at h1; injection h1 with h1; subst h1
  rw [hy] at h2; injection h2 with h2; subst h2
  have hv := Lib.cells_of_tab ht he hc hct h4
  unfold World.var? at h3
  rw [hn] at h3
  simp only [Option.bind_some] at h3
  split at h3
  · rename_i cs' T fr hh
    injection h3 with h3; subst h3
    refine ⟨cs', T, fr, hh, ?_, fun j c hc' => ?_⟩
    · have := congrArg List.length hv; simpa using this
    · rw [List.getElem?_map] at hc'
      cases hz : zs[j]? with
      | none => rw [hz] at hc'; cases hc'
      | some z =>
        rw [hz] at hc'; injection hc' with hc'; subst hc'
        exact ⟨.int k z, by rw [← Array.getElem?_toList, hv, List.getElem?_map, hz]; rfl, .int (hw z (List.mem_of_getElem? hz))⟩
  · cases h3
theorem glob_any {g : Nat} (h : w.ShapedOpen P) (hg : g < P.globals.size) {zero : Array Value} {t : Nat} (hz : (((begin P (fun _ _ => 0) default).world.heap[g]?).bind Obj.row?) = some (zero, t)) (h1 : zero.size = 1)
    (hc : ∃ m, w.cell? ⟨g, 0, none⟩ = some (.int .i64 m)) : GlobAt w g [.ex (fun v => ∃ m, v = .int .i64 m)] := by
  obtain ⟨cs, a, b, _⟩ := h.1 g zero t hg hz
  obtain ⟨m, hm⟩ := hc
  refine ⟨cs, t, _, a, by rw [b, h1]; rfl, fun j c hc => ?_⟩
  cases j with
  | zero =>
    simp at hc; subst hc
    unfold World.cell? at hm
    simp only [a] at hm
    exact ⟨.int .i64 m, by simpa using hm, .ex ⟨m, rfl⟩ ⟨rfl, ⟨(fun x h => nomatch h), (fun x h => nomatch h)⟩⟩⟩
  | succ j => simp at hc
end
end Go.Gx
namespace Go.Gx
theorem list1 {α : Type} {ds : List α} (h : ds.length = 1) : ∃ a, ds = [a] := List.length_eq_one_iff.1 h
theorem vars_length {H : Type} {enc : TypeId × Value → H} {P : Program} {w : World} {sp : Nat → Bool} : ∀ {ns : List String} {gs : List (DataW H)} {ps : List MemPlace}, DataW.TrodVars enc P w sp ns gs ps → gs.length = ns.length
  | [], [], _, _ => rfl
  | [], _ :: _, _, h => h.elim
  | _ :: _, [], _, h => h.elim
  | n :: ns, d :: ds, _, h => by
    obtain ⟨g, t, cs, fuel, p, q, _, _, _, _, hs, _⟩ := h
    simp [vars_length hs]
theorem opt_any {α : Type} {o : Option α} {p : α → Bool} (h : o.any p = true) : ∃ x, o = some x ∧ p x = true := by
  cases o with
  | none => cases h
  | some x => exact ⟨x, rfl, h⟩
theorem all_length {H : Type} {enc : TypeId × Value → H} {P : Program} {w : World} {base : Nat} {sp : Nat → Bool} {held : Bool} : ∀ {ts : List Nat} {vs : List Value} {ds : List (DataW H)} {ps : List MemPlace}, DataW.TrodAll enc P w base sp held ts vs ds ps → ds.length = ts.length
  | [], [], [], _, _ => rfl
  | t :: ts, v :: vs, x :: ds, _, h => by
    obtain ⟨p, q, _, h2, _⟩ := h
    simp [all_length h2]
  | [], _ :: _, _, _, h => h.elim
  | [], [], _ :: _, _, h => h.elim
  | _ :: _, [], _, _, h => h.elim
  | _ :: _, _ :: _, [], _, h => h.elim
end Go.Gx
end
section
namespace Go.Proofs.YtknhiboiffmaeaaGreatDoor.fnExactWindowShow
open Go.Gx Go.Lib
theorem sh_t160 {d : Nat} {cs : List CV} (h : Sh Tz.tab d 160 cs) : ∃ x : Go.Gx.Host, cs = Go.Gx.Host.cv x := by
  obtain ⟨d, h⟩ := shT h rfl rfl
  obtain ⟨a0, r0, e0, h0, h⟩ := h
  obtain ⟨x0, rfl⟩ := shI h0 rfl
  obtain ⟨a1, r1, e1, h1, h⟩ := h
  obtain ⟨x1, rfl⟩ := shS h1 rfl
  obtain ⟨a2, r2, e2, h2, h⟩ := h
  obtain ⟨x2, rfl⟩ := shI h2 rfl
  have h : r2 = [] := h
  refine ⟨⟨x0, x1, x2⟩, ?_⟩
  rw [e0, e1, e2, h]
  rfl
theorem sh_t162 {d : Nat} {cs : List CV} (h : Sh Tz.tab d 162 cs) : ∃ x : Go.Gx.Url, cs = Go.Gx.Url.cv x := by
  obtain ⟨d, h⟩ := shT h rfl rfl
  obtain ⟨a0, r0, e0, h0, h⟩ := h
  obtain ⟨x0, rfl⟩ := shS h0 rfl
  obtain ⟨a1, r1, e1, h1, h⟩ := h
  obtain ⟨x1, rfl⟩ := shS h1 rfl
  obtain ⟨a2, r2, e2, h2, h⟩ := h
  obtain ⟨x2, rfl⟩ := shS h2 rfl
  obtain ⟨a3, r3, e3, h3, h⟩ := h
  obtain ⟨x3, rfl⟩ := sh_t160 h3
  obtain ⟨a4, r4, e4, h4, h⟩ := h
  obtain ⟨x4, rfl⟩ := shI h4 rfl
  obtain ⟨a5, r5, e5, h5, h⟩ := h
  obtain ⟨x5, rfl⟩ := shL h5 rStr rfl rfl (fun d r h => shS h rfl)
  obtain ⟨a6, r6, e6, h6, h⟩ := h
  obtain ⟨x6, rfl⟩ := shS h6 rfl
  obtain ⟨a7, r7, e7, h7, h⟩ := h
  obtain ⟨x7, rfl⟩ := shB h7 rfl
  obtain ⟨a8, r8, e8, h8, h⟩ := h
  obtain ⟨x8, rfl⟩ := shS h8 rfl
  obtain ⟨a9, r9, e9, h9, h⟩ := h
  obtain ⟨x9, rfl⟩ := shB h9 rfl
  obtain ⟨a10, r10, e10, h10, h⟩ := h
  obtain ⟨x10, rfl⟩ := shS h10 rfl
  have h : r10 = [] := h
  refine ⟨⟨x0, x1, x2, x3, x4, x5, x6, x7, x8, x9, x10⟩, ?_⟩
  rw [e0, e1, e2, e3, e4, e5, e6, e7, e8, e9, e10, h]
  rfl
theorem sh_t164 {d : Nat} {cs : List CV} (h : Sh Tz.tab d 164 cs) : ∃ x : Go.Gx.Entry, cs = Go.Gx.Entry.cv x := by
  obtain ⟨d, h⟩ := shT h rfl rfl
  obtain ⟨a0, r0, e0, h0, h⟩ := h
  obtain ⟨x0, rfl⟩ := shI h0 rfl
  obtain ⟨a1, r1, e1, h1, h⟩ := h
  obtain ⟨x1, rfl⟩ := sh_t162 h1
  obtain ⟨a2, r2, e2, h2, h⟩ := h
  obtain ⟨x2, rfl⟩ := shI h2 rfl
  obtain ⟨a3, r3, e3, h3, h⟩ := h
  obtain ⟨x3, rfl⟩ := shI h3 rfl
  obtain ⟨a4, r4, e4, h4, h⟩ := h
  obtain ⟨x4, rfl⟩ := shS h4 rfl
  have h : r4 = [] := h
  refine ⟨⟨x0, x1, x2, x3, x4⟩, ?_⟩
  rw [e0, e1, e2, e3, e4, h]
  rfl
theorem sh_t100 {d : Nat} {cs : List CV} (h : Sh Tz.tab d 100 cs) : ∃ x : Go.Gx.Frame, cs = Go.Gx.Frame.cv x := by
  obtain ⟨d, h⟩ := shT h rfl rfl
  obtain ⟨a0, r0, e0, h0, h⟩ := h
  obtain ⟨x0, rfl⟩ := shI h0 rfl
  obtain ⟨a1, r1, e1, h1, h⟩ := h
  obtain ⟨x1, rfl⟩ := shS h1 rfl
  obtain ⟨a2, r2, e2, h2, h⟩ := h
  obtain ⟨x2, rfl⟩ := shL h2 rEntry rfl rfl (fun d r h => sh_t164 h)
  obtain ⟨a3, r3, e3, h3, h⟩ := h
  obtain ⟨x3, rfl⟩ := shB h3 rfl
  have h : r3 = [] := h
  refine ⟨⟨x0, x1, x2, x3⟩, ?_⟩
  rw [e0, e1, e2, e3, h]
  rfl
theorem sh_t24 {d : Nat} {cs : List CV} (h : Sh Tz.tab d 24 cs) : ∃ x : Go.Gx.Window, cs = Go.Gx.Window.cv x := by
  obtain ⟨d, h⟩ := shT h rfl rfl
  obtain ⟨a0, r0, e0, h0, h⟩ := h
  obtain ⟨x0, rfl⟩ := shL h0 rFrame rfl rfl (fun d r h => sh_t100 h)
  obtain ⟨a1, r1, e1, h1, h⟩ := h
  obtain ⟨x1, rfl⟩ := shI h1 rfl
  obtain ⟨a2, r2, e2, h2, h⟩ := h
  obtain ⟨x2, rfl⟩ := shI h2 rfl
  obtain ⟨a3, r3, e3, h3, h⟩ := h
  obtain ⟨x3, rfl⟩ := shI h3 rfl
  have h : r3 = [] := h
  refine ⟨⟨x0, x1, x2, x3⟩, ?_⟩
  rw [e0, e1, e2, e3, h]
  rfl
theorem dom_ok (cs : RV) (h : ShAll Tz.tab 9 Tryz.f4.params.toList cs) : dom1 tWindow (fun _ => True) cs ∧ fn1 tWindow (fun _ => [tBool.enc true]) cs = [(false, [.bool true])] := by
  rw [Tryz.params4] at h
  obtain ⟨c0, cs0, rfl, h0, hh0⟩ := shAll_cons h
  obtain ⟨x0, rfl⟩ := sh_t24 h0
  obtain rfl := shAll_nil hh0
  exact ⟨⟨⟨rfl, rfl, ⟨_, rfl⟩⟩, trivial⟩, rfl⟩
theorem own : ownKnob Tryz.prog.godebug = none := by kernel_rfl
theorem laidOut : laidOutB Tryz.prog = true := by kernel_rfl
def bulk (H : Type) : Bulk H where
  b := Rows.uptoBulk
  ba := Rows.uptoBulkAll
  str _ := rfl
  slc _ _ := rfl
  agg _ := rfl
  nil := rfl
  cons _ _ := rfl
  pos d := by
    cases d with
    | lit l => cases l <;> simp [Rows.uptoBulk]
    | _ => simp [Rows.uptoBulk]
theorem bulk_app {H : Type} (ds gs : List (DataW H)) : Rows.uptoBulkAll ds ≤ Rows.uptoBulkAll (ds ++ gs) := by
  induction ds with
  | nil => simp [Rows.uptoBulkAll]
  | cons d ds ih => simp only [List.cons_append, Rows.uptoBulkAll]; omega
theorem globs {W : World} (hL : laidMetH Tryz.prog Rows.fnExactWindowShowUptoRow.laid W) (hS : W.ShapedOpen Tryz.prog) : GOk Gl (heapS W) := by
  rw [MakeChecks.laidMetH_plain _ _ _ (by kernel_rfl)] at hL
  refine gok_cons (glob_strs (l := [[], [32, 34, 35, 60, 62, 63, 123, 125, 96], [32, 34, 35, 60, 62, 39], [32, 34, 60, 62, 96], [32, 34, 35, 60, 62, 63, 123, 125, 96, 47, 58, 59, 61, 64, 91, 92, 93, 94, 124], [32]]) (t := 34) (e := 9) (name := "loop.example/guilloche/impl.sets") (by kernel_rfl) (by kernel_rfl) Tryz.underlying34 Tryz.underlying9 (by kernel_rfl) (laidMet.reads hL (List.mem_of_getElem? (i := 4) rfl)) (by decide) (by decide)) ?_
  refine gok_cons (glob_any (zero := #[.int .i64 0]) (t := 3) hS (of_decide_eq_true (by kernel_rfl)) (by kernel_rfl) rfl (cell_of_shapedOpen_int hS (zero := #[.int .i64 0]) (t := 3) (of_decide_eq_true (by kernel_rfl)) (by kernel_rfl) rfl (by kernel_rfl) (by kernel_rfl) Tryz.underlying3)) ?_
  refine gok_cons (glob_tab (k := .u64) (zs := [1, 10, 100, 1000, 10000, 100000, 1000000, 10000000, 100000000, 1000000000, 10000000000, 100000000000, 1000000000000, 10000000000000, 100000000000000, 1000000000000000, 10000000000000000, 100000000000000000, 1000000000000000000, 10000000000000000000]) (t := 203) (e := 181) (n := 20) (name := "internal/strconv.uint64pow10") (by kernel_rfl) (by kernel_rfl) Tryz.underlying203 Tryz.underlying181 (by kernel_rfl) (by kernel_rfl) (laidMet.reads hL (List.mem_of_getElem? (i := 2) rfl)) (by unfold InR; decide)) gok_nil
theorem contract (H : Type) (enc : TypeId × Value → H) (W : World) (base : Nat) (args : Array Value) (ds gs : List (DataW H)) (before : List MemPlace)
    (hval : ∀ (j : Nat) t v, Tryz.f4.params[j]? = some t → args[j]? = some v → Value.okWide Tryz.prog W .any base t v)
    (hW : DataW.Whole enc Tryz.prog Tryz.f4.params.toList Rows.fnExactWindowShowSpec.vars false W args.toList ds gs before)
    (hk : Rows.uptoSmall H (ds ++ gs) = true) (hL : laidMetH Tryz.prog Rows.fnExactWindowShowUptoRow.laid W) (hS : W.ShapedOpen Tryz.prog) :
    Calls Tryz.prog 4 args W fun e W' => ∃ v, e = .returned v ∧ Rows.fnExactWindowShowSpec.post enc Tryz.prog Tryz.f4 false true false false W args v W' := by
  have hb : Rows.uptoBulkAll (ds ++ gs) ≤ 1048576 := of_decide_eq_true hk
  have hb1 := bulk_app ds gs
  have hlen := all_length hW.choose_spec.choose_spec.1
  have hlv := vars_length hW.choose_spec.choose_spec.2.1
  refine law_ok (dom := dom1 tWindow fun _ => True) (g := fn1 tWindow fun _ => [tBool.enc true]) Tz.tab_ok (bulk H) (d := 9) (tb := 4) ok4 laidOut (by kernel_rfl) (by kernel_rfl) (by kernel_rfl) (by kernel_rfl) Tryz.underlying4 (fun cs h => dom_ok cs h) (globs hL hS) hval hW ?_ (show Rows.uptoBulkAll ds ≤ 68719476736 by omega)
  obtain ⟨d0, rfl⟩ := list1 (ds := ds) (by simpa [Tryz.params4] using hlen)
  obtain ⟨g0, rfl⟩ := list1 (ds := gs) (by simpa [Rows.fnExactWindowShowSpec] using hlv)
  rfl
noncomputable def wit (os : Os) : World := World.laidAll Tryz.prog os Rows.fnExactWindowShowUptoRow.laid
def args0 : Array Value := #[.agg #[.slice none 0 0, .int .i64 0, .int .i64 0, .int .i64 0]]
theorem wit_laid (os : Os) : laidMetH Tryz.prog Rows.fnExactWindowShowUptoRow.laid ((wit os).forCall (fun _ _ => 0) ⟨#[], args0, []⟩).memory := by
  rw [MakeChecks.laidMetH_plain _ _ _ (by kernel_rfl)]
  exact laidMet_laidAll _ (by kernel_rfl) (by kernel_rfl)
theorem wit_reads (os : Os) {H : Type} (enc : TypeId × Value → H) : ((DataW.whole enc Tryz.prog ((wit os).forCall (fun _ _ => 0) ⟨#[], args0, []⟩).memory Tryz.f4.params.toList Rows.fnExactWindowShowSpec.vars false args0.toList 12).any fun x => Rows.uptoSmall H (x.1 ++ x.2.1)) = true := by kernel_rfl
theorem lifted (os : Os) (started : os.Started) (H : Type) (enc : TypeId × Value → H) (F : Stop.Interp) :
    ReturnsInHanded {} Tryz.checked os 4 .any ((Rows.OpenSpec.upto Rows.fnExactWindowShowSpec).preRow enc Tryz.prog Tryz.f4 Rows.fnExactWindowShowUptoRow.domain false Rows.fnExactWindowShowUptoRow.laid) (((Rows.OpenSpec.upto Rows.fnExactWindowShowSpec).at F).post enc Tryz.prog Tryz.f4 false true false false) := by
  have hr := wit_reads os enc
  obtain ⟨x, hx, hk⟩ := opt_any hr
  refine returnsInHanded_of_row (C := Tryz.checked) (s := Rows.OpenSpec.upto Rows.fnExactWindowShowSpec) own started (by kernel_rfl) Tryz.func4
    (witness_row_atRef (enc := enc) (C := Tryz.checked) false (wit os) args0 (World.laidAll_os _ _ _) (by kernel_rfl) (by kernel_rfl) (by kernel_rfl)
      (OpenSpec.preRow_of_cond 12 hx rfl (fun k hk' => by cases hk'; exact hk) (by kernel_rfl) (wit_laid os))) ?_
  intro W base args ds gs before hval hW _ hcond _ hL hS _
  exact contract H enc W base args ds gs before hval hW (hcond _ rfl) hL hS
theorem band {a b : Bool} (h : a = true) (g : b = true) : (a && b) = true := by rw [h, g]; rfl
theorem jf0 : (Rows.fnExactWindowShowUptoRow.wf (OpenSpec.ofChange (Rows.OpenSpec.upto Rows.fnExactWindowShowSpec).bare)) = true := by kernel_rfl
theorem jf1 : (laidOutB Tryz.pinned.checked.prog) = true := by kernel_rfl
theorem jf2 : (mapsRowed Tryz.pinned.checked.prog) = true := by kernel_rfl
theorem jf3 : (Tryz.f4.params.all (Tryz.pinned.checked.prog.readableRec ·)) = true := by kernel_rfl
theorem jf4 : (namedTie Tryz.pinned.checked.prog Rows.fnExactWindowShowUptoRow.named (Rows.OpenSpec.upto Rows.fnExactWindowShowSpec).bare.vars) = true := by kernel_rfl
theorem jf5 : ((Rows.fnExactWindowShowUptoRow.stops == [])) = true := by kernel_rfl
theorem jf6 : ((Tryz.pinned.checked.prog.stops == [])) = true := by kernel_rfl
theorem jf7 : ((Rows.fnExactWindowShowUptoRow.knobs == [])) = true := by kernel_rfl
theorem jf8 : ((Tryz.pinned.checked.prog.stopKnobs == [])) = true := by kernel_rfl
theorem jf9 : ((Rows.fnExactWindowShowUptoRow.inPlace == Tryz.pinned.checked.prog.inPlace 4)) = true := by kernel_rfl
theorem jf10 : ((Rows.fnExactWindowShowUptoRow.unfollowed == Tryz.pinned.checked.prog.unfollowed 4)) = true := by kernel_rfl
theorem jf11 : ((Rows.fnExactWindowShowUptoRow.recurses == Tryz.pinned.checked.prog.recurses 4)) = true := by kernel_rfl
theorem jf12 : ((Rows.fnExactWindowShowUptoRow.named == Tryz.pinned.checked.prog.varsNamed 4)) = true := by kernel_rfl
theorem jf13 : ((Rows.fnExactWindowShowUptoRow.maps == (Tryz.f4.params.toList ++ (Rows.OpenSpec.upto Rows.fnExactWindowShowSpec).bare.plain.varTypes Tryz.pinned.checked.prog).any (Tryz.pinned.checked.prog.mapsRec ·))) = true := by kernel_rfl
theorem jf14 : ((Rows.fnExactWindowShowUptoRow.ifaces == (Tryz.f4.params.toList ++ (Rows.OpenSpec.upto Rows.fnExactWindowShowSpec).bare.plain.varTypes Tryz.pinned.checked.prog).any (Tryz.pinned.checked.prog.ifacesRec ·))) = true := by kernel_rfl
theorem jf15 : ((Rows.fnExactWindowShowUptoRow.mapsOut == Tryz.pinned.checked.prog.mapsAmong Tryz.f4.resultTypes.toList)) = true := by kernel_rfl
theorem jf16 : ((Rows.fnExactWindowShowUptoRow.loops == (Tryz.f4.params.toList ++ (Rows.OpenSpec.upto Rows.fnExactWindowShowSpec).bare.plain.varTypes Tryz.pinned.checked.prog).any (Tryz.pinned.checked.prog.loopsFrom ·))) = true := by kernel_rfl
theorem jf17 : ((Rows.fnExactWindowShowUptoRow.wideKeys == (Tryz.f4.params.toList ++ (Rows.OpenSpec.upto Rows.fnExactWindowShowSpec).bare.plain.varTypes Tryz.pinned.checked.prog ++ Tryz.f4.resultTypes.toList).any (Tryz.pinned.checked.prog.wideKeysFrom ·))) = true := by kernel_rfl
theorem jf18 : ((Rows.OpenSpec.upto Rows.fnExactWindowShowSpec).bare.vars.all (Tryz.pinned.checked.prog.varReadable ·)) = true := by kernel_rfl
theorem jf19 : (Tryz.f4.resultTypes.all (fun t => Tryz.pinned.checked.prog.readableRec t && decide (t < Tryz.pinned.checked.prog.types.size))) = true := by kernel_rfl
theorem jf20 : ((Rows.fnExactWindowShowUptoRow.ifacesOut == Tryz.f4.resultTypes.toList.any (Tryz.pinned.checked.prog.ifacesRec ·))) = true := by kernel_rfl
theorem jf21 : ((Rows.fnExactWindowShowUptoRow.loopsOut == Tryz.f4.resultTypes.toList.any (Tryz.pinned.checked.prog.loopsFrom ·))) = true := by kernel_rfl
theorem jf22 : ((Rows.fnExactWindowShowUptoRow.plainKeys == Tryz.pinned.checked.prog.plainKeys)) = true := by kernel_rfl
theorem jf23 : (Rows.fnExactWindowShowUptoRow.shortTexts.isNone) = true := by kernel_rfl
theorem jf24 : (Tryz.pinned.checked.prog.stopsHeard) = true := by kernel_rfl
theorem jf25 : (Tryz.pinned.checked.prog.mayEnter) = true := by kernel_rfl
theorem jf26 : ((Rows.fnExactWindowShowUptoRow.lifted == Tryz.pinned.checked.prog.liftsFinal)) = true := by kernel_rfl
theorem jf27 : ((Tryz.pinned.checked.prog.make == some Rows.fnExactWindowShowUptoRow.make)) = true := by kernel_rfl
theorem jf29 : ((Rows.fnExactWindowShowUptoRow.pinned == Rows.fnExactWindowShowUptoRow.pinnedBy)) = true := by kernel_rfl
theorem jf30 : ((Rows.fnExactWindowShowUptoRow.veiled == (Tryz.f4.params.toList ++ (Rows.OpenSpec.upto Rows.fnExactWindowShowSpec).bare.plain.varTypes Tryz.pinned.checked.prog ++ Tryz.f4.resultTypes.toList).any (Tryz.pinned.checked.prog.veiledRec ·))) = true := by kernel_rfl
theorem jf31 : (Rows.fnExactWindowShowUptoRow.veiledFits Tryz.pinned.checked.prog Tryz.f4.params.toList (Tryz.f4.params.toList ++ (Rows.OpenSpec.upto Rows.fnExactWindowShowSpec).bare.plain.varTypes Tryz.pinned.checked.prog ++ Tryz.f4.resultTypes.toList)) = true := by kernel_rfl
theorem closed : joinedFacts Tryz.pinned.checked.prog 4 Tryz.f4 (Rows.OpenSpec.upto Rows.fnExactWindowShowSpec).bare Rows.fnExactWindowShowUptoRow = true := by
  unfold joinedFacts
  exact (band (band (band (band (band (band (band (band (band (band (band (band (band (band (band (band (band (band (band (band (band (band (band (band (band (band (band (band (band (band (band jf0 jf1) jf2) jf3) jf4) jf5) jf6) jf7) jf8) jf9) jf10) jf11) jf12) jf13) jf14) jf15) jf16) jf17) jf18) jf19) jf20) jf21) jf22) jf23) jf24) jf25) jf26) jf27) (by kernel_rfl)) jf29) jf30) jf31)
theorem named : Tryz.pinned.checked.prog.funcNamed Rows.fnExactWindowShowUptoRow.func = some 4 := by kernel_rfl
theorem inst : Tryz.f4.isInstance Tryz.pinned.checked.prog Rows.fnExactWindowShowUptoRow.origin Rows.fnExactWindowShowUptoRow.targs := of_decide_eq_true (by kernel_rfl)
theorem wrap : Tryz.f4.isWrapper Tryz.pinned.checked.prog Rows.fnExactWindowShowUptoRow.wrapper Rows.fnExactWindowShowUptoRow.mainSum := by
  unfold Func.isWrapper
  first | (rw [if_pos (by decide +kernel)]; kernel_rfl) | (rw [if_neg (by decide +kernel)]; exact ⟨rfl, rfl⟩)
theorem goes : false = Rows.fnExactWindowShowUptoRow.goesBy Tryz.pinned.checked.prog := by kernel_rfl
theorem wfBy : Rows.fnExactWindowShowUptoRow.wfByText (Rows.OpenSpec.upto Rows.fnExactWindowShowSpec) = true := by kernel_rfl
theorem mainIs : Tryz.pinned.checked.prog.mainIs = some ((Rows.fnExactWindowShowUptoCard.stood.harness).1, (Rows.fnExactWindowShowUptoCard.stood.harness).2.toList) := by kernel_rfl
theorem saidUpto : Rows.FnExactWindowShowUptoSaid :=
  OpenClaim.holds_of_cond 4 Tryz.f4 rfl rfl rfl rfl rfl rfl rfl ⟨rfl, rfl, rfl, rfl, rfl⟩ rfl rfl rfl rfl rfl named Tryz.func4 closed
    inst wrap
    (fun os started H enc _ F => by rw [OpenClaim.pre_eq_preRow]; exact lifted os started H enc F)
theorem plain (f : FuncId) (fn : Func) (hf : Tryz.pinned.checked.prog.funcNamed "loop.example/guilloche/laws.FnExactWindowShow" = some f) (hfn : Tryz.pinned.checked.prog.funcs[f]? = some fn) :
    false = Tryz.pinned.checked.prog.looks [] ∧ ∀ (j : Nat) t, fn.params[j]? = some t → Tryz.pinned.checked.prog.wantsStandIn t = false := by
  obtain rfl : f = 4 := Option.some.inj ((show Tryz.prog.funcNamed "loop.example/guilloche/laws.FnExactWindowShow" = some 4 by kernel_rfl).symm.trans hf) |>.symm
  obtain rfl : fn = Tryz.f4 := (Option.some.inj (Tryz.func4.symm.trans hfn)).symm
  refine ⟨by kernel_rfl, fun j t ht => ?_⟩
  have hall : (Tryz.f4.params.all fun t => !Tryz.prog.wantsStandIn t) = true := by kernel_rfl
  have := Array.all_eq_true_iff_forall_mem.1 hall t (Array.mem_of_getElem? ht)
  have h2 : Tryz.prog.wantsStandIn t = false := by simpa using this
  exact h2
theorem card : Rows.FnExactWindowShowUptoCardSaid :=
  Claim7.holds_tied_plain_at .later [] _ _ _ _ saidUpto (fun _ h => by cases h) wfBy (fun _ h => by cases h) fnExactWindowShowUpto_row_tie rfl ⟨rfl, rfl⟩ mainIs rfl plain goes
#print axioms card
end Go.Proofs.YtknhiboiffmaeaaGreatDoor.fnExactWindowShow
end

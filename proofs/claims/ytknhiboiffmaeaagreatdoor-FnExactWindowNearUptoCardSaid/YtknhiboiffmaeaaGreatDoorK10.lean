/- laws.Rows.FnExactWindowNear: what the given card says of it. No condition beyond the card's own: what comes in holds at most 1048576 values and letters. -/
import Derived.Test.YtknhiboiffmaeaaGreatDoorK09
import Derived.KernelRfl
import Derived.ChangeArms
import Derived.ChangeMaps5
import Derived.OpenVars
import Derived.ChangeSame
import Derived.Lib.LaidU8
import Derived.Lib.LaidTab
import Derived.Test.YtknhiboiffmaeaaGreatDoorCards
import Derived.Test.YtknhiboiffmaeaaGreatDoorTie
import Derived.Deep.DeepWitnessRowRef
import Derived.Lay
import Derived.MakeChecks
import Derived.Test.YtknhiboiffmaeaaGreatDoorK01
import Derived.Test.YtknhiboiffmaeaaGreatDoorK02
import Derived.Test.YtknhiboiffmaeaaGreatDoorK03
import Derived.Test.YtknhiboiffmaeaaGreatDoorK04
import Derived.Test.YtknhiboiffmaeaaGreatDoorK05
import Derived.Test.YtknhiboiffmaeaaGreatDoorK06
import Derived.Test.YtknhiboiffmaeaaGreatDoorK07
import Derived.Test.YtknhiboiffmaeaaGreatDoorK08
set_option linter.unusedVariables false
set_option linter.unusedSimpArgs false
set_option maxRecDepth 100000
section
namespace Go.Gx
open Go.Proofs
def E56 : Env := { T := Tz.tab, G := Gl, C := [(109, ct109)], live := [(0, [2, 3]), (1, [2, 3, 9]), (2, [4]), (3, [2, 3, 15]), (4, [4]), (5, [2, 3, 20]), (6, [4]), (7, [2, 3, 25]), (8, [4]), (9, [30]), (10, [4]), (11, [4])] }
def ct56 : Ct := .scal (dom2 tEntry tEntry (fun a b => True)) (fn2 tEntry tEntry fun a b => [tBool.enc (decide (a = b))])
attribute [go_sem] E56 ct56 Go.Proofs.Tryz.f56
set_option maxHeartbeats 1000000 in
theorem ok56 : CtOk Tryz.prog Gl 56 ct56 := okA2 (E := E56) (sound_of Tz.tab_ok Tz.mixed (AllOk.cons ok109 AllOk.nil)) rfl Tryz.func56 (by kernel_rfl) fun a b fa fb hp => by
  have ga := fa
  have fa := fit_entry fa
  have gb := fb
  have fb := fit_entry fb
  refine vcFn_intro rfl rfl (by kernel_rfl) rfl ?_
  repeat (dsimp +instances only [go_sem, Nat.reduceBEq, Nat.reduceAdd, Nat.reduceSub, Nat.reduceLT, Nat.reduceLeDiff]; try simp only [bb, Nat.reduceAdd, Int.reduceToNat, Int.reduceLE, Int.reduceLT, Nat.reduceLT, Nat.reduceMul, Nat.reduceLeDiff])
  try simp only [nn, reduceCtorEq]
  obtain ⟨a0, a1, a2, a3, a4⟩ := a
  obtain ⟨b0, b1, b2, b3, b4⟩ := b
  simp only [Entry.mk.injEq]
  clear ga gb fa fb
  (repeat' (first | refine And.intro ?_ ?_ | intro _)) <;> try first | omega | trivial
  all_goals grind
def E21 : Env := { T := Tz.tab, G := Gl, C := [(56, ct56)], live := [(0, [0, 1]), (1, [0, 1, 10]), (2, [4]), (3, [0, 1, 5]), (4, [0, 1, 5, 14]), (5, [0, 1, 5]), (6, [0, 1, 5, 26]), (7, [4]), (8, [4])] }
def ct21 : Ct := .scal (dom2 tEntryS tEntryS (fun a b => True)) (fn2 tEntryS tEntryS fun a b => [tBool.enc (decide (a = b))])
attribute [go_sem] E21 ct21 Go.Proofs.Tryz.f21
set_option maxHeartbeats 1000000 in
theorem ok21 : CtOk Tryz.prog Gl 21 ct21 := okA2 (E := E21) (sound_of Tz.tab_ok Tz.mixed (AllOk.cons ok56 AllOk.nil)) rfl Tryz.func21 (by kernel_rfl) fun a b fa fb hp => by
  have ga := fa
  have fa := fit_list fa
  have gb := fb
  have fb := fit_list fb
  refine vcFn_intro rfl rfl (by kernel_rfl) rfl ?_
  repeat (dsimp +instances only [go_sem, Nat.reduceBEq, Nat.reduceAdd, Nat.reduceSub, Nat.reduceLT, Nat.reduceLeDiff]; try simp only [bb, Nat.reduceAdd, Int.reduceToNat, Int.reduceLE, Int.reduceLT, Nat.reduceLT, Nat.reduceMul, Nat.reduceLeDiff])
  try simp only [nn, reduceCtorEq]
  refine ⟨fun h => ?_, fun h => ?_⟩
  · rw [eq_comm, decide_eq_false_iff_not]; rintro rfl; exact h rfl
  refine vcC_loop [0, 1, 5] (fun (i : Nat) => i ≤ a.length ∧ a.take i = b.take i) (fun i => [.cv (.sl 17 (a.map rEntry.enc)), .cv (.sl 17 (b.map rEntry.enc)), .cv (.int .i64 i)]) (fun _ => []) (fun i => a.length - i) 0 (by simp) ⟨rfl, rfl⟩ ?_
  rintro i ⟨hi, he⟩
  rcases Nat.lt_or_ge i a.length with hlt | hge
  · have hlt2 : i < b.length := by omega
    have hg := getD_at rEntry hlt
    have hg2 := getD_at rEntry hlt2
    try dsimp +instances only [go_sem, Nat.reduceBEq, Nat.reduceAdd, Nat.reduceSub, Nat.reduceLT, Nat.reduceLeDiff]
    repeat (simp only [hg, hg2, rEntry_enc, Int.toNat_natCast, bb, Nat.reduceAdd, Int.reduceToNat, Int.reduceLE, Int.reduceLT, Nat.reduceLT, Nat.reduceMul, Nat.reduceLeDiff]; try dsimp +instances only [go_sem, Nat.reduceBEq, Nat.reduceAdd, Nat.reduceSub, Nat.reduceLT, Nat.reduceLeDiff])
    try simp only [nn, reduceCtorEq, hlt, hlt2, decide_true]
    (repeat' (first | refine And.intro ?_ ?_ | intro _)) <;> try first | omega | trivial
    all_goals first
    | (rename_i h9; rw [eq_comm, decide_eq_false_iff_not]; rintro rfl; exact h9 rfl)
    | (rename_i h9; exact nextL_intro (i + 1) ⟨by omega, by rw [take_snoc hlt, take_snoc hlt2, he, h9]⟩ (by omega) rfl rfl)
  · have : i = a.length := by omega
    subst this
    rw [List.take_length, h, List.take_length] at he
    repeat (dsimp +instances only [go_sem, Nat.reduceBEq, Nat.reduceAdd, Nat.reduceSub, Nat.reduceLT, Nat.reduceLeDiff]; try simp only [bb, Nat.reduceAdd, Int.reduceToNat, Int.reduceLE, Int.reduceLT, Nat.reduceLT, Nat.reduceMul, Nat.reduceLeDiff])
    try simp only [nn, reduceCtorEq, Nat.lt_irrefl]
    simp [he]
def E79 : Env := { T := Tz.tab, G := Gl, C := [(21, ct21)], live := [(0, [2, 3]), (1, [2, 3, 9]), (2, [4]), (3, [2, 3, 14]), (4, [4]), (5, [2, 3, 20]), (6, [4]), (7, [25]), (8, [4]), (9, [4])] }
def ct79 : Ct := .scal (dom2 tFrame tFrame (fun a b => True)) (fn2 tFrame tFrame fun a b => [tBool.enc (decide (a = b))])
attribute [go_sem] E79 ct79 Go.Proofs.Tryz.f79
set_option maxHeartbeats 1000000 in
theorem ok79 : CtOk Tryz.prog Gl 79 ct79 := okA2 (E := E79) (sound_of Tz.tab_ok Tz.mixed (AllOk.cons ok21 AllOk.nil)) rfl Tryz.func79 (by kernel_rfl) fun a b fa fb hp => by
  have ga := fa
  have fa := fit_frame fa
  have gb := fb
  have fb := fit_frame fb
  refine vcFn_intro rfl rfl (by kernel_rfl) rfl ?_
  repeat (dsimp +instances only [go_sem, Nat.reduceBEq, Nat.reduceAdd, Nat.reduceSub, Nat.reduceLT, Nat.reduceLeDiff]; try simp only [bb, Nat.reduceAdd, Int.reduceToNat, Int.reduceLE, Int.reduceLT, Nat.reduceLT, Nat.reduceMul, Nat.reduceLeDiff])
  try simp only [nn, reduceCtorEq]
  obtain ⟨a0, a1, a2, a3⟩ := a
  obtain ⟨b0, b1, b2, b3⟩ := b
  simp only [Frame.mk.injEq]
  clear ga gb fa fb
  (repeat' (first | refine And.intro ?_ ?_ | intro _)) <;> try first | omega | trivial
  all_goals grind
def E31 : Env := { T := Tz.tab, G := Gl, C := [(79, ct79)], live := [(0, [0, 1]), (1, [0, 1, 10]), (2, [4]), (3, [0, 1, 5]), (4, [0, 1, 5, 14]), (5, [0, 1, 5]), (6, [0, 1, 5, 26]), (7, [4]), (8, [4])] }
def ct31 : Ct := .scal (dom2 tFrameS tFrameS (fun a b => True)) (fn2 tFrameS tFrameS fun a b => [tBool.enc (decide (a = b))])
attribute [go_sem] E31 ct31 Go.Proofs.Tryz.f31
set_option maxHeartbeats 1000000 in
theorem ok31 : CtOk Tryz.prog Gl 31 ct31 := okA2 (E := E31) (sound_of Tz.tab_ok Tz.mixed (AllOk.cons ok79 AllOk.nil)) rfl Tryz.func31 (by kernel_rfl) fun a b fa fb hp => by
  have ga := fa
  have fa := fit_list fa
  have gb := fb
  have fb := fit_list fb
  refine vcFn_intro rfl rfl (by kernel_rfl) rfl ?_
  repeat (dsimp +instances only [go_sem, Nat.reduceBEq, Nat.reduceAdd, Nat.reduceSub, Nat.reduceLT, Nat.reduceLeDiff]; try simp only [bb, Nat.reduceAdd, Int.reduceToNat, Int.reduceLE, Int.reduceLT, Nat.reduceLT, Nat.reduceMul, Nat.reduceLeDiff])
  try simp only [nn, reduceCtorEq]
  refine ⟨fun h => ?_, fun h => ?_⟩
  · rw [eq_comm, decide_eq_false_iff_not]; rintro rfl; exact h rfl
  refine vcC_loop [0, 1, 5] (fun (i : Nat) => i ≤ a.length ∧ a.take i = b.take i) (fun i => [.cv (.sl 4 (a.map rFrame.enc)), .cv (.sl 4 (b.map rFrame.enc)), .cv (.int .i64 i)]) (fun _ => []) (fun i => a.length - i) 0 (by simp) ⟨rfl, rfl⟩ ?_
  rintro i ⟨hi, he⟩
  rcases Nat.lt_or_ge i a.length with hlt | hge
  · have hlt2 : i < b.length := by omega
    have hg := getD_at rFrame hlt
    have hg2 := getD_at rFrame hlt2
    try dsimp +instances only [go_sem, Nat.reduceBEq, Nat.reduceAdd, Nat.reduceSub, Nat.reduceLT, Nat.reduceLeDiff]
    repeat (simp only [hg, hg2, rFrame_enc, Int.toNat_natCast, bb, Nat.reduceAdd, Int.reduceToNat, Int.reduceLE, Int.reduceLT, Nat.reduceLT, Nat.reduceMul, Nat.reduceLeDiff]; try dsimp +instances only [go_sem, Nat.reduceBEq, Nat.reduceAdd, Nat.reduceSub, Nat.reduceLT, Nat.reduceLeDiff])
    try simp only [nn, reduceCtorEq, hlt, hlt2, decide_true]
    (repeat' (first | refine And.intro ?_ ?_ | intro _)) <;> try first | omega | trivial
    all_goals first
    | (rename_i h9; rw [eq_comm, decide_eq_false_iff_not]; rintro rfl; exact h9 rfl)
    | (rename_i h9; exact nextL_intro (i + 1) ⟨by omega, by rw [take_snoc hlt, take_snoc hlt2, he, h9]⟩ (by omega) rfl rfl)
  · have : i = a.length := by omega
    subst this
    rw [List.take_length, h, List.take_length] at he
    repeat (dsimp +instances only [go_sem, Nat.reduceBEq, Nat.reduceAdd, Nat.reduceSub, Nat.reduceLT, Nat.reduceLeDiff]; try simp only [bb, Nat.reduceAdd, Int.reduceToNat, Int.reduceLE, Int.reduceLT, Nat.reduceLT, Nat.reduceMul, Nat.reduceLeDiff])
    try simp only [nn, reduceCtorEq, Nat.lt_irrefl]
    simp [he]
def E11 : Env := { T := Tz.tab, G := Gl, C := [(31, ct31)], live := [(0, [2, 3]), (1, [2, 3, 10]), (2, [4]), (3, [2, 3, 15]), (4, [4]), (5, [2, 3, 20]), (6, [4]), (7, [25]), (8, [4]), (9, [4])] }
def ct11 : Ct := .scal (dom2 tWindow tWindow (fun a b => True)) (fn2 tWindow tWindow fun a b => [tBool.enc (decide (a = b))])
attribute [go_sem] E11 ct11 Go.Proofs.Tryz.f11
set_option maxHeartbeats 1000000 in
theorem ok11 : CtOk Tryz.prog Gl 11 ct11 := okA2 (E := E11) (sound_of Tz.tab_ok Tz.mixed (AllOk.cons ok31 AllOk.nil)) rfl Tryz.func11 (by kernel_rfl) fun a b fa fb hp => by
  have ga := fa
  have fa := fit_window fa
  have gb := fb
  have fb := fit_window fb
  refine vcFn_intro rfl rfl (by kernel_rfl) rfl ?_
  repeat (dsimp +instances only [go_sem, Nat.reduceBEq, Nat.reduceAdd, Nat.reduceSub, Nat.reduceLT, Nat.reduceLeDiff]; try simp only [bb, Nat.reduceAdd, Int.reduceToNat, Int.reduceLE, Int.reduceLT, Nat.reduceLT, Nat.reduceMul, Nat.reduceLeDiff])
  try simp only [nn, reduceCtorEq]
  obtain ⟨a0, a1, a2, a3⟩ := a
  obtain ⟨b0, b1, b2, b3⟩ := b
  simp only [Window.mk.injEq]
  clear ga gb fa fb
  (repeat' (first | refine And.intro ?_ ?_ | intro _)) <;> try first | omega | trivial
  all_goals grind
attribute [go_sem] Go.Proofs.Tryz.f99
attribute [go_sem] Go.Proofs.Tryz.f50
attribute [go_sem] Go.Proofs.Tryz.f51
attribute [go_sem] Go.Proofs.Tryz.f18
end Go.Gx
end
section
namespace Go.Gx
open Go.Proofs
theorem markStrs_idem : ∀ (l : List Str) (k : Int), (markStrs (markStrs l k).1 k).1 = (markStrs l k).1
  | [], _ => rfl
  | _ :: r, k => by simp only [markStrs, markStrs_idem r]
theorem markEntry_idem (e : Entry) (k : Int) : markEntry (markEntry e k).1 k = markEntry e k := by
  simp only [markEntry, markStrs_idem, markStrs_snd, markStrs_len]
theorem markEntries_idem : ∀ (l : List Entry) (k : Int), (markEntries (markEntries l k).1 k).1 = (markEntries l k).1
  | [], _ => rfl
  | e :: r, k => by simp only [markEntries, markEntry_idem, markEntries_idem r]
theorem cntEntries_mark : ∀ (l : List Entry) (k : Int), cntEntries (markEntries l k).1 = cntEntries l
  | [], _ => rfl
  | e :: r, k => by simp only [markEntries, cntEntries, cntEntries_mark r, markEntry, markStrs_len]
theorem take_mk {α β : Type} (f : α → β) (l m : List α) (h : m.length = l.length) : List.take l.length (m.map f) = m.map f := List.take_of_length_le (by simp [h])
theorem take_strs {β : Type} (f : Str → β) (l : List Str) (k : Int) : List.take l.length ((markStrs l k).1.map f) = (markStrs l k).1.map f := take_mk f _ _ (markStrs_len l k)
theorem ex_enc {α : Type} (R : Rw α) (l : List α) : (∃ x : List α, l.map R.enc = x.map R.enc) = True := eq_true ⟨l, rfl⟩
theorem pathPut_len : ∀ l : List Str, (PathPut l).length = l.length + sumL l
  | [] => rfl
  | s :: r => by simp [PathPut, pathPut_len r, sumL]; omega
theorem szTo_ok {n left : Int} (h : ¬ szTo n left < 0) (hl : 0 ≤ left) : n ≤ left := by
  unfold szTo at h; split at h <;> omega
end Go.Gx
end
section
namespace Go.Gx
open Go.Proofs
def zEntry : List CV := [.int .i64 0, .str [], .str [], .str [], .int .i64 0, .str [], .int .i64 0, .int .i64 0, .sl 1 [], .str [], .bool false, .str [], .bool false, .str [], .int .i64 0, .int .i64 0, .str []]
def zFrame : List CV := [.int .i64 0, .str [], .sl 17 [], .bool false]
theorem zEntry_len : zEntry.length = 17 := rfl
theorem zEntry_drop : zEntry.drop 17 = [] := rfl
theorem zFrame_len : zFrame.length = 4 := rfl
theorem zFrame_drop : zFrame.drop 4 = [] := rfl
theorem szTo_cases (n left : Int) : (left - n < 0 ∧ szTo n left = -1) ∨ (0 ≤ left - n ∧ szTo n left = left - n) := by
  unfold szTo; split <;> omega
def urlC (u : Url) : Int := u.Scheme.length + u.User.length + u.Pass.length + u.Host.Name.length + (u.Path.length + sumL u.Path) + u.Opaque.length + u.Query.length + u.Frag.length
def entC (e : Entry) : Int := urlC e.Url + e.State.length
def sumE : List Entry → Int
  | [] => 0
  | e :: r => entC e + sumE r
def frmC (f : Frame) : Int := f.Name.length + (f.Hist.length + sumE f.Hist)
def sumF : List Frame → Int
  | [] => 0
  | f :: r => frmC f + sumF r
theorem urlC_nn (u : Url) : 0 ≤ urlC u := by unfold urlC; omega
theorem entC_nn (e : Entry) : 0 ≤ entC e := by have := urlC_nn e.Url; unfold entC; omega
theorem sumE_nn : ∀ l : List Entry, 0 ≤ sumE l
  | [] => Int.le_refl 0
  | e :: r => by have := entC_nn e; have := sumE_nn r; rw [sumE]; omega
theorem frmC_nn (f : Frame) : 0 ≤ frmC f := by have := sumE_nn f.Hist; unfold frmC; omega
theorem sumF_nn : ∀ l : List Frame, 0 ≤ sumF l
  | [] => Int.le_refl 0
  | f :: r => by have := frmC_nn f; have := sumF_nn r; rw [sumF]; omega
def winC (w : Window) : Int := w.Frames.length + sumF w.Frames
theorem sumE_mem : ∀ (l : List Entry), ∀ e ∈ l, entC e ≤ sumE l
  | a :: r, e, he => by
    have := entC_nn a; have := sumE_nn r
    rw [sumE]
    rcases List.mem_cons.1 he with rfl | he
    · omega
    · have := sumE_mem r e he; omega
theorem sumF_mem : ∀ (l : List Frame), ∀ f ∈ l, frmC f ≤ sumF l
  | a :: r, e, he => by
    have := frmC_nn a; have := sumF_nn r
    rw [sumF]
    rcases List.mem_cons.1 he with rfl | he
    · omega
    · have := sumF_mem r e he; omega
def E150 : Env := { T := Tz.tab, G := Gl, C := [(188, ct188)], live := [(0, [1, 2]), (1, [1, 2]), (2, [1, 2, 10]), (3, [4]), (4, [1]), (5, [1, 17]), (6, [4]), (7, [4])] }
def ct150 : Ct := .scal (dom2 tEntry tInt (fun a left => 0 ≤ left ∧ left ≤ 1048576)) (fn2 tEntry tInt fun a left => [tInt.enc (szTo (entC a) left)])
attribute [go_sem] E150 ct150 Go.Proofs.Tryz.f150
theorem ok150 : CtOk Tryz.prog Gl 150 ct150 := okA2 (E := E150) (sound_of Tz.tab_ok Tz.mixed (AllOk.cons ok188 AllOk.nil)) rfl Tryz.func150 (by kernel_rfl) fun a left fa fleft hp => by
  have ga := fa
  have fa := fit_entry fa
  have fleft := fit_int fleft
  refine vcFn_intro rfl rfl (by kernel_rfl) rfl ?_
  have h1 := szTo_cases (urlC a.Url) left
  have h2 := szTo_cases (entC a) left
  have h3 : entC a = urlC a.Url + a.State.length := rfl
  have h4 := urlC_nn a.Url
  simp only [urlC] at h1 h3 h4
  cases fa
  repeat (dsimp +instances only [go_sem, Nat.reduceBEq, Nat.reduceAdd, Nat.reduceSub, Nat.reduceLT, Nat.reduceLeDiff]; try simp only [bb, Nat.reduceAdd, Int.reduceToNat, Int.reduceLE, Int.reduceLT, Nat.reduceLT, Nat.reduceMul, Nat.reduceLeDiff])
  try simp only [nn, reduceCtorEq]
  (repeat' (first | refine And.intro ?_ ?_ | intro _)) <;> try first | omega | trivial
  all_goals grind
def E110 : Env := { T := Tz.tab, G := Gl, C := [(150, ct150)], live := [(0, [0, 1]), (1, [0, 1]), (2, [0, 1, 11]), (3, [4]), (4, [0, 1, 5]), (5, [0, 1, 5, 15]), (6, [0, 1, 5]), (7, [0, 1, 5]), (8, [0, 1, 5, 25]), (9, [4]), (10, [4])] }
def ct110 : Ct := .scal (dom2 tEntryS tInt (fun a left => 0 ≤ left ∧ left ≤ 1048576)) (fn2 tEntryS tInt fun a left => [tInt.enc (szTo (a.length + sumE a) left)])
attribute [go_sem] E110 ct110 Go.Proofs.Tryz.f110
theorem ok110 : CtOk Tryz.prog Gl 110 ct110 := okA2 (E := E110) (sound_of Tz.tab_ok Tz.mixed (AllOk.cons ok150 AllOk.nil)) rfl Tryz.func110 (by kernel_rfl) fun a left fa fleft hp => by
  have ga := fa
  have fa := fit_list fa
  have fleft := fit_int fleft
  refine vcFn_intro rfl rfl (by kernel_rfl) rfl ?_
  obtain ⟨hp0, hp1⟩ := hp
  have hnn := sumE_nn a
  repeat (dsimp +instances only [go_sem, Nat.reduceBEq, Nat.reduceAdd, Nat.reduceSub, Nat.reduceLT, Nat.reduceLeDiff]; try simp only [bb, Nat.reduceAdd, Int.reduceToNat, Int.reduceLE, Int.reduceLT, Nat.reduceLT, Nat.reduceMul, Nat.reduceLeDiff])
  try simp only [nn, reduceCtorEq]
  refine ⟨by omega, fun h => by rw [szTo, if_pos (by omega)], fun h => ?_⟩
  refine vcC_loop [0, 1, 5] (fun (x : Nat × Int) => x.1 ≤ a.length ∧ 0 ≤ x.2 ∧ x.2 ≤ 1048576 ∧ x.2 - sumE (a.drop x.1) = left - (a.length + sumE a)) (fun x => [.cv (.sl 17 (a.map rEntry.enc)), .cv (.int .i64 x.2), .cv (.int .i64 x.1)]) (fun _ => []) (fun x => a.length - x.1) (0, left - a.length) ⟨by simp, by simp only; omega, by simp only; omega, by simp only [List.drop_zero]; omega⟩ ⟨rfl, rfl⟩ ?_
  rintro ⟨i, q⟩ ⟨hi, hq, hq2, he⟩
  simp only at hi hq hq2 he
  rcases Nat.lt_or_ge i a.length with hlt | hge
  · have hg := getD_at rEntry hlt
    rw [List.drop_eq_getElem_cons hlt, sumE] at he
    have hn1 := entC_nn a[i]
    have hn2 := sumE_nn (a.drop (i + 1))
    have hst := szTo_cases (entC a[i]) q
    generalize a[i] = e at *
    try dsimp +instances only [go_sem, Nat.reduceBEq, Nat.reduceAdd, Nat.reduceSub, Nat.reduceLT, Nat.reduceLeDiff]
    repeat (simp only [hg, rEntry_enc, Int.toNat_natCast, bb, Nat.reduceAdd, Int.reduceToNat, Int.reduceLE, Int.reduceLT, Nat.reduceLT, Nat.reduceMul, Nat.reduceLeDiff]; try dsimp +instances only [go_sem, Nat.reduceBEq, Nat.reduceAdd, Nat.reduceSub, Nat.reduceLT, Nat.reduceLeDiff])
    try simp only [nn, reduceCtorEq, hlt, decide_true]
    refine ⟨⟨by omega, by omega⟩, fun h => ?_, fun h => ⟨by omega, nextL_intro (i + 1, szTo (entC e) q) ⟨by simp only; omega, by simp only; omega, by simp only; omega, by simp only; omega⟩ (by simp only; omega) rfl rfl⟩⟩
    rw [szTo, if_pos (by omega)]
  · have : i = a.length := by omega
    subst this
    rw [List.drop_length, sumE] at he
    repeat (dsimp +instances only [go_sem, Nat.reduceBEq, Nat.reduceAdd, Nat.reduceSub, Nat.reduceLT, Nat.reduceLeDiff]; try simp only [bb, Nat.reduceAdd, Int.reduceToNat, Int.reduceLE, Int.reduceLT, Nat.reduceLT, Nat.reduceMul, Nat.reduceLeDiff])
    try simp only [nn, reduceCtorEq, Nat.lt_irrefl]
    rw [szTo, if_neg (by omega)]; omega
def E61 : Env := { T := Tz.tab, G := Gl, C := [(110, ct110)], live := [(0, [1, 2]), (1, [1, 2]), (2, [1, 2, 11]), (3, [4]), (4, [1]), (5, [1, 17]), (6, [4]), (7, [4])] }
def ct61 : Ct := .scal (dom2 tFrame tInt (fun a left => 0 ≤ left ∧ left ≤ 1048576)) (fn2 tFrame tInt fun a left => [tInt.enc (szTo (frmC a) left)])
attribute [go_sem] E61 ct61 Go.Proofs.Tryz.f61
theorem ok61 : CtOk Tryz.prog Gl 61 ct61 := okA2 (E := E61) (sound_of Tz.tab_ok Tz.mixed (AllOk.cons ok110 AllOk.nil)) rfl Tryz.func61 (by kernel_rfl) fun a left fa fleft hp => by
  have ga := fa
  have fa := fit_frame fa
  have fleft := fit_int fleft
  refine vcFn_intro rfl rfl (by kernel_rfl) rfl ?_
  have h1 := szTo_cases (a.Hist.length + sumE a.Hist) (left - a.Name.length)
  have h2 := szTo_cases (frmC a) left
  have h3 : frmC a = a.Name.length + (a.Hist.length + sumE a.Hist) := rfl
  have h4 := sumE_nn a.Hist
  cases fa
  repeat (dsimp +instances only [go_sem, Nat.reduceBEq, Nat.reduceAdd, Nat.reduceSub, Nat.reduceLT, Nat.reduceLeDiff]; try simp only [bb, Nat.reduceAdd, Int.reduceToNat, Int.reduceLE, Int.reduceLT, Nat.reduceLT, Nat.reduceMul, Nat.reduceLeDiff])
  try simp only [nn, reduceCtorEq]
  (repeat' (first | refine And.intro ?_ ?_ | intro _)) <;> try first | omega | trivial
  all_goals grind
def E25 : Env := { T := Tz.tab, G := Gl, C := [(61, ct61)], live := [(0, [0, 1]), (1, [0, 1]), (2, [0, 1, 11]), (3, [4]), (4, [0, 1, 5]), (5, [0, 1, 5, 15]), (6, [0, 1, 5]), (7, [0, 1, 5]), (8, [0, 1, 5, 25]), (9, [4]), (10, [4])] }
def ct25 : Ct := .scal (dom2 tFrameS tInt (fun a left => 0 ≤ left ∧ left ≤ 1048576)) (fn2 tFrameS tInt fun a left => [tInt.enc (szTo (a.length + sumF a) left)])
attribute [go_sem] E25 ct25 Go.Proofs.Tryz.f25
theorem ok25 : CtOk Tryz.prog Gl 25 ct25 := okA2 (E := E25) (sound_of Tz.tab_ok Tz.mixed (AllOk.cons ok61 AllOk.nil)) rfl Tryz.func25 (by kernel_rfl) fun a left fa fleft hp => by
  have ga := fa
  have fa := fit_list fa
  have fleft := fit_int fleft
  refine vcFn_intro rfl rfl (by kernel_rfl) rfl ?_
  obtain ⟨hp0, hp1⟩ := hp
  have hnn := sumF_nn a
  repeat (dsimp +instances only [go_sem, Nat.reduceBEq, Nat.reduceAdd, Nat.reduceSub, Nat.reduceLT, Nat.reduceLeDiff]; try simp only [bb, Nat.reduceAdd, Int.reduceToNat, Int.reduceLE, Int.reduceLT, Nat.reduceLT, Nat.reduceMul, Nat.reduceLeDiff])
  try simp only [nn, reduceCtorEq]
  refine ⟨by omega, fun h => by rw [szTo, if_pos (by omega)], fun h => ?_⟩
  refine vcC_loop [0, 1, 5] (fun (x : Nat × Int) => x.1 ≤ a.length ∧ 0 ≤ x.2 ∧ x.2 ≤ 1048576 ∧ x.2 - sumF (a.drop x.1) = left - (a.length + sumF a)) (fun x => [.cv (.sl 4 (a.map rFrame.enc)), .cv (.int .i64 x.2), .cv (.int .i64 x.1)]) (fun _ => []) (fun x => a.length - x.1) (0, left - a.length) ⟨by simp, by simp only; omega, by simp only; omega, by simp only [List.drop_zero]; omega⟩ ⟨rfl, rfl⟩ ?_
  rintro ⟨i, q⟩ ⟨hi, hq, hq2, he⟩
  simp only at hi hq hq2 he
  rcases Nat.lt_or_ge i a.length with hlt | hge
  · have hg := getD_at rFrame hlt
    rw [List.drop_eq_getElem_cons hlt, sumF] at he
    have hn1 := frmC_nn a[i]
    have hn2 := sumF_nn (a.drop (i + 1))
    have hst := szTo_cases (frmC a[i]) q
    generalize a[i] = e at *
    try dsimp +instances only [go_sem, Nat.reduceBEq, Nat.reduceAdd, Nat.reduceSub, Nat.reduceLT, Nat.reduceLeDiff]
    repeat (simp only [hg, rFrame_enc, Int.toNat_natCast, bb, Nat.reduceAdd, Int.reduceToNat, Int.reduceLE, Int.reduceLT, Nat.reduceLT, Nat.reduceMul, Nat.reduceLeDiff]; try dsimp +instances only [go_sem, Nat.reduceBEq, Nat.reduceAdd, Nat.reduceSub, Nat.reduceLT, Nat.reduceLeDiff])
    try simp only [nn, reduceCtorEq, hlt, decide_true]
    refine ⟨⟨by omega, by omega⟩, fun h => ?_, fun h => ⟨by omega, nextL_intro (i + 1, szTo (frmC e) q) ⟨by simp only; omega, by simp only; omega, by simp only; omega, by simp only; omega⟩ (by simp only; omega) rfl rfl⟩⟩
    rw [szTo, if_pos (by omega)]
  · have : i = a.length := by omega
    subst this
    rw [List.drop_length, sumF] at he
    repeat (dsimp +instances only [go_sem, Nat.reduceBEq, Nat.reduceAdd, Nat.reduceSub, Nat.reduceLT, Nat.reduceLeDiff]; try simp only [bb, Nat.reduceAdd, Int.reduceToNat, Int.reduceLE, Int.reduceLT, Nat.reduceLT, Nat.reduceMul, Nat.reduceLeDiff])
    try simp only [nn, reduceCtorEq, Nat.lt_irrefl]
    rw [szTo, if_neg (by omega)]; omega
def E7 : Env := { T := Tz.tab, G := Gl, C := [(25, ct25)], live := [(0, [1, 2]), (1, [1]), (2, [1, 10]), (3, [4]), (4, [4])] }
def ct7 : Ct := .scal (dom2 tWindow tInt (fun a left => 0 ≤ left ∧ left ≤ 1048576)) (fn2 tWindow tInt fun a left => [tInt.enc (szTo (winC a) left)])
attribute [go_sem] E7 ct7 Go.Proofs.Tryz.f7
theorem ok7 : CtOk Tryz.prog Gl 7 ct7 := okA2 (E := E7) (sound_of Tz.tab_ok Tz.mixed (AllOk.cons ok25 AllOk.nil)) rfl Tryz.func7 (by kernel_rfl) fun a left fa fleft hp => by
  have ga := fa
  have fa := fit_window fa
  have fleft := fit_int fleft
  refine vcFn_intro rfl rfl (by kernel_rfl) rfl ?_
  have h1 := szTo_cases (winC a) left
  have h2 : winC a = a.Frames.length + sumF a.Frames := rfl
  repeat (dsimp +instances only [go_sem, Nat.reduceBEq, Nat.reduceAdd, Nat.reduceSub, Nat.reduceLT, Nat.reduceLeDiff]; try simp only [bb, Nat.reduceAdd, Int.reduceToNat, Int.reduceLE, Int.reduceLT, Nat.reduceLT, Nat.reduceMul, Nat.reduceLeDiff])
  try simp only [nn, reduceCtorEq]
  (repeat' (first | refine And.intro ?_ ?_ | intro _)) <;> try first | omega | trivial
  all_goals grind
def E153 : Env := { T := Tz.tab, G := Gl, C := [(191, ct191)], live := [(0, [1, 2]), (1, [1, 2, 3]), (2, [1, 2, 3]), (3, [1, 2, 3]), (4, [1, 2, 3]), (5, [1, 2, 3]), (6, [2, 3]), (7, [2])] }
def ct153 : Ct := .pure (dom1 tEntry (fun a => True)) (fn1 tEntry fun a => [tEntry.enc a])
attribute [go_sem] E153 ct153 Go.Proofs.Tryz.f153
theorem ok153 : CtOk Tryz.prog Gl 153 ct153 := okA1 (E := E153) (sound_of Tz.tab_ok Tz.mixed (AllOk.cons ok191 AllOk.nil)) rfl Tryz.func153 (by kernel_rfl) fun a fa hp => by
  have ga := fa
  have fa := fit_entry fa
  refine vcFn_intro rfl rfl (by kernel_rfl) rfl ?_
  repeat (dsimp +instances only [go_sem, Nat.reduceBEq, Nat.reduceAdd, Nat.reduceSub, Nat.reduceLT, Nat.reduceLeDiff]; try simp only [bb, Nat.reduceAdd, Int.reduceToNat, Int.reduceLE, Int.reduceLT, Nat.reduceLT, Nat.reduceMul, Nat.reduceLeDiff])
  try simp only [nn, reduceCtorEq]
def E116 : Env := { T := Tz.tab, G := Gl, C := [(153, ct153)], live := [(0, [0]), (1, [0, 3]), (2, [0, 3, 4]), (3, [0, 3, 4, 11]), (4, [0, 3, 4]), (5, [0, 3, 4]), (6, [2])] }
def ct116 : Ct := .pure (dom1 tEntryS (fun a => True)) (fn1 tEntryS fun a => [tEntryS.enc a])
attribute [go_sem] E116 ct116 Go.Proofs.Tryz.f116
set_option maxHeartbeats 2000000 in
theorem ok116 : CtOk Tryz.prog Gl 116 ct116 := okA1 (E := E116) (sound_of Tz.tab_ok Tz.mixed (AllOk.cons ok153 AllOk.nil)) rfl Tryz.func116 (by kernel_rfl) fun a fa hp => by
  have ga := fa
  have fa := fit_list fa
  refine vcFn_intro rfl rfl (by kernel_rfl) rfl ?_
  repeat (dsimp +instances only [go_sem, Nat.reduceBEq, Nat.reduceAdd, Nat.reduceSub, Nat.reduceLT, Nat.reduceLeDiff]; try simp only [bb, Nat.reduceAdd, Int.reduceToNat, Int.reduceLE, Int.reduceLT, Nat.reduceLT, Nat.reduceMul, Nat.reduceLeDiff])
  try simp only [nn, reduceCtorEq]
  refine ⟨by omega, by omega, ?_⟩
  refine vcC_loop [0, 3, 4] (fun (i : Nat) => i ≤ a.length) (fun i => [.cv (.sl 17 (a.map rEntry.enc)), .pth 0 17 0 a.length, .cv (.int .i64 i)]) (fun i => [.row 17 ((a.take i).map rEntry.enc ++ List.replicate (a.length - i) zEntry) []]) (fun i => a.length - i) 0 (by simp) ⟨rfl, rfl⟩ ?_
  intro i hi
  rcases Nat.lt_or_ge i a.length with hlt | hge
  · have hg := getD_at rEntry hlt
    have hr : List.replicate (a.length - i) zEntry = zEntry :: List.replicate (a.length - (i + 1)) zEntry := by rw [show a.length - i = (a.length - (i + 1)) + 1 by omega]; rfl
    have hl : (a.take i).length = i := by simp; omega
    have htk := take_snoc hlt
    rw [hr]
    generalize a[i] = e at *
    generalize hrest : List.replicate (a.length - (i + 1)) zEntry = rest at *
    have g1 : ((a.take i).map rEntry.enc ++ zEntry :: rest).getD i [] = zEntry := by
      have := getD_mmid rEntry.enc (a.take i) rest zEntry []
      rwa [hl] at this
    have g2 : ∀ y, ((a.take i).map rEntry.enc ++ zEntry :: rest).set i y = (a.take i).map rEntry.enc ++ y :: rest := fun y => by
      have := set_mmid rEntry.enc (a.take i) rest zEntry y
      rwa [hl] at this
    try dsimp +instances only [go_sem, Nat.reduceBEq, Nat.reduceAdd, Nat.reduceSub, Nat.reduceLT, Nat.reduceLeDiff]
    repeat (simp only [hg, rEntry_enc, Int.toNat_natCast, g1, g2, zEntry_len, zEntry_drop, bb, Nat.reduceAdd, Int.reduceToNat, Int.reduceLE, Int.reduceLT, Nat.reduceLT, Nat.reduceMul, Nat.reduceLeDiff]; try dsimp +instances only [go_sem, Nat.reduceBEq, Nat.reduceAdd, Nat.reduceSub, Nat.reduceLT, Nat.reduceLeDiff])
    try simp only [nn, reduceCtorEq, hlt, decide_true]
    have hrl : rest.length = a.length - (i + 1) := by rw [← hrest]; simp
    refine ⟨by rw [hl]; omega, by omega, nextL_intro (i + 1) (by omega) (by omega) rfl ?_⟩
    simp only [htk, List.map_append, List.map_cons, List.map_nil, List.append_assoc, hrest]
    rfl
  · have : i = a.length := by omega
    subst this
    repeat (dsimp +instances only [go_sem, Nat.reduceBEq, Nat.reduceAdd, Nat.reduceSub, Nat.reduceLT, Nat.reduceLeDiff]; try simp only [bb, Nat.reduceAdd, Int.reduceToNat, Int.reduceLE, Int.reduceLT, Nat.reduceLT, Nat.reduceMul, Nat.reduceLeDiff])
    try simp only [nn, reduceCtorEq, Nat.lt_irrefl]
    refine fun _ => ⟨by omega, ?_⟩
    rw [Nat.sub_self, List.replicate_zero, List.append_nil, List.take_of_length_le (by simp)]
def E70 : Env := { T := Tz.tab, G := Gl, C := [(116, ct116)], live := [(0, [1, 2]), (1, [1, 2, 3]), (2, [1, 2, 3]), (3, [1, 2, 3]), (4, [1, 2, 3]), (5, [2, 3]), (6, [2])] }
def ct70 : Ct := .pure (dom1 tFrame (fun a => True)) (fn1 tFrame fun a => [tFrame.enc a])
attribute [go_sem] E70 ct70 Go.Proofs.Tryz.f70
theorem ok70 : CtOk Tryz.prog Gl 70 ct70 := okA1 (E := E70) (sound_of Tz.tab_ok Tz.mixed (AllOk.cons ok116 AllOk.nil)) rfl Tryz.func70 (by kernel_rfl) fun a fa hp => by
  have ga := fa
  have fa := fit_frame fa
  refine vcFn_intro rfl rfl (by kernel_rfl) rfl ?_
  repeat (dsimp +instances only [go_sem, Nat.reduceBEq, Nat.reduceAdd, Nat.reduceSub, Nat.reduceLT, Nat.reduceLeDiff]; try simp only [bb, Nat.reduceAdd, Int.reduceToNat, Int.reduceLE, Int.reduceLT, Nat.reduceLT, Nat.reduceMul, Nat.reduceLeDiff])
  try simp only [nn, reduceCtorEq]
def E28 : Env := { T := Tz.tab, G := Gl, C := [(70, ct70)], live := [(0, [0]), (1, [0, 3]), (2, [0, 3, 4]), (3, [0, 3, 4, 11]), (4, [0, 3, 4]), (5, [0, 3, 4]), (6, [2])] }
def ct28 : Ct := .pure (dom1 tFrameS (fun a => True)) (fn1 tFrameS fun a => [tFrameS.enc a])
attribute [go_sem] E28 ct28 Go.Proofs.Tryz.f28
set_option maxHeartbeats 2000000 in
theorem ok28 : CtOk Tryz.prog Gl 28 ct28 := okA1 (E := E28) (sound_of Tz.tab_ok Tz.mixed (AllOk.cons ok70 AllOk.nil)) rfl Tryz.func28 (by kernel_rfl) fun a fa hp => by
  have ga := fa
  have fa := fit_list fa
  refine vcFn_intro rfl rfl (by kernel_rfl) rfl ?_
  repeat (dsimp +instances only [go_sem, Nat.reduceBEq, Nat.reduceAdd, Nat.reduceSub, Nat.reduceLT, Nat.reduceLeDiff]; try simp only [bb, Nat.reduceAdd, Int.reduceToNat, Int.reduceLE, Int.reduceLT, Nat.reduceLT, Nat.reduceMul, Nat.reduceLeDiff])
  try simp only [nn, reduceCtorEq]
  refine ⟨by omega, by omega, ?_⟩
  refine vcC_loop [0, 3, 4] (fun (i : Nat) => i ≤ a.length) (fun i => [.cv (.sl 4 (a.map rFrame.enc)), .pth 0 4 0 a.length, .cv (.int .i64 i)]) (fun i => [.row 4 ((a.take i).map rFrame.enc ++ List.replicate (a.length - i) zFrame) []]) (fun i => a.length - i) 0 (by simp) ⟨rfl, rfl⟩ ?_
  intro i hi
  rcases Nat.lt_or_ge i a.length with hlt | hge
  · have hg := getD_at rFrame hlt
    have hr : List.replicate (a.length - i) zFrame = zFrame :: List.replicate (a.length - (i + 1)) zFrame := by rw [show a.length - i = (a.length - (i + 1)) + 1 by omega]; rfl
    have hl : (a.take i).length = i := by simp; omega
    have htk := take_snoc hlt
    rw [hr]
    generalize a[i] = e at *
    generalize hrest : List.replicate (a.length - (i + 1)) zFrame = rest at *
    have g1 : ((a.take i).map rFrame.enc ++ zFrame :: rest).getD i [] = zFrame := by
      have := getD_mmid rFrame.enc (a.take i) rest zFrame []
      rwa [hl] at this
    have g2 : ∀ y, ((a.take i).map rFrame.enc ++ zFrame :: rest).set i y = (a.take i).map rFrame.enc ++ y :: rest := fun y => by
      have := set_mmid rFrame.enc (a.take i) rest zFrame y
      rwa [hl] at this
    try dsimp +instances only [go_sem, Nat.reduceBEq, Nat.reduceAdd, Nat.reduceSub, Nat.reduceLT, Nat.reduceLeDiff]
    repeat (simp only [hg, rFrame_enc, Int.toNat_natCast, g1, g2, zFrame_len, zFrame_drop, bb, Nat.reduceAdd, Int.reduceToNat, Int.reduceLE, Int.reduceLT, Nat.reduceLT, Nat.reduceMul, Nat.reduceLeDiff]; try dsimp +instances only [go_sem, Nat.reduceBEq, Nat.reduceAdd, Nat.reduceSub, Nat.reduceLT, Nat.reduceLeDiff])
    try simp only [nn, reduceCtorEq, hlt, decide_true]
    have hrl : rest.length = a.length - (i + 1) := by rw [← hrest]; simp
    refine ⟨by rw [hl]; omega, by omega, nextL_intro (i + 1) (by omega) (by omega) rfl ?_⟩
    simp only [htk, List.map_append, List.map_cons, List.map_nil, List.append_assoc, hrest]
    rfl
  · have : i = a.length := by omega
    subst this
    repeat (dsimp +instances only [go_sem, Nat.reduceBEq, Nat.reduceAdd, Nat.reduceSub, Nat.reduceLT, Nat.reduceLeDiff]; try simp only [bb, Nat.reduceAdd, Int.reduceToNat, Int.reduceLE, Int.reduceLT, Nat.reduceLT, Nat.reduceMul, Nat.reduceLeDiff])
    try simp only [nn, reduceCtorEq, Nat.lt_irrefl]
    refine fun _ => ⟨by omega, ?_⟩
    rw [Nat.sub_self, List.replicate_zero, List.append_nil, List.take_of_length_le (by simp)]
def E9 : Env := { T := Tz.tab, G := Gl, C := [(28, ct28)], live := [(0, [1, 2]), (1, [1, 2, 3]), (2, [1, 2, 3]), (3, [1, 2, 3]), (4, [1, 2, 3]), (5, [2, 3]), (6, [2])] }
def ct9 : Ct := .pure (dom1 tWindow (fun a => True)) (fn1 tWindow fun a => [tWindow.enc a])
attribute [go_sem] E9 ct9 Go.Proofs.Tryz.f9
theorem ok9 : CtOk Tryz.prog Gl 9 ct9 := okA1 (E := E9) (sound_of Tz.tab_ok Tz.mixed (AllOk.cons ok28 AllOk.nil)) rfl Tryz.func9 (by kernel_rfl) fun a fa hp => by
  have ga := fa
  have fa := fit_window fa
  refine vcFn_intro rfl rfl (by kernel_rfl) rfl ?_
  repeat (dsimp +instances only [go_sem, Nat.reduceBEq, Nat.reduceAdd, Nat.reduceSub, Nat.reduceLT, Nat.reduceLeDiff]; try simp only [bb, Nat.reduceAdd, Int.reduceToNat, Int.reduceLE, Int.reduceLT, Nat.reduceLT, Nat.reduceMul, Nat.reduceLeDiff])
  try simp only [nn, reduceCtorEq]
end Go.Gx
end
section
namespace Go.Gx
open Go.Proofs
def E145 : Env := { T := Tz.tab, G := Gl, C := [(185, ct185)], live := [(0, [1, 2]), (1, [1, 2]), (2, [2])] }
def ct145 : Ct := .pure (dom1 tEntry (fun e => True)) (fn1 tEntry fun e => [tEntry.enc e])
attribute [go_sem] E145 ct145 Go.Proofs.Tryz.f145
theorem ok145 : CtOk Tryz.prog Gl 145 ct145 := okA1 (E := E145) (sound_of Tz.tab_ok Tz.mixed (AllOk.cons ok185 AllOk.nil)) rfl Tryz.func145 (by kernel_rfl) fun e fe hp => by
  have ge := fe
  have fe := fit_entry fe
  refine vcFn_intro rfl rfl (by kernel_rfl) rfl ?_
  repeat (dsimp +instances only [go_sem, Nat.reduceBEq, Nat.reduceAdd, Nat.reduceSub, Nat.reduceLT, Nat.reduceLeDiff]; try simp only [bb, Nat.reduceAdd, Int.reduceToNat, Int.reduceLE, Int.reduceLT, Nat.reduceLT, Nat.reduceMul, Nat.reduceLeDiff])
  try simp only [nn, reduceCtorEq]
def okLive (w : Window) (f : Int) : Bool := winOk w && (decide (0 ≤ f ∧ f < w.Frames.length) && liveF w w.Step 3 f)
end Go.Gx
end
section
namespace Go.Gx
open Go.Proofs
theorem withTail_sh (u : Url) (s : Str) : (withTail u s).Scheme = u.Scheme ∧ (withTail u s).Host = u.Host := by
  simp only [withTail]; split <;> split <;> simp
theorem withWho_sh (u : Url) (s : Str) : (withWho u s).Scheme = u.Scheme := by
  simp only [withWho]; split <;> rfl
theorem HostGet_kind {t : Str} (h : (HostGet t).2 = true) : (HostGet t).1.Kind ≠ 0 := by
  unfold HostGet at *
  simp only at *
  split at h
  · cases h
  · rename_i h1
    rw [if_neg h1]
    split at h
    · rename_i h2
      rw [if_pos h2]
      split at h
      · rename_i h3; rw [if_pos h3]; simp
      · cases h
    · rename_i h2
      rw [if_neg h2]
      split at h
      · rename_i h3; rw [if_pos h3]; simp
      · cases h
theorem authG_sh {u : Url} {s : Str} (h : (authG u s).2 = true) : (authG u s).1.Scheme = u.Scheme ∧ (authG u s).1.Host.Kind ≠ 0 := by
  simp only [authG, Bool.and_eq_true] at *
  refine ⟨?_, HostGet_kind h.1⟩
  split
  · exact withWho_sh _ _
  · rfl
theorem hostedG_sh {u : Url} {s : Str} (h : (hostedG u s).2 = true) : (hostedG u s).1.Scheme = u.Scheme ∧ (hostedG u s).1.Host.Kind ≠ 0 := by
  simp only [hostedG] at *
  split at h
  · rename_i h1
    rw [if_pos h1]
    have h2 := authG_sh h1
    have h3 := withTail_sh { (authG u (s.take (atAny [47, 92, 63, 35] s))).1 with Path := PathGet ((s.drop (atAny [47, 92, 63, 35] s)).take (atAny [63, 35] (s.drop (atAny [47, 92, 63, 35] s)))) } ((s.drop (atAny [47, 92, 63, 35] s)).drop (atAny [63, 35] (s.drop (atAny [47, 92, 63, 35] s))))
    simp only at h3 ⊢
    rw [h3.1, h3.2]; exact h2
  · cases h
theorem readN_sh {sch r : Str} (h : (readN sch r).2 = true) : ((readN sch r).1.Host.Kind = 0 ↔ ownN (readN sch r).1.Scheme < 0) := by
  simp only [readN] at *
  split at h
  · rename_i h1
    rw [if_pos h1]
    have h3 := withTail_sh { url0 with Scheme := sch, Port := -1, Opaque := Encode 5 (r.take (atAny [63, 35] r)) } (r.drop (atAny [63, 35] r))
    simp only at h3 ⊢
    rw [h3.1, h3.2]; simp [h1, url0]
  · rename_i h1
    rw [if_neg h1]
    have h2 := hostedG_sh h
    rw [h2.1]; simp [h1, h2.2]
theorem urlOk_own {u : Url} (h : urlOk u = true) : (u.Host.Kind = 0 ↔ ownN u.Scheme < 0) := by
  unfold urlOk at h
  simp only [Bool.and_eq_true, decide_eq_true_iff] at h
  obtain ⟨h1, h2⟩ := h
  unfold UrlGet at h1 h2
  split at h1
  · cases h1
  · rename_i h3
    rw [if_neg h3] at h2
    simp only at h1 h2
    split at h1
    · rename_i h4
      rw [if_pos h4] at h2
      rw [← h2]
      exact readN_sh h4.2.1
    · cases h1
structure Origin where
  Scheme : Str
  Host : Host
  Port : Int
  deriving DecidableEq, Inhabited
def Origin.cv (u : Origin) : List CV := [.str u.Scheme, .int .i64 u.Host.Kind, .str u.Host.Name, .int .i64 u.Host.Addr, .int .i64 u.Port]
def Origin.de (c : List CV) : Origin := match c with
  | [.str x0, .int _ x1, .str x2, .int _ x3, .int _ x4] => ⟨x0, ⟨x1, x2, x3⟩, x4⟩
  | _ => default
def Origin.sh (c : List CV) : Prop := match c with
  | [.str _, .int .i64 _, .str _, .int .i64 _, .int .i64 _] => True
  | _ => False
theorem Origin.sh_eq {c : List CV} (h : Origin.sh c) : c = (Origin.de c).cv := by
  unfold Origin.sh at h; split at h
  · rfl
  · exact h.elim
theorem Origin.de_cv (u : Origin) : Origin.de u.cv = u := by rfl
def tOrigin : Ty Origin where
  enc u := (true, u.cv)
  dec v := Origin.de v.2
  ok v := v.1 = true ∧ Origin.sh v.2
  law v h := by obtain ⟨b, c⟩ := v; obtain ⟨rfl, h⟩ := h; simp only; rw [← Origin.sh_eq h]
  de u := Origin.de_cv u
def rOrigin : Rw Origin := ⟨5, Origin.cv, Origin.de, Origin.de_cv⟩
def tOriginS : Ty (List Origin) := tList rOrigin
theorem tOrigin_enc {u : Origin} : tOrigin.enc u = (true, [.str u.Scheme, .int .i64 u.Host.Kind, .str u.Host.Name, .int .i64 u.Host.Addr, .int .i64 u.Port]) := rfl
theorem tOrigin_dec {b : Bool} {x0 : Str} {x1 : Int} {x2 : Str} {x3 : Int} {x4 : Int} {kx1 : IntKind} {kx3 : IntKind} {kx4 : IntKind}  : tOrigin.dec (b, [.str x0, .int kx1 x1, .str x2, .int kx3 x3, .int kx4 x4]) = ⟨x0, ⟨x1, x2, x3⟩, x4⟩ := rfl
theorem tOrigin_ok {x0 : Str} {x1 : Int} {x2 : Str} {x3 : Int} {x4 : Int}  : tOrigin.ok (true, [.str x0, .int .i64 x1, .str x2, .int .i64 x3, .int .i64 x4]) = (true = true ∧ True) := rfl
theorem Origin_eta (u : Origin) : (⟨u.Scheme, u.Host, u.Port⟩ : Origin) = u := rfl
theorem tOriginS_enc {l : List Origin} : tOriginS.enc l = (false, [.sl 5 (l.map rOrigin.enc)]) := rfl
theorem tOriginS_dec {b : Bool} {n : Nat} {es : List (List CV)} : tOriginS.dec (b, [.sl n es]) = es.map rOrigin.dec := rfl
theorem tOriginS_ok {n : Nat} {es : List (List CV)} : tOriginS.ok (false, [.sl n es]) = (n = 5 ∧ ∃ l : List Origin, es = l.map rOrigin.enc) := rfl
attribute [go_sem] tOriginS_enc tOriginS_dec tOriginS_ok
theorem rOrigin_sz : rOrigin.sz = 5 := rfl
attribute [go_sem] rOrigin_sz
attribute [go_sem] Origin_eta tOrigin_enc tOrigin_dec tOrigin_ok
structure OriginFit (u : Origin) : Prop where
  Scheme : Fit u.Scheme.length
  Host_Kind : R64 u.Host.Kind
  Host_Name : Fit u.Host.Name.length
  Host_Addr : R64 u.Host.Addr
  Port : R64 u.Port
def portF (u : Url) : Int := if u.Port < 0 then ownN u.Scheme else u.Port
def orig0 : Origin := ⟨[], ⟨0, [], 0⟩, 0⟩
def origF (u : Url) : Origin := if ownN u.Scheme < 0 then orig0 else ⟨u.Scheme, u.Host, portF u⟩
def sameF (a b : Url) : Bool := decide (0 ≤ ownN a.Scheme) && decide (origF a = origF b)
theorem orig_eq (a b : Origin) : (decide (a.Scheme = b.Scheme) && (decide (a.Host.Kind = b.Host.Kind) && (decide (a.Host.Name = b.Host.Name) && (decide (a.Host.Addr = b.Host.Addr) && (decide (a.Port = b.Port) && true))))) = decide (a = b) := by
  obtain ⟨s, ⟨k, n, d⟩, p⟩ := a
  obtain ⟨s', ⟨k', n', d'⟩, p'⟩ := b
  rw [Bool.eq_iff_iff]; simp [and_assoc]
def E144 : Env := { T := Tz.tab, G := Gl, C := [(113, ct113)], live := [(0, [1, 2]), (1, [1, 2, 7]), (2, [2]), (3, [1, 2, 3]), (4, [1, 2, 3, 12]), (5, [1, 2, 3]), (6, [2])] }
def ct144 : Ct := .scal (dom1 tUrl (fun u => True)) (fn1 tUrl fun u => [tOrigin.enc (origF u)])
attribute [go_sem] E144 ct144 Go.Proofs.Tryz.f144
theorem ok144 : CtOk Tryz.prog Gl 144 ct144 := okA1 (E := E144) (sound_of Tz.tab_ok Tz.mixed (AllOk.cons ok113 AllOk.nil)) rfl Tryz.func144 (by kernel_rfl) fun u fu hp => by
  have gu := fu
  have fu := fit_url fu
  refine vcFn_intro rfl rfl (by kernel_rfl) rfl ?_
  have h1 : origF u = if ownN u.Scheme < 0 then orig0 else ⟨u.Scheme, u.Host, portF u⟩ := rfl
  have h2 : portF u = if u.Port < 0 then ownN u.Scheme else u.Port := rfl
  by_cases h : ownN u.Scheme < 0
  · rw [if_pos h] at h1
    rw [h1]
    repeat (dsimp +instances only [go_sem, Nat.reduceBEq, Nat.reduceAdd, Nat.reduceSub, Nat.reduceLT, Nat.reduceLeDiff]; try simp only [bb, Nat.reduceAdd, Int.reduceToNat, Int.reduceLE, Int.reduceLT, Nat.reduceLT, Nat.reduceMul, Nat.reduceLeDiff])
    try simp only [nn, reduceCtorEq]
    exact ⟨fun _ => ⟨rfl, rfl, rfl, rfl, rfl⟩, fun h' => absurd h h'⟩
  · rw [if_neg h] at h1
    rw [h1]
    repeat (dsimp +instances only [go_sem, Nat.reduceBEq, Nat.reduceAdd, Nat.reduceSub, Nat.reduceLT, Nat.reduceLeDiff]; try simp only [bb, Nat.reduceAdd, Int.reduceToNat, Int.reduceLE, Int.reduceLT, Nat.reduceLT, Nat.reduceMul, Nat.reduceLeDiff])
    try simp only [nn, reduceCtorEq]
    grind
def E103 : Env := { T := Tz.tab, G := Gl, C := [(113, ct113), (144, ct144)], live := [(0, [2, 3]), (1, [4])] }
def ct103 : Ct := .scal (dom2 tUrl tUrl (fun a b => True)) (fn2 tUrl tUrl fun a b => [tBool.enc (sameF a b)])
attribute [go_sem] E103 ct103 Go.Proofs.Tryz.f103
theorem ok103 : CtOk Tryz.prog Gl 103 ct103 := okA2 (E := E103) (sound_of Tz.tab_ok Tz.mixed (AllOk.cons ok113 (AllOk.cons ok144 AllOk.nil))) rfl Tryz.func103 (by kernel_rfl) fun a b fa fb hp => by
  have ga := fa
  have fa := fit_url fa
  have gb := fb
  have fb := fit_url fb
  refine vcFn_intro rfl rfl (by kernel_rfl) rfl ?_
  have h1 := orig_eq (origF a) (origF b)
  have h2 : sameF a b = (decide (0 ≤ ownN a.Scheme) && decide (origF a = origF b)) := rfl
  repeat (dsimp +instances only [go_sem, Nat.reduceBEq, Nat.reduceAdd, Nat.reduceSub, Nat.reduceLT, Nat.reduceLeDiff]; try simp only [bb, Nat.reduceAdd, Int.reduceToNat, Int.reduceLE, Int.reduceLT, Nat.reduceLT, Nat.reduceMul, Nat.reduceLeDiff])
  try simp only [nn, reduceCtorEq]
  refine ⟨fun _ => rfl, ?_⟩
  rw [h2, h1]
def E186 : Env := { T := Tz.tab, G := Gl, C := [(125, ct125)], live := [(0, [1]), (1, [1, 7]), (2, [2]), (3, [3]), (4, [2])] }
def ct186 : Ct := .scal (dom1 tUrl (fun u => True)) (fn1 tUrl fun u => [tInt.enc (portF u)])
attribute [go_sem] E186 ct186 Go.Proofs.Tryz.f186
theorem ok186 : CtOk Tryz.prog Gl 186 ct186 := okA1 (E := E186) (sound_of Tz.tab_ok Tz.mixed (AllOk.cons ok125 AllOk.nil)) rfl Tryz.func186 (by kernel_rfl) fun u fu hp => by
  have gu := fu
  have fu := fit_url fu
  refine vcFn_intro rfl rfl (by kernel_rfl) rfl ?_
  have hp : portF u = if u.Port < 0 then ownN u.Scheme else u.Port := rfl
  repeat (dsimp +instances only [go_sem, Nat.reduceBEq, Nat.reduceAdd, Nat.reduceSub, Nat.reduceLT, Nat.reduceLeDiff]; try simp only [bb, Nat.reduceAdd, Int.reduceToNat, Int.reduceLE, Int.reduceLT, Nat.reduceLT, Nat.reduceMul, Nat.reduceLeDiff])
  try simp only [nn, reduceCtorEq]
  grind
def E146 : Env := { T := Tz.tab, G := Gl, C := [(117, ct117)], live := [(0, [2, 3]), (1, [4])] }
def ct146 : Ct := .scal (dom2 tUrl tUrl (fun a b => urlSz a ≤ 16777216 ∧ urlSz b ≤ 16777216)) (fn2 tUrl tUrl fun a b => [tBool.enc (urlOk a && urlOk b && !decide (a.Host.Kind = 0))])
attribute [go_sem] E146 ct146 Go.Proofs.Tryz.f146
theorem ok146 : CtOk Tryz.prog Gl 146 ct146 := okA2 (E := E146) (sound_of Tz.tab_ok Tz.mixed (AllOk.cons ok117 AllOk.nil)) rfl Tryz.func146 (by kernel_rfl) fun a b fa fb hp => by
  have ga := fa
  have fa := fit_url fa
  have gb := fb
  have fb := fit_url fb
  refine vcFn_intro rfl rfl (by kernel_rfl) rfl ?_
  repeat (dsimp +instances only [go_sem, Nat.reduceBEq, Nat.reduceAdd, Nat.reduceSub, Nat.reduceLT, Nat.reduceLeDiff]; try simp only [bb, Nat.reduceAdd, Int.reduceToNat, Int.reduceLE, Int.reduceLT, Nat.reduceLT, Nat.reduceMul, Nat.reduceLeDiff])
  try simp only [nn, reduceCtorEq]
  exact ⟨hp.1, fun _ => hp.2⟩
def E147 : Env := { T := Tz.tab, G := Gl, C := [(117, ct117), (186, ct186)], live := [(0, [1, 2]), (1, [1, 2, 11]), (2, [2]), (3, [2])] }
def ct147 : Ct := .scal (dom1 tUrl (fun u => urlSz u ≤ 16777216)) (fn1 tUrl fun u => [tOrigin.enc (if urlOk u = true then origF u else orig0)])
attribute [go_sem] E147 ct147 Go.Proofs.Tryz.f147
theorem ok147 : CtOk Tryz.prog Gl 147 ct147 := okA1 (E := E147) (sound_of Tz.tab_ok Tz.mixed (AllOk.cons ok117 (AllOk.cons ok186 AllOk.nil))) rfl Tryz.func147 (by kernel_rfl) fun u fu hp => by
  have gu := fu
  have fu := fit_url fu
  refine vcFn_intro rfl rfl (by kernel_rfl) rfl ?_
  have h1 : origF u = if ownN u.Scheme < 0 then orig0 else ⟨u.Scheme, u.Host, portF u⟩ := rfl
  by_cases ho : urlOk u = true
  · have hk := urlOk_own ho
    rw [if_pos ho]
    by_cases h : ownN u.Scheme < 0
    · rw [h1, if_pos h]
      repeat (dsimp +instances only [go_sem, Nat.reduceBEq, Nat.reduceAdd, Nat.reduceSub, Nat.reduceLT, Nat.reduceLeDiff]; try simp only [bb, Nat.reduceAdd, Int.reduceToNat, Int.reduceLE, Int.reduceLT, Nat.reduceLT, Nat.reduceMul, Nat.reduceLeDiff])
      try simp only [nn, reduceCtorEq]
      exact ⟨hp, fun _ => ⟨rfl, rfl, rfl, rfl, rfl⟩, fun h' => absurd (hk.2 h) h'.2⟩
    · rw [h1, if_neg h]
      repeat (dsimp +instances only [go_sem, Nat.reduceBEq, Nat.reduceAdd, Nat.reduceSub, Nat.reduceLT, Nat.reduceLeDiff]; try simp only [bb, Nat.reduceAdd, Int.reduceToNat, Int.reduceLE, Int.reduceLT, Nat.reduceLT, Nat.reduceMul, Nat.reduceLeDiff])
      try simp only [nn, reduceCtorEq]
      refine ⟨hp, fun h' => ?_⟩
      rcases h' with h' | h'
      · rw [ho] at h'; cases h'
      · exact absurd (hk.1 h') h
  · rw [if_neg ho]
    repeat (dsimp +instances only [go_sem, Nat.reduceBEq, Nat.reduceAdd, Nat.reduceSub, Nat.reduceLT, Nat.reduceLeDiff]; try simp only [bb, Nat.reduceAdd, Int.reduceToNat, Int.reduceLE, Int.reduceLT, Nat.reduceLT, Nat.reduceMul, Nat.reduceLeDiff])
    try simp only [nn, reduceCtorEq]
    exact ⟨hp, fun _ => ⟨rfl, rfl, rfl, rfl, rfl⟩, fun h' => absurd h'.1 ho⟩
def E107 : Env := { T := Tz.tab, G := Gl, C := [(146, ct146), (147, ct147)], live := [(0, [2, 3]), (1, [4])] }
def ct107 : Ct := .scal (dom2 tUrl tUrl (fun a b => urlSz a ≤ 16777216 ∧ urlSz b ≤ 16777216)) (fn2 tUrl tUrl fun a b => [tBool.enc (urlOk a && urlOk b && sameF a b)])
attribute [go_sem] E107 ct107 Go.Proofs.Tryz.f107
set_option maxHeartbeats 2000000 in
theorem ok107 : CtOk Tryz.prog Gl 107 ct107 := okA2 (E := E107) (sound_of Tz.tab_ok Tz.mixed (AllOk.cons ok146 (AllOk.cons ok147 AllOk.nil))) rfl Tryz.func107 (by kernel_rfl) fun a b fa fb hp => by
  have ga := fa
  have fa := fit_url fa
  have gb := fb
  have fb := fit_url fb
  refine vcFn_intro rfl rfl (by kernel_rfl) rfl ?_
  repeat (dsimp +instances only [go_sem, Nat.reduceBEq, Nat.reduceAdd, Nat.reduceSub, Nat.reduceLT, Nat.reduceLeDiff]; try simp only [bb, Nat.reduceAdd, Int.reduceToNat, Int.reduceLE, Int.reduceLT, Nat.reduceLT, Nat.reduceMul, Nat.reduceLeDiff])
  try simp only [nn, reduceCtorEq]
  refine ⟨hp, fun _ => hp.1, fun _ => hp.2, fun _ => rfl, ?_⟩
  rw [orig_eq]
  have h2 : sameF a b = (decide (0 ≤ ownN a.Scheme) && decide (origF a = origF b)) := rfl
  cases ho : urlOk a with
  | false => rfl
  | true =>
    cases hb : urlOk b with
    | false => rfl
    | true =>
      have hk := urlOk_own ho
      have h3 : (!decide (a.Host.Kind = 0)) = decide (0 ≤ ownN a.Scheme) := by
        by_cases h : a.Host.Kind = 0
        · rw [decide_eq_true h, decide_eq_false (by have := hk.1 h; omega)]; rfl
        · rw [decide_eq_false h, decide_eq_true (by have := fun h' => h (hk.2 h'); omega)]; rfl
      rw [h2, h3]; rfl
end Go.Gx
end
section
namespace Go.Gx
open Go.Proofs
theorem loadPV_iptr0 {T : Tab} {G : Nat → List CV} {A : ASt} {t j : Nat} : loadPV T G A t (.iptr [] j) = (0 < T.size t ∧ j + T.size t ≤ 0, partPV (T.tk t) (T.size t) [] j) := rfl
attribute [go_sem] loadPV_iptr0
def E104 : Env := { T := Tz.tab, G := Gl, C := [(145, ct145)], live := [(0, [0]), (1, [0, 3]), (2, [0, 3, 4]), (3, [0, 3, 4, 9]), (4, [0, 3, 4]), (5, [0, 3, 4]), (6, [2])] }
def ct104 : Ct := .pure (dom1 tEntryS (fun l => True)) (fn1 tEntryS fun l => [tEntryS.enc l])
attribute [go_sem] E104 ct104 Go.Proofs.Tryz.f104
set_option maxHeartbeats 2000000 in
theorem ok104 : CtOk Tryz.prog Gl 104 ct104 := okA1 (E := E104) (sound_of Tz.tab_ok Tz.mixed (AllOk.cons ok145 AllOk.nil)) rfl Tryz.func104 (by kernel_rfl) fun l fl hp => by
  have gl := fl
  have fl := fit_list fl
  refine vcFn_intro rfl rfl (by kernel_rfl) rfl ?_
  repeat (dsimp +instances only [go_sem, Nat.reduceBEq, Nat.reduceAdd, Nat.reduceSub, Nat.reduceLT, Nat.reduceLeDiff]; try simp only [bb, Nat.reduceAdd, Int.reduceToNat, Int.reduceLE, Int.reduceLT, Nat.reduceLT, Nat.reduceMul, Nat.reduceLeDiff])
  try simp only [nn, reduceCtorEq]
  refine vcC_loop [0, 3, 4] (fun (i : Nat) => i ≤ l.length) (fun i => [.cv (.sl 17 (l.map rEntry.enc)), .pth 0 17 0 (l.take i).length, .cv (.int .i64 i)]) (fun i => [.row 17 ((l.take i).map rEntry.enc) []]) (fun i => l.length - i) 0 (by simp) ⟨rfl, rfl⟩ ?_
  intro i hi
  rcases Nat.lt_or_ge i l.length with hlt | hge
  · have hg := getD_at rEntry hlt
    have htk := take_snoc hlt
    have htl : (l.take i).length = i := by rw [List.length_take]; omega
    generalize l[i] = e at *
    try dsimp +instances only [go_sem, Nat.reduceBEq, Nat.reduceAdd, Nat.reduceSub, Nat.reduceLT, Nat.reduceLeDiff]
    repeat (simp only [hg, rEntry_enc, Int.toNat_natCast, bb, Nat.reduceAdd, Int.reduceToNat, Int.reduceLE, Int.reduceLT, Nat.reduceLT, Nat.reduceMul, Nat.reduceLeDiff]; try dsimp +instances only [go_sem, Nat.reduceBEq, Nat.reduceAdd, Nat.reduceSub, Nat.reduceLT, Nat.reduceLeDiff])
    try simp only [nn, reduceCtorEq, hlt, decide_true]
    refine ⟨by unfold Fit at *; omega, by omega, nextL_intro (i + 1) (by omega) (by omega) ?_ ?_⟩
    · simp only [htk, List.length_append, List.length_cons, List.length_nil]; rfl
    · simp only [htk, List.map_append, List.map_cons, List.map_nil]; rfl
  · have : i = l.length := by omega
    subst this
    repeat (dsimp +instances only [go_sem, Nat.reduceBEq, Nat.reduceAdd, Nat.reduceSub, Nat.reduceLT, Nat.reduceLeDiff]; try simp only [bb, Nat.reduceAdd, Int.reduceToNat, Int.reduceLE, Int.reduceLT, Nat.reduceLT, Nat.reduceMul, Nat.reduceLeDiff])
    try simp only [nn, reduceCtorEq, Nat.lt_irrefl]
def E102 : Env := { T := Tz.tab, G := Gl, C := [(64, ct64), (80, ct80)], live := [(0, [0, 1]), (1, [0, 1, 7]), (2, [4]), (3, [4])] }
def ct102 : Ct := .scal (dom2 tEntryS tInt (fun l step => smallH l)) (fn2 tEntryS tInt fun l step => [tInt.enc (if histOk l = true then hatF l step else -1)])
attribute [go_sem] E102 ct102 Go.Proofs.Tryz.f102
theorem ok102 : CtOk Tryz.prog Gl 102 ct102 := okA2 (E := E102) (sound_of Tz.tab_ok Tz.mixed (AllOk.cons ok64 (AllOk.cons ok80 AllOk.nil))) rfl Tryz.func102 (by kernel_rfl) fun l step fl fstep hp => by
  have gl := fl
  have fl := fit_list fl
  have fstep := fit_int fstep
  refine vcFn_intro rfl rfl (by kernel_rfl) rfl ?_
  repeat (dsimp +instances only [go_sem, Nat.reduceBEq, Nat.reduceAdd, Nat.reduceSub, Nat.reduceLT, Nat.reduceLeDiff]; try simp only [bb, Nat.reduceAdd, Int.reduceToNat, Int.reduceLE, Int.reduceLT, Nat.reduceLT, Nat.reduceMul, Nat.reduceLeDiff])
  try simp only [nn, reduceCtorEq]
  exact ⟨hp, fun h => by rw [h]; simp, fun h => by rw [if_pos h]⟩
theorem sameF_comm (a b : Url) : sameF a b = sameF b a := by
  have key : ∀ x y : Url, 0 ≤ ownN x.Scheme → origF x = origF y → 0 ≤ ownN y.Scheme := fun x y h1 h2 => by
    rcases Int.lt_or_le (ownN y.Scheme) 0 with h | h
    · unfold origF at h2
      rw [if_neg (by omega), if_pos h] at h2
      have h3 : x.Scheme = [] := congrArg Origin.Scheme h2
      rw [h3] at h1
      simp [ownN] at h1
    · exact h
  unfold sameF
  rw [Bool.eq_iff_iff]
  simp only [Bool.and_eq_true, decide_eq_true_iff]
  exact ⟨fun ⟨h1, h2⟩ => ⟨key a b h1 h2, h2.symm⟩, fun ⟨h1, h2⟩ => ⟨key b a h1 h2, h2.symm⟩⟩
def fromG (l : List Entry) (k : Nat) : Nat → Nat
  | 0 => 0
  | m + 1 => if sameF (l.getD m default).Url (l.getD k default).Url = true then fromG l k m else m + 1
def toG (l : List Entry) (k : Nat) : Nat → Nat → Nat
  | 0, t => t
  | n + 1, t => if t + 1 < l.length ∧ sameF (l.getD (t + 1) default).Url (l.getD k default).Url = true then toG l k n (t + 1) else t
theorem fromG_le (l : List Entry) (k : Nat) : ∀ m, fromG l k m ≤ m
  | 0 => Nat.le_refl 0
  | m + 1 => by rw [fromG]; split; have := fromG_le l k m; omega; omega
theorem toG_lt (l : List Entry) (k : Nat) : ∀ n t, t < l.length → t ≤ toG l k n t ∧ toG l k n t < l.length
  | 0, t, h => ⟨Nat.le_refl _, h⟩
  | n + 1, t, h => by
    rw [toG]; split
    · rename_i hc; have := toG_lt l k n (t + 1) hc.1; omega
    · exact ⟨Nat.le_refl _, h⟩
def nearF (l : List Entry) (step : Int) : List Entry × Int :=
  if hatF l step < 0 then ([], -1) else
  ((l.take (toG l (hatF l step).toNat l.length (hatF l step).toNat + 1)).drop (fromG l (hatF l step).toNat (hatF l step).toNat), hatF l step - fromG l (hatF l step).toNat (hatF l step).toNat)
theorem histGo_ent : ∀ {l : List Entry} {ks : List Int} {x : Int}, histGo ks x l = true → ∀ e ∈ l, entOk e = true
  | [], _, _, _, e, he => by simp at he
  | a :: r, ks, x, h, e, he => by
    simp only [histGo, Bool.and_eq_true] at h
    rcases List.mem_cons.1 he with rfl | he
    · exact h.1.1.2
    · exact histGo_ent h.2 e he
theorem histOk_ent {l : List Entry} (h : histOk l = true) : ∀ e ∈ l, entOk e = true := by
  unfold histOk at h; rw [Bool.and_eq_true] at h; exact histGo_ent h.1
theorem entOk_url {e : Entry} (h : entOk e = true) : urlOk e.Url = true := by
  unfold entOk at h; simp only [Bool.and_eq_true] at h; exact h.1.1.1.2
theorem nearF_neg {l : List Entry} {step : Int} (h : hatF l step < 0) : nearF l step = ([], -1) := if_pos h
theorem nearF_at {l : List Entry} {step : Int} {k : Nat} (h : hatF l step = k) : nearF l step = ((l.take (toG l k l.length k + 1)).drop (fromG l k k), (k : Int) - fromG l k k) := by
  unfold nearF; rw [h, if_neg (by omega), Int.toNat_natCast]
theorem toG_step {l : List Entry} {k n t : Nat} (h1 : n + t = l.length + k) (h2 : k ≤ t) (h3 : t < l.length) : toG l k n t = if t + 1 < l.length ∧ sameF (l.getD (t + 1) default).Url (l.getD k default).Url = true then toG l k (n - 1) (t + 1) else t := by
  obtain ⟨m, rfl⟩ : ∃ m, n = m + 1 := ⟨n - 1, by omega⟩
  rw [toG]; rfl
theorem fromG_step {l : List Entry} {k f : Nat} (h : 0 < f) : fromG l k f = if sameF (l.getD (f - 1) default).Url (l.getD k default).Url = true then fromG l k (f - 1) else f := by
  obtain ⟨m, rfl⟩ : ∃ m, f = m + 1 := ⟨f - 1, by omega⟩
  rw [fromG]; rfl
def E53 : Env := { T := Tz.tab, G := Gl, C := [(102, ct102), (103, ct103), (104, ct104)], live := [(0, [0, 1]), (1, [0, 6]), (2, [0, 6, 13]), (3, [4, 5]), (4, [0, 6, 7]), (5, [0, 6, 7, 31]), (6, [0, 6, 7]), (7, [0, 6, 7, 8]), (8, [0, 6, 7, 8, 53]), (9, [0, 6, 7, 8]), (10, [4, 5])] }
def ct53 : Ct := .pure (dom2 tEntryS tInt (fun l step => smallH l ∧ histOk l = true)) (fn2 tEntryS tInt fun l step => [tEntryS.enc (nearF l step).1, tInt.enc (nearF l step).2])
attribute [go_sem] E53 ct53 Go.Proofs.Tryz.f53
set_option maxHeartbeats 4000000 in
theorem ok53 : CtOk Tryz.prog Gl 53 ct53 := okA2 (E := E53) (sound_of Tz.tab_ok Tz.mixed (AllOk.cons ok102 (AllOk.cons ok103 (AllOk.cons ok104 AllOk.nil)))) rfl Tryz.func53 (by kernel_rfl) fun l step fl fstep hp => by
  have gl := fl
  have fl := fit_list fl
  have fstep := fit_int fstep
  refine vcFn_intro rfl rfl (by kernel_rfl) rfl ?_
  obtain ⟨hsm, hho⟩ := hp
  have hh := hatF_lt l step
  rcases Int.lt_or_le (hatF l step) 0 with hz | hz
  · rw [nearF_neg hz]
    try dsimp +instances only [go_sem, Nat.reduceBEq, Nat.reduceAdd, Nat.reduceSub, Nat.reduceLT, Nat.reduceLeDiff]
    repeat (simp only [hho, if_true, bb, Nat.reduceAdd, Int.reduceToNat, Int.reduceLE, Int.reduceLT, Nat.reduceLT, Nat.reduceMul, Nat.reduceLeDiff]; try dsimp +instances only [go_sem, Nat.reduceBEq, Nat.reduceAdd, Nat.reduceSub, Nat.reduceLT, Nat.reduceLeDiff])
    try simp only [nn, reduceCtorEq, hz, decide_true]
    exact hsm
  · obtain ⟨k, hk⟩ : ∃ k : Nat, hatF l step = k := ⟨(hatF l step).toNat, by omega⟩
    have hkl : k < l.length := by omega
    have hgk := getD_at rEntry hkl
    have hdk := getD_lt (d := default) hkl
    rw [nearF_at hk]
    have hF := fromG_le l k k
    have hT := toG_lt l k l.length k hkl
    have hfs : ∀ f, 0 < f → _ := fun f h => fromG_step (l := l) (k := k) (f := f) h
    have hts : ∀ n t, _ → _ → _ → _ := fun n t h1 h2 h3 => toG_step (l := l) (k := k) (n := n) (t := t) h1 h2 h3
    simp only [hdk] at hfs hts
    generalize hFe : fromG l k k = F at *
    generalize hTe : toG l k l.length k = T at *
    generalize l[k] = ek at *
    try dsimp +instances only [go_sem, Nat.reduceBEq, Nat.reduceAdd, Nat.reduceSub, Nat.reduceLT, Nat.reduceLeDiff]
    repeat (simp only [hho, if_true, hk, bb, Nat.reduceAdd, Int.reduceToNat, Int.reduceLE, Int.reduceLT, Nat.reduceLT, Nat.reduceMul, Nat.reduceLeDiff]; try dsimp +instances only [go_sem, Nat.reduceBEq, Nat.reduceAdd, Nat.reduceSub, Nat.reduceLT, Nat.reduceLeDiff])
    try simp only [nn, reduceCtorEq]
    refine ⟨hsm, fun h => absurd h (by omega), fun _ => ?_⟩
    refine vcC_loop [0, 6, 7] (fun (f : Nat) => f ≤ k ∧ fromG l k f = F) (fun f => [.cv (.sl 17 (l.map rEntry.enc)), .cv (.int .i64 k), .cv (.int .i64 f)]) (fun _ => []) (fun f => f) k ⟨Nat.le_refl k, hFe⟩ ⟨rfl, rfl⟩ ?_
    rintro f ⟨hf, he⟩
    have h1 : f - 1 < l.length := by omega
    have hg := getD_at rEntry h1
    have hd := getD_lt (d := default) h1
    have hfs := hfs f
    rw [hd, he] at hfs
    generalize l[f - 1] = e at *
    try dsimp +instances only [go_sem, Nat.reduceBEq, Nat.reduceAdd, Nat.reduceSub, Nat.reduceLT, Nat.reduceLeDiff]
    repeat (simp only [hg, hgk, rEntry_enc, Int.toNat_natCast, bb, Nat.reduceAdd, Int.reduceToNat, Int.reduceLE, Int.reduceLT, Nat.reduceLT, Nat.reduceMul, Nat.reduceLeDiff]; try dsimp +instances only [go_sem, Nat.reduceBEq, Nat.reduceAdd, Nat.reduceSub, Nat.reduceLT, Nat.reduceLeDiff])
    try simp only [nn, reduceCtorEq]
    have hex : (¬ 0 < (f : Int) ∨ sameF e.Url ek.Url = false) → f = F := fun h => by
      rcases Nat.eq_zero_or_pos f with h0 | h0
      · subst h0; exact he
      · have hs := hfs h0
        rw [if_neg (by rcases h with h | h; omega; simp [h])] at hs
        exact hs.symm
    refine ⟨fun _ => by omega, fun _ => by omega, fun _ => hkl, fun h => ⟨by omega, ?_⟩, fun h => ?_⟩
    · have hs := hfs (by omega)
      rw [if_pos h.2] at hs
      have e : (((f - 1 : Nat)) : Int) = (f : Int) - 1 := by omega
      exact nextL_intro (f - 1) ⟨by omega, hs.symm⟩ (by omega) (by simp only [e]) rfl
    have hfF := hex h
    subst hfF
    refine vcC_loop [0, 6, 7, 8] (fun (t : Nat) => k ≤ t ∧ t < l.length ∧ toG l k (l.length + k - t) t = T) (fun t => [.cv (.sl 17 (l.map rEntry.enc)), .cv (.int .i64 k), .cv (.int .i64 f), .cv (.int .i64 t)]) (fun _ => []) (fun t => l.length - t) k ⟨Nat.le_refl k, hkl, by rw [Nat.add_sub_cancel]; exact hTe⟩ ⟨rfl, rfl⟩ ?_
    rintro t ⟨ht, htl, he2⟩
    have hts2 := hts (l.length + k - t) t (by omega) ht htl
    rw [he2] at hts2
    rcases Nat.lt_or_ge (t + 1) l.length with h2 | h2
    · have hg2 := getD_at rEntry h2
      have hd2 := getD_lt (d := default) h2
      rw [hd2] at hts2
      generalize l[t + 1] = e2 at *
      try dsimp +instances only [go_sem, Nat.reduceBEq, Nat.reduceAdd, Nat.reduceSub, Nat.reduceLT, Nat.reduceLeDiff]
      repeat (simp only [hg2, hgk, rEntry_enc, Int.toNat_natCast, bb, Nat.reduceAdd, Int.reduceToNat, Int.reduceLE, Int.reduceLT, Nat.reduceLT, Nat.reduceMul, Nat.reduceLeDiff]; try dsimp +instances only [go_sem, Nat.reduceBEq, Nat.reduceAdd, Nat.reduceSub, Nat.reduceLT, Nat.reduceLeDiff])
      try simp only [nn, reduceCtorEq]
      have hrest : ∀ q, q = T → (List.drop f (List.take (q + 1) (List.map rEntry.enc l))) = List.map rEntry.enc (List.drop f (List.take (T + 1) l)) := fun q hq => by
        rw [hq, ← List.map_take, ← List.map_drop]
      refine ⟨by omega, fun _ => by omega, fun _ => by omega, fun _ => hkl, fun h => ⟨by omega, ?_⟩, fun h => ?_⟩
      · rw [if_pos ⟨h2, h.2⟩] at hts2
        refine nextL_intro (t + 1) ⟨by omega, h2, ?_⟩ (by omega) rfl rfl
        rw [hts2]; congr 1
      · rw [if_neg (by rcases h with h | h; omega; simp [h])] at hts2
        have hl := hrest t hts2.symm
        rw [hl]
        refine ⟨by omega, by omega, ⟨_, rfl⟩, by omega, ?_⟩
        rw [Rw.map_dec, List.length_map]; exact List.take_of_length_le (by simp)
    · have hte : t + 1 = l.length := by omega
      have hz2 : (l.map rEntry.enc).getD (t + 1) [] = [] := by rw [List.getD_eq_getElem?_getD, List.getElem?_eq_none (by simp; omega)]; rfl
      rw [if_neg (by omega)] at hts2
      try dsimp +instances only [go_sem, Nat.reduceBEq, Nat.reduceAdd, Nat.reduceSub, Nat.reduceLT, Nat.reduceLeDiff]
      repeat (simp only [hz2, hgk, rEntry_enc, Int.toNat_natCast, bb, Nat.reduceAdd, Int.reduceToNat, Int.reduceLE, Int.reduceLT, Nat.reduceLT, Nat.reduceMul, Nat.reduceLeDiff]; try dsimp +instances only [go_sem, Nat.reduceBEq, Nat.reduceAdd, Nat.reduceSub, Nat.reduceLT, Nat.reduceLeDiff])
      try simp only [nn, reduceCtorEq]
      have hrest : ∀ q, q = T → (List.drop f (List.take (q + 1) (List.map rEntry.enc l))) = List.map rEntry.enc (List.drop f (List.take (T + 1) l)) := fun q hq => by
        rw [hq, ← List.map_take, ← List.map_drop]
      have hl := hrest t hts2.symm
      refine ⟨by omega, fun h => absurd h (by omega), fun h => absurd h (by omega), fun h => absurd h (by omega), fun h => absurd h (by omega), fun h => absurd h (by omega), fun h => absurd h.1 (by omega), fun _ => ?_⟩
      rw [hl]
      refine ⟨by omega, by omega, ⟨_, rfl⟩, by omega, ?_⟩
      rw [Rw.map_dec, List.length_map]; exact List.take_of_length_le (by simp)
def E55 : Env := { T := Tz.tab, G := Gl, C := [(106, ct106), (107, ct107), (108, ct108)], live := [(0, [0, 1]), (1, [0, 6]), (2, [0, 6, 13]), (3, [4, 5]), (4, [0, 6, 7, 8]), (5, [0, 6, 7, 8, 31]), (6, [0, 6, 7, 8]), (7, [0, 6, 7, 8, 52]), (8, [0, 6, 7, 8]), (9, [4, 5])] }
def ct55 : Ct := .pure (dom2 tEntryS tInt (fun l step => smallH l ∧ histOk l = true)) (fn2 tEntryS tInt fun l step => [tEntryS.enc (nearF l step).1, tInt.enc (nearF l step).2])
attribute [go_sem] E55 ct55 Go.Proofs.Tryz.f55
set_option maxHeartbeats 4000000 in
theorem ok55 : CtOk Tryz.prog Gl 55 ct55 := okA2 (E := E55) (sound_of Tz.tab_ok Tz.mixed (AllOk.cons ok106 (AllOk.cons ok107 (AllOk.cons ok108 AllOk.nil)))) rfl Tryz.func55 (by kernel_rfl) fun l step fl fstep hp => by
  have gl := fl
  have fl := fit_list fl
  have fstep := fit_int fstep
  refine vcFn_intro rfl rfl (by kernel_rfl) rfl ?_
  obtain ⟨hsm, hho⟩ := hp
  have hue := fun e he => entOk_url (histOk_ent hho e he)
  have hh := hatF_lt l step
  rcases Int.lt_or_le (hatF l step) 0 with hz | hz
  · rw [nearF_neg hz]
    try dsimp +instances only [go_sem, Nat.reduceBEq, Nat.reduceAdd, Nat.reduceSub, Nat.reduceLT, Nat.reduceLeDiff]
    repeat (simp only [hz, bb, Nat.reduceAdd, Int.reduceToNat, Int.reduceLE, Int.reduceLT, Nat.reduceLT, Nat.reduceMul, Nat.reduceLeDiff]; try dsimp +instances only [go_sem, Nat.reduceBEq, Nat.reduceAdd, Nat.reduceSub, Nat.reduceLT, Nat.reduceLeDiff])
    try simp only [nn, reduceCtorEq, hz, decide_true]
  · obtain ⟨k, hk⟩ : ∃ k : Nat, hatF l step = k := ⟨(hatF l step).toNat, by omega⟩
    have hkl : k < l.length := by omega
    have hgk := getD_at rEntry hkl
    have hdk := getD_lt (d := default) hkl
    have huk := hue _ (List.getElem_mem hkl)
    have hsk := hsm _ (List.getElem_mem hkl)
    rw [nearF_at hk]
    have hF := fromG_le l k k
    have hT := toG_lt l k l.length k hkl
    have hfs : ∀ f, 0 < f → _ := fun f h => fromG_step (l := l) (k := k) (f := f) h
    have hts : ∀ n t, _ → _ → _ → _ := fun n t h1 h2 h3 => toG_step (l := l) (k := k) (n := n) (t := t) h1 h2 h3
    simp only [hdk] at hfs hts
    generalize hFe : fromG l k k = F at *
    generalize hTe : toG l k l.length k = T at *
    generalize l[k] = ek at *
    try dsimp +instances only [go_sem, Nat.reduceBEq, Nat.reduceAdd, Nat.reduceSub, Nat.reduceLT, Nat.reduceLeDiff]
    repeat (simp only [hk, bb, Nat.reduceAdd, Int.reduceToNat, Int.reduceLE, Int.reduceLT, Nat.reduceLT, Nat.reduceMul, Nat.reduceLeDiff]; try dsimp +instances only [go_sem, Nat.reduceBEq, Nat.reduceAdd, Nat.reduceSub, Nat.reduceLT, Nat.reduceLeDiff])
    try simp only [nn, reduceCtorEq]
    refine ⟨fun h => absurd h (by omega), fun _ => ?_⟩
    refine vcC_loop [0, 6, 7, 8] (fun (f : Nat) => f ≤ k ∧ fromG l k f = F) (fun f => [.cv (.sl 17 (l.map rEntry.enc)), .cv (.int .i64 k), .cv (.int .i64 f), .cv (.int .i64 k)]) (fun _ => []) (fun f => f) k ⟨Nat.le_refl k, hFe⟩ ⟨rfl, rfl⟩ ?_
    rintro f ⟨hf, he⟩
    have h1 : f - 1 < l.length := by omega
    have hg := getD_at rEntry h1
    have hd := getD_lt (d := default) h1
    have hue1 := hue _ (List.getElem_mem h1)
    have hse1 := hsm _ (List.getElem_mem h1)
    have hfs := hfs f
    rw [hd, he] at hfs
    generalize l[f - 1] = e at *
    try dsimp +instances only [go_sem, Nat.reduceBEq, Nat.reduceAdd, Nat.reduceSub, Nat.reduceLT, Nat.reduceLeDiff]
    repeat (simp only [hg, hgk, rEntry_enc, Int.toNat_natCast, bb, Nat.reduceAdd, Int.reduceToNat, Int.reduceLE, Int.reduceLT, Nat.reduceLT, Nat.reduceMul, Nat.reduceLeDiff]; try dsimp +instances only [go_sem, Nat.reduceBEq, Nat.reduceAdd, Nat.reduceSub, Nat.reduceLT, Nat.reduceLeDiff])
    try simp only [nn, reduceCtorEq]
    rw [sameF_comm] at hfs
    have hex : (¬ 0 < (f : Int) ∨ (urlOk ek.Url = false ∨ urlOk e.Url = false) ∨ sameF ek.Url e.Url = false) → f = F := fun h => by
      rcases Nat.eq_zero_or_pos f with h0 | h0
      · subst h0; exact he
      · have hs := hfs h0
        rw [if_neg (by rcases h with h | h | h; omega; (rw [huk, hue1] at h; simp at h); simp [h])] at hs
        exact hs.symm
    refine ⟨fun _ => hkl, fun _ => by omega, fun _ => by omega, fun _ => ⟨hsk, hse1⟩, fun h => ⟨by omega, ?_⟩, fun h => ?_⟩
    · have hs := hfs (by omega)
      rw [if_pos h.2.2] at hs
      have e : (((f - 1 : Nat)) : Int) = (f : Int) - 1 := by omega
      exact nextL_intro (f - 1) ⟨by omega, hs.symm⟩ (by omega) (by simp only [e]) rfl
    have hfF := hex h
    subst hfF
    refine vcC_loop [0, 6, 7, 8] (fun (t : Nat) => k ≤ t ∧ t < l.length ∧ toG l k (l.length + k - t) t = T) (fun t => [.cv (.sl 17 (l.map rEntry.enc)), .cv (.int .i64 k), .cv (.int .i64 f), .cv (.int .i64 t)]) (fun _ => []) (fun t => l.length - t) k ⟨Nat.le_refl k, hkl, by rw [Nat.add_sub_cancel]; exact hTe⟩ ⟨rfl, rfl⟩ ?_
    rintro t ⟨ht, htl, he2⟩
    have hts2 := hts (l.length + k - t) t (by omega) ht htl
    rw [he2] at hts2
    rcases Nat.lt_or_ge (t + 1) l.length with h2 | h2
    · have hg2 := getD_at rEntry h2
      have hd2 := getD_lt (d := default) h2
      have hue2 := hue _ (List.getElem_mem h2)
      have hse2 := hsm _ (List.getElem_mem h2)
      rw [hd2] at hts2
      generalize l[t + 1] = e2 at *
      try dsimp +instances only [go_sem, Nat.reduceBEq, Nat.reduceAdd, Nat.reduceSub, Nat.reduceLT, Nat.reduceLeDiff]
      repeat (simp only [hg2, hgk, rEntry_enc, Int.toNat_natCast, bb, Nat.reduceAdd, Int.reduceToNat, Int.reduceLE, Int.reduceLT, Nat.reduceLT, Nat.reduceMul, Nat.reduceLeDiff]; try dsimp +instances only [go_sem, Nat.reduceBEq, Nat.reduceAdd, Nat.reduceSub, Nat.reduceLT, Nat.reduceLeDiff])
      try simp only [nn, reduceCtorEq]
      have hrest : ∀ q, q = T → (List.drop f (List.take (q + 1) (List.map rEntry.enc l))) = List.map rEntry.enc (List.drop f (List.take (T + 1) l)) := fun q hq => by
        rw [hq, ← List.map_take, ← List.map_drop]
      rw [sameF_comm] at hts2
      refine ⟨by omega, fun _ => hkl, fun _ => by omega, fun _ => by omega, fun _ => ⟨hsk, hse2⟩, fun h => ⟨by omega, ?_⟩, fun h => ?_⟩
      · rw [if_pos ⟨h2, h.2.2⟩] at hts2
        refine nextL_intro (t + 1) ⟨by omega, h2, ?_⟩ (by omega) rfl rfl
        rw [hts2]; congr 1
      · rw [if_neg (by rcases h with h | h | h; omega; (rw [huk, hue2] at h; simp at h); simp [h])] at hts2
        have hl := hrest t hts2.symm
        rw [hl]
        refine ⟨by omega, by omega, ⟨_, rfl⟩, by omega, ?_⟩
        rw [Rw.map_dec, List.length_map]; exact List.take_of_length_le (by simp)
    · have hte : t + 1 = l.length := by omega
      have hz2 : (l.map rEntry.enc).getD (t + 1) [] = [] := by rw [List.getD_eq_getElem?_getD, List.getElem?_eq_none (by simp; omega)]; rfl
      rw [if_neg (by omega)] at hts2
      try dsimp +instances only [go_sem, Nat.reduceBEq, Nat.reduceAdd, Nat.reduceSub, Nat.reduceLT, Nat.reduceLeDiff]
      repeat (simp only [hz2, hgk, rEntry_enc, Int.toNat_natCast, bb, Nat.reduceAdd, Int.reduceToNat, Int.reduceLE, Int.reduceLT, Nat.reduceLT, Nat.reduceMul, Nat.reduceLeDiff]; try dsimp +instances only [go_sem, Nat.reduceBEq, Nat.reduceAdd, Nat.reduceSub, Nat.reduceLT, Nat.reduceLeDiff])
      try simp only [nn, reduceCtorEq]
      have hrest : ∀ q, q = T → (List.drop f (List.take (q + 1) (List.map rEntry.enc l))) = List.map rEntry.enc (List.drop f (List.take (T + 1) l)) := fun q hq => by
        rw [hq, ← List.map_take, ← List.map_drop]
      have hl := hrest t hts2.symm
      refine ⟨by omega, fun h => absurd h (by omega), fun h => absurd h (by omega), fun h => absurd h (by omega), fun h => absurd h (by omega), fun h => absurd h (by omega), fun h => absurd h.1 (by omega), fun _ => ?_⟩
      rw [hl]
      refine ⟨by omega, by omega, ⟨_, rfl⟩, by omega, ?_⟩
      rw [Rw.map_dec, List.length_map]; exact List.take_of_length_le (by simp)
def winNearF (w : Window) (f : Int) : List Entry × Int := if okLive w f = true then nearF (frA w f).Hist w.Step else ([], -1)
def E19 : Env := { T := Tz.tab, G := Gl, C := [(26, ct26), (52, ct52), (53, ct53)], live := [(0, [1, 2]), (1, [1, 2, 14]), (2, [4, 5]), (3, [4, 5])] }
def ct19 : Ct := .pure (dom2 tWindow tInt (fun w f => smallW w)) (fn2 tWindow tInt fun w f => [tEntryS.enc (winNearF w f).1, tInt.enc (winNearF w f).2])
attribute [go_sem] E19 ct19 Go.Proofs.Tryz.f19
set_option maxHeartbeats 2000000 in
theorem ok19 : CtOk Tryz.prog Gl 19 ct19 := okA2 (E := E19) (sound_of Tz.tab_ok Tz.mixed (AllOk.cons ok26 (AllOk.cons ok52 (AllOk.cons ok53 AllOk.nil)))) rfl Tryz.func19 (by kernel_rfl) fun w f fw ff hp => by
  have gw := fw
  have fw := fit_window fw
  have ff := fit_int ff
  refine vcFn_intro rfl rfl (by kernel_rfl) rfl ?_
  have fF := (WindowFit.Frames (fit_window gw)).1
  have fH : ∀ f ∈ w.Frames, Fit f.Hist.length := fun f hf => (FrameFit_el (WindowFit.Frames (fit_window gw)).2 hf).Hist.1
  have hT : winOk w = true → WTree w := fun h => ((winOk_iff w).1 h).tree
  have hO : okLive w f = (winOk w && (decide (0 ≤ f ∧ f < w.Frames.length) && liveF w w.Step 3 f)) := rfl
  by_cases ho : okLive w f = true
  · have e : winNearF w f = nearF (frA w f).Hist w.Step := if_pos ho
    have hf : 0 ≤ f ∧ f < w.Frames.length := by
      unfold okLive at ho; simp only [Bool.and_eq_true, decide_eq_true_iff] at ho; exact ho.2.1
    obtain ⟨k, rfl⟩ : ∃ k : Nat, f = k := ⟨f.toNat, by omega⟩
    have hlt : k < w.Frames.length := by omega
    have hg := getD_at rFrame hlt
    rw [ho] at hO
    simp only [Bool.true_eq, Bool.and_eq_true] at hO
    have hfr := ((winOk_iff w).1 hO.1).fr k hlt
    have hsm := hp _ (List.getElem_mem hlt)
    rw [e, frA_eq w k hlt]
    generalize w.Frames[k] = g at *
    try dsimp +instances only [go_sem, Nat.reduceBEq, Nat.reduceAdd, Nat.reduceSub, Nat.reduceLT, Nat.reduceLeDiff]
    repeat (simp only [hg, rFrame_enc, Int.toNat_natCast, bb, Nat.reduceAdd, Int.reduceToNat, Int.reduceLE, Int.reduceLT, Nat.reduceLT, Nat.reduceMul, Nat.reduceLeDiff]; try dsimp +instances only [go_sem, Nat.reduceBEq, Nat.reduceAdd, Nat.reduceSub, Nat.reduceLT, Nat.reduceLeDiff])
    try simp only [nn, reduceCtorEq, hlt, decide_true]
    refine ⟨hp, hT, fun h => ?_, fun _ => ⟨hsm, hfr.1⟩⟩
    rcases h with h | h <;> simp [hO.1, hO.2.2] at h
  · have e : winNearF w f = ([], -1) := if_neg ho
    rw [e]
    repeat (dsimp +instances only [go_sem, Nat.reduceBEq, Nat.reduceAdd, Nat.reduceSub, Nat.reduceLT, Nat.reduceLeDiff]; try simp only [bb, Nat.reduceAdd, Int.reduceToNat, Int.reduceLE, Int.reduceLT, Nat.reduceLT, Nat.reduceMul, Nat.reduceLeDiff])
    try simp only [nn, reduceCtorEq]
    refine ⟨hp, hT, fun h => absurd ?_ ho⟩
    rw [hO, h.1, decide_eq_true h.2.1, h.2.2]; rfl
def E20 : Env := { T := Tz.tab, G := Gl, C := [(29, ct29), (54, ct54), (55, ct55)], live := [(0, [1, 2]), (1, [1, 2, 14]), (2, [4, 5]), (3, [4, 5])] }
def ct20 : Ct := .pure (dom2 tWindow tInt (fun w f => smallW w)) (fn2 tWindow tInt fun w f => [tEntryS.enc (winNearF w f).1, tInt.enc (winNearF w f).2])
attribute [go_sem] E20 ct20 Go.Proofs.Tryz.f20
set_option maxHeartbeats 2000000 in
theorem ok20 : CtOk Tryz.prog Gl 20 ct20 := okA2 (E := E20) (sound_of Tz.tab_ok Tz.mixed (AllOk.cons ok29 (AllOk.cons ok54 (AllOk.cons ok55 AllOk.nil)))) rfl Tryz.func20 (by kernel_rfl) fun w f fw ff hp => by
  have gw := fw
  have fw := fit_window fw
  have ff := fit_int ff
  refine vcFn_intro rfl rfl (by kernel_rfl) rfl ?_
  have hT : winOk w = true → WTree w := fun h => ((winOk_iff w).1 h).tree
  have hO : okLive w f = (winOk w && (decide (0 ≤ f ∧ f < w.Frames.length) && liveF w w.Step 3 f)) := rfl
  by_cases ho : okLive w f = true
  · have e : winNearF w f = nearF (frA w f).Hist w.Step := if_pos ho
    have hf : 0 ≤ f ∧ f < w.Frames.length := by
      unfold okLive at ho; simp only [Bool.and_eq_true, decide_eq_true_iff] at ho; exact ho.2.1
    obtain ⟨k, rfl⟩ : ∃ k : Nat, f = k := ⟨f.toNat, by omega⟩
    have hlt : k < w.Frames.length := by omega
    have hg := getD_at rFrame hlt
    rw [ho] at hO
    simp only [Bool.true_eq, Bool.and_eq_true] at hO
    have hfr := ((winOk_iff w).1 hO.1).fr k hlt
    have hsm := hp _ (List.getElem_mem hlt)
    rw [e, frA_eq w k hlt]
    generalize w.Frames[k] = g at *
    try dsimp +instances only [go_sem, Nat.reduceBEq, Nat.reduceAdd, Nat.reduceSub, Nat.reduceLT, Nat.reduceLeDiff]
    repeat (simp only [hg, rFrame_enc, Int.toNat_natCast, bb, Nat.reduceAdd, Int.reduceToNat, Int.reduceLE, Int.reduceLT, Nat.reduceLT, Nat.reduceMul, Nat.reduceLeDiff]; try dsimp +instances only [go_sem, Nat.reduceBEq, Nat.reduceAdd, Nat.reduceSub, Nat.reduceLT, Nat.reduceLeDiff])
    try simp only [nn, reduceCtorEq, hlt, decide_true]
    refine ⟨hp, hT, fun h => ?_, fun _ => ⟨hsm, hfr.1⟩⟩
    rcases h with h | h <;> simp [hO.1, hO.2.2] at h
  · have e : winNearF w f = ([], -1) := if_neg ho
    rw [e]
    repeat (dsimp +instances only [go_sem, Nat.reduceBEq, Nat.reduceAdd, Nat.reduceSub, Nat.reduceLT, Nat.reduceLeDiff]; try simp only [bb, Nat.reduceAdd, Int.reduceToNat, Int.reduceLE, Int.reduceLT, Nat.reduceLT, Nat.reduceMul, Nat.reduceLeDiff])
    try simp only [nn, reduceCtorEq]
    refine ⟨hp, hT, fun h => absurd ?_ ho⟩
    rw [hO, h.1, decide_eq_true h.2.1, h.2.2]; rfl
end Go.Gx
end
section
namespace Go.Gx
open Go.Proofs
theorem urlSz_C (u : Url) : (urlSz u : Int) = urlC u := by
  unfold urlSz urlC; rw [pathPut_len]; omega
theorem small_of_winC {w : Window} (h : winC w ≤ 1048576) : smallW w := by
  intro f hf e he
  have h1 := sumF_mem w.Frames f hf
  have h2 := sumE_mem f.Hist e he
  have h3 := urlSz_C e.Url
  unfold winC at h
  unfold frmC at h1
  unfold entC at h2
  omega
theorem cntE_C : ∀ l : List Entry, (cntEntries l : Int) ≤ 17 * (l.length + sumE l)
  | [] => by simp [cntEntries, sumE]
  | e :: r => by
    have h := cntE_C r
    have h2 := urlC_nn e.Url
    have h3 : (e.Url.Path.length : Int) ≤ urlC e.Url := by unfold urlC; omega
    simp only [cntEntries, sumE, entC, List.length_cons] at *
    omega
theorem cntF_C : ∀ l : List Frame, (cntFrames l : Int) ≤ 20 * (l.length + sumF l)
  | [] => by simp [cntFrames, sumF]
  | f :: r => by
    have h := cntF_C r
    have h2 := cntE_C f.Hist
    have h3 := sumE_nn f.Hist
    simp only [cntFrames, sumF, frmC, List.length_cons] at *
    omega
end Go.Gx
end
section
namespace Go.Gx
open Go.Proofs
theorem cntE_app2 : ∀ a b : List Entry, cntEntries (a ++ b) = cntEntries a + cntEntries b
  | [], b => by simp [cntEntries]
  | e :: r, b => by simp only [List.cons_append, cntEntries, cntE_app2 r b]; omega
theorem cntE_take2 (l : List Entry) (n : Nat) : cntEntries (l.take n) ≤ cntEntries l := by
  conv => rhs; rw [← List.take_append_drop n l, cntE_app2]
  omega
theorem cntE_drop2 (l : List Entry) (n : Nat) : cntEntries (l.drop n) ≤ cntEntries l := by
  conv => rhs; rw [← List.take_append_drop n l, cntE_app2]
  omega
theorem near_cnt {w : Window} (h : winC w ≤ 1048576) (f : Int) : (cntEntries (winNearF w f).1 : Int) ≤ 20000000 := by
  unfold winNearF
  split
  · rename_i ho
    have hf : 0 ≤ f ∧ f < w.Frames.length := by
      unfold okLive at ho; simp only [Bool.and_eq_true, decide_eq_true_iff] at ho; exact ho.2.1
    obtain ⟨k, rfl⟩ : ∃ k : Nat, f = k := ⟨f.toNat, by omega⟩
    have hlt : k < w.Frames.length := by omega
    rw [frA_eq w k hlt]
    have h1 := sumF_mem w.Frames _ (List.getElem_mem hlt)
    have h2 := cntE_C w.Frames[k].Hist
    have h3 := sumF_nn w.Frames
    unfold winC at h
    unfold frmC at h1
    have h4 : cntEntries (nearF w.Frames[k].Hist w.Step).1 ≤ cntEntries w.Frames[k].Hist := by
      unfold nearF
      split
      · simp [cntEntries]
      · exact Nat.le_trans (cntE_drop2 _ _) (cntE_take2 _ _)
    omega
  · simp [cntEntries]
theorem take_entries {β : Type} (f : Entry → β) (l : List Entry) (k : Int) : List.take l.length ((markEntries l k).1.map f) = (markEntries l k).1.map f := take_mk f _ _ (markEntries_len l k)
def E6 : Env := { T := Tz.tab, G := Gl, C := [(7, ct7), (9, ct9), (19, ct19), (20, ct20), (21, ct21), (11, ct11), (22, ct22), (23, ct23), (24, ct24)], live := [(0, [1, 2]), (1, [1, 2, 5]), (2, [1, 2, 5]), (3, [1, 2, 20]), (4, [4]), (5, [1, 2, 6, 7]), (6, [1, 2, 6, 7, 8]), (7, [1, 2, 6, 7, 8, 9, 10]), (8, [1, 2, 6, 7, 8, 9, 10, 44]), (9, [4]), (10, [1, 2, 6, 7, 8, 9, 10, 49]), (11, [4]), (12, [1, 2, 6, 7, 8, 9, 10, 11]), (13, [1, 2, 6, 7, 9, 10, 11]), (14, [1, 2, 6, 7, 9, 65]), (15, [4]), (16, [1, 2, 6, 7, 9, 12]), (17, [1, 2, 6, 7, 9, 12]), (18, [1, 2, 6, 7, 9, 12, 13]), (19, [1, 2, 6, 7, 9, 12, 13]), (20, [1, 2, 6, 7, 9, 12, 13, 73]), (21, [4]), (22, [1, 2, 6, 7, 9, 12, 76]), (23, [4]), (24, [6, 7, 9, 12, 14, 15]), (25, [9, 12, 92]), (26, [4]), (27, [9, 12, 13]), (28, [12, 13]), (29, [12, 13, 97]), (30, [4]), (31, [100]), (32, [4]), (33, [4])] }
def ct6 : Ct := .scal (dom2 tWindow tInt (fun a f => True)) (fn2 tWindow tInt fun a f => [tBool.enc true])
attribute [go_sem] E6 ct6 Go.Proofs.Tryz.f6
set_option maxHeartbeats 8000000 in
theorem ok6 : CtOk Tryz.prog Gl 6 ct6 := okA2 (E := E6) (sound_of Tz.tab_ok Tz.mixed (AllOk.cons ok7 (AllOk.cons ok9 (AllOk.cons ok19 (AllOk.cons ok20 (AllOk.cons ok21 (AllOk.cons ok11 (AllOk.cons ok22 (AllOk.cons ok23 (AllOk.cons ok24 AllOk.nil)))))))))) rfl Tryz.func6 (by kernel_rfl) fun a f fa ff hp => by
  have ga := fa
  have fa := fit_window fa
  have ff := fit_int ff
  refine vcFn_intro rfl rfl (by kernel_rfl) rfl ?_
  repeat (dsimp +instances only [go_sem, Nat.reduceBEq, Nat.reduceAdd, Nat.reduceSub, Nat.reduceLT, Nat.reduceLeDiff]; try simp only [bb, Nat.reduceAdd, Int.reduceToNat, Int.reduceLE, Int.reduceLT, Nat.reduceLT, Nat.reduceMul, Nat.reduceLeDiff])
  try simp only [nn, reduceCtorEq]
  refine fun hsz => ?_
  have hb := szTo_ok hsz (by omega)
  have hsm := small_of_winC hb
  have hF := cntF_C a.Frames
  have hpl := near_cnt hb f
  have hw : winC a = a.Frames.length + sumF a.Frames := rfl
  simp only [take_strs, take_entries, markEntries_len, Rw.map_dec, ex_enc, markFrames_snd, markEntries_snd, markStrs_len, markStrs_snd, markStrs_idem, markEntries_idem, cntEntries_mark, List.length_map, bne_self_eq_false, decide_true, Bool.not_true, Bool.false_eq_true, or_false, false_or, not_true_eq_false, false_implies, true_and, and_true, and_false, imp_false, Nat.le_refl, true_implies, forall_const, implies_true, or_self, hsm]
  generalize cntFrames a.Frames = c at *
  generalize cntEntries (winNearF a f).1 = d at *
  (repeat' (first | refine And.intro ?_ ?_ | intro _)) <;> try first | omega | trivial
end Go.Gx
end
section
namespace Go.Gx
def ShFs (S : Nat → List CV → Prop) : List Nat → List CV → Prop
  | [], cs => cs = []
  | t :: ts, cs => ∃ a b, cs = a ++ b ∧ S t a ∧ ShFs S ts b
def ShK (T : Tab) (S : Nat → List CV → Prop) (ft : List Nat) (cs : List CV) : TK → Prop
  | .int k => ∃ n, cs = [.int k n]
  | .bool => ∃ b, cs = [.bool b]
  | .str => ∃ s, cs = [.str s]
  | .slice e => ∃ es, cs = [.sl (T.size e) es] ∧ ∀ r ∈ es, S e r
  | .struct _ => ShFs S ft cs
  | .mapIB => False
  | .other => False
def Sh (T : Tab) : Nat → Nat → List CV → Prop
  | 0, _, _ => False
  | d + 1, t, cs => ShK T (Sh T d) (T.ti t).ft cs (T.tk t)
def okK (T : Tab) (O : Nat → Bool) (t : Nat) : TK → Bool
  | .int _ => true
  | .bool => true
  | .str => true
  | .slice e => Nat.blt 0 (T.size e) && O e
  | .struct fs => contig 0 fs (T.size t) && (fs.map (·.2) == (T.ti t).ft.map T.size) && (T.ti t).ft.all O
  | .mapIB => false
  | .other => false
def okT (T : Tab) : Nat → Nat → Bool
  | 0, _ => false
  | d + 1, t => okK T (okT T d) t (T.tk t)
def RepIL (St : Snap) : List CV → List Value → Prop
  | [], [] => True
  | c :: cs, v :: vs => RepI St c v ∧ RepIL St cs vs
  | _, _ => False
theorem RepIL.len {St : Snap} : ∀ {cs : List CV} {vs : List Value}, RepIL St cs vs → cs.length = vs.length
  | [], [], _ => rfl
  | _ :: _, _ :: _, h => by simp [h.2.len]
  | [], _ :: _, h => h.elim
  | _ :: _, [], h => h.elim
theorem RepIL.get {St : Snap} : ∀ {cs : List CV} {vs : List Value}, RepIL St cs vs → ∀ (i : Nat) (c : CV), cs[i]? = some c → ∃ v, vs[i]? = some v ∧ RepI St c v
  | [], [], _, i, c, h => by simp at h
  | c :: _, v :: _, h, 0, c', hc => by simp at hc; subst hc; exact ⟨v, rfl, h.1⟩
  | _ :: cs, _ :: vs, h, i + 1, c', hc => by simp at hc; simpa using h.2.get i c' hc
  | [], _ :: _, h, _, _, _ => h.elim
  | _ :: _, [], h, _, _, _ => h.elim
theorem RepIL.app {St : Snap} : ∀ {a b : List CV} {u v : List Value}, RepIL St a u → RepIL St b v → RepIL St (a ++ b) (u ++ v)
  | [], _, [], _, _, h => h
  | _ :: _, _, _ :: _, _, h, h' => ⟨h.1, h.2.app h'⟩
  | [], _, _ :: _, _, h, _ => h.elim
  | _ :: _, _, [], _, h, _ => h.elim
structure Bulk (H : Type) where
  b : DataW H → Nat
  ba : List (DataW H) → Nat
  str : ∀ l, b (.lit (.string l)) = l.length + 1
  slc : ∀ e s, b (.slice e s) = ba e + ba s + 1
  agg : ∀ p, b (.agg p) = ba p + 1
  nil : ba [] = 0
  cons : ∀ d r, ba (d :: r) = b d + ba r
  pos : ∀ d, 1 ≤ b d
theorem Bulk.len {H : Type} (B : Bulk H) : ∀ l : List (DataW H), l.length ≤ B.ba l
  | [] => by simp
  | d :: r => by have := B.len r; have := B.pos d; rw [B.cons, List.length_cons]; omega
theorem Bulk.mem {H : Type} (B : Bulk H) : ∀ (l : List (DataW H)) (i : Nat) (d : DataW H), l[i]? = some d → B.b d ≤ B.ba l
  | [], i, d, h => by simp at h
  | a :: r, 0, d, h => by simp at h; subst h; rw [B.cons]; omega
  | a :: r, i + 1, d, h => by have := B.mem r i d (by simpa using h); rw [B.cons]; omega
theorem wrap_wf {k : IntKind} {n : Int} (h : (Lit.int k n).wf = true) : InR k n := by
  unfold InR
  cases k <;> simp [Lit.wf, IntKind.wrap, IntKind.min, IntKind.max, IntKind.signed, IntKind.bits] at h ⊢ <;> (try split) <;> omega
section
variable {H : Type} {enc : TypeId × Value → H} {P : Program} {T : Tab} {w : World} {base : Nat} {sp : Nat → Bool} {held : Bool}
theorem fields_ok {St : Snap} {S : Nat → List CV → Prop} {n : Nat} {CS : List Value} (hCS : CS.length = n) : ∀ (fl : List Field) (fss : List (Nat × Nat)) (off : Nat), contig off fss n = true → fl.length = fss.length →
    (∀ (i : Nat) (x : Nat × Nat) (f : Field), fss[i]? = some x → fl[i]? = some f → f.offset = x.1 ∧ ∃ es, S f.type es ∧ RepIL St es ((CS.drop x.1).take x.2)) →
    ∃ es, ShFs S (fl.map (·.type)) es ∧ RepIL St es (CS.drop off)
  | [], [], off, hc, _, _ => by
    simp [contig] at hc
    refine ⟨[], rfl, ?_⟩
    rw [List.drop_eq_nil_of_le (by omega)]; trivial
  | f :: fl, (o, s) :: fss, off, hc, hl, h => by
    simp [contig] at hc
    obtain ⟨rfl, hc⟩ := hc
    obtain ⟨e1, es, h1, h2⟩ := h 0 (o, s) f rfl rfl
    obtain ⟨es', h3, h4⟩ := fields_ok hCS fl fss (o + s) hc (by simpa using hl) fun i x g hx hg => h (i + 1) x g (by simpa using hx) (by simpa using hg)
    refine ⟨es ++ es', ⟨es, es', rfl, h1, h3⟩, ?_⟩
    have e : CS.drop o = (CS.drop o).take s ++ CS.drop (o + s) := by rw [← List.drop_drop, List.take_append_drop]
    rw [e]
    exact h2.app h4
  | [], _ :: _, _, _, hl, _ => by simp at hl
  | _ :: _, [], _, _, hl, _ => by simp at hl
theorem read_ok (hT : TabOk P T) (B : Bulk H) : ∀ (d fuel t : Nat) (cs : List Value) (x : DataW H × List MemPlace), okT T d t = true → DataW.trod enc P w base sp held fuel t cs = some x → B.b x.1 ≤ 68719476736 →
    ∃ es, Sh T d t es ∧ RepIL (heapS w) es cs
  | 0, _, _, _, _, h, _, _ => by simp [okT] at h
  | d + 1, fuel, t, cs, x, hok, h, hb => by
    have hti : T.tk t ≠ .other := fun e => by simp [okT, e, okK] at hok
    obtain ⟨inf, hi, hsz, hby, hb2, hz, hk, hft⟩ := hT.tk hti
    have hk' : TkOk P t (T.tk t) := hk
    simp only [okT] at hok
    simp only [Sh]
    cases e : T.tk t with
    | mapIB => simp [e, okK] at hok
    | other => exact absurd e hti
    | int k =>
      rw [e] at hk'
      obtain ⟨n, rfl, rfl, hw⟩ := DataW.trod_int hk' h
      exact ⟨[.int k n], ⟨n, rfl⟩, .int (wrap_wf hw), trivial⟩
    | bool =>
      rw [e] at hk'
      obtain ⟨b, rfl, rfl⟩ := DataW.trod_bool hk' h
      exact ⟨[.bool b], ⟨b, rfl⟩, .bool, trivial⟩
    | str =>
      rw [e] at hk'
      obtain ⟨s, rfl, rfl, hs⟩ := DataW.trod_string hk' h
      refine ⟨[.str s.data.toList], ⟨_, rfl⟩, ?_, trivial⟩
      have := RepI.str (St := heapS w) (l := s.data.toList) (by simp only [B.str] at hb; unfold Fit; omega)
      simpa using this
    | slice el =>
      rw [e] at hk' hok
      simp only [okK, Bool.and_eq_true] at hok
      have hpos : 0 < T.size el := by simpa using hok.1
      obtain ⟨infe, hie, hsze, _⟩ := hT.ti hpos
      have hcell : P.cellsOf el = T.size el := by simp [Program.cellsOf, hie, hsze]; rfl
      rcases DataW.trod_slice hk' h with ⟨rfl, rfl⟩ | ⟨a, len, cap, elems, rest, n, rfl, rfl, rfl, hba, hlc, hcm, hel, hget, _, _⟩
      · exact ⟨[.sl (T.size el) []], ⟨[], rfl, fun r hr => by cases hr⟩, .nil, trivial⟩
      · rw [hcell] at hget
        have hlen : B.ba (elems.map (·.1)) ≤ 68719476736 := by simp only [B.slc] at hb; omega
        have hlen2 := B.len (elems.map (·.1))
        rw [List.length_map] at hlen2
        have each : ∀ i, i < len → ∃ es vs, Sh T d el es ∧ RepIL (heapS w) es vs ∧ w.cells? base (a.add (i * T.size el)) (T.size el) = some vs := fun i hi => by
          have hg := hget i hi
          rw [List.getElem?_eq_getElem (by omega : i < elems.length)] at hg
          obtain ⟨vs, h1, h2⟩ := Option.bind_eq_some_iff.1 hg
          obtain ⟨es, h3, h4⟩ := read_ok hT B d n el vs _ hok.2 h2 (Nat.le_trans (B.mem (elems.map (·.1)) i _ (by rw [List.getElem?_map, List.getElem?_eq_getElem (by omega : i < elems.length)]; rfl)) hlen)
          exact ⟨es, vs, h3, h4, h1⟩
        have pick : ∃ (f : Nat → List CV) (g : Nat → List Value), ∀ i, i < len → Sh T d el (f i) ∧ RepIL (heapS w) (f i) (g i) ∧ w.cells? base (a.add (i * T.size el)) (T.size el) = some (g i) := by
          refine ⟨fun i => if h : i < len then (each i h).choose else [], fun i => if h : i < len then (each i h).choose_spec.choose else [], fun i hi => ?_⟩
          simp only [dif_pos hi]
          exact (each i hi).choose_spec.choose_spec
        obtain ⟨f, g, hfg⟩ := pick
        have hcells : ∀ i, i < len → ∀ j, j < T.size el → ∃ v, (g i)[j]? = some v ∧ w.cell? ((a.add (i * T.size el)).add j) = some v := fun i hi j hj => by
          have h1 := (hfg i hi).2.2
          unfold World.cells? at h1
          split at h1
          · have h2 := mapM_some_get h1 j j (by simp [hj])
            have h3 := mapM_some_length h1
            rw [List.length_range] at h3
            rw [List.getElem?_eq_getElem (by omega : j < (g i).length)] at h2 ⊢
            exact ⟨_, rfl, h2⟩
          · cases h1
        have hglen : ∀ i, i < len → (f i).length = T.size el := fun i hi => by
          have h1 := (hfg i hi).2.2
          unfold World.cells? at h1
          split at h1
          · have h3 := mapM_some_length h1
            rw [List.length_range] at h3
            rw [(hfg i hi).2.1.len, h3]
          · cases h1
        refine ⟨[.sl (T.size el) ((List.range len).map f)], ⟨_, rfl, fun r hr => ?_⟩, ?_, trivial⟩
        · obtain ⟨i, hi, rfl⟩ := List.mem_map.1 hr
          exact (hfg i (by simpa using hi)).1
        · cases len with
          | zero => exact .nil
          | succ len =>
            obtain ⟨v0, hv0, hc0⟩ := hcells 0 (by omega) 0 hpos
            have hspot : a.spot = none := by
              have := World.cell?_spot hc0
              simpa [Addr.add] using this
            obtain ⟨b, o, spot⟩ := a
            simp only at hspot
            subst hspot
            have hadd : ∀ i j, ((⟨b, o, none⟩ : Addr).add (i * T.size el)).add j = ⟨b, o + i * T.size el + j, none⟩ := fun i j => by
              unfold Addr.add
              split <;> split <;> simp_all
            simp only [hadd] at hcells hc0
            have hblk : ∃ cur Ty fr, w.heap[b]? = some (.cells cur Ty fr) := by
              unfold World.cell? at hc0
              split at hc0
              · rename_i c t fr hh; exact ⟨c, t, fr, hh⟩
              · cases hc0
            obtain ⟨cur, Ty, fr, hblk⟩ := hblk
            have hcur : ∀ k v, w.cell? ⟨b, k, none⟩ = some v → cur[k]? = some v := fun k v hv => by
              unfold World.cell? at hv
              simp only [hblk] at hv
              simpa using hv
            have hrow : ∀ i, i < len + 1 → ((List.range (len + 1)).map f).getD i [] = f i := fun i hi => by
              simp [List.getD_eq_getElem?_getD, hi]
            have hl : ((List.range (len + 1)).map f).length = len + 1 := by simp
            have := RepI.sl (St := heapS w) (sz := T.size el) (es := (List.range (len + 1)).map f) (b := b) (o := o) (c := cap) (cur := cur) (T := Ty) (fr := fr) (fun i j => (g i).getD j undef)
              (by rw [hl]; unfold Fit; omega) (fun i hi => by rw [hl] at hi; rw [hrow i hi]; exact hglen i hi) hblk (by rw [hl]; exact hlc)
              (fun i j hi hj => by
                rw [hl] at hi
                obtain ⟨v, h1, h2⟩ := hcells i hi j hj
                rw [hcur _ _ h2, List.getD_eq_getElem?_getD, h1]; rfl)
              (fun i j hi hj => by
                rw [hl] at hi
                unfold getC
                rw [hrow i hi]
                have hj' : j < (f i).length := by rw [hglen i hi]; exact hj
                obtain ⟨v, h1, h2⟩ := (hfg i hi).2.1.get j _ (List.getElem?_eq_getElem hj')
                rw [List.getD_eq_getElem?_getD, List.getD_eq_getElem?_getD, h1, List.getElem?_eq_getElem hj']
                exact h2)
            rw [hl] at this
            exact this
    | struct fs =>
      rw [e] at hk' hok
      simp only [okK, Bool.and_eq_true] at hok
      obtain ⟨⟨hcon, hsizes⟩, hall⟩ := hok
      obtain ⟨fields, hu, hfl, hfi⟩ := hk'
      obtain ⟨_, _, hty, _⟩ := hft fields hu
      obtain ⟨xs, n, rfl, rfl, hcl, hxl, hxi⟩ := DataW.trod_struct hu h
      have hcell : P.cellsOf t = T.size t := by simp [Program.cellsOf, hi, hsz]; rfl
      have hba : B.ba (xs.map (·.1)) ≤ 68719476736 := by simp only [B.agg] at hb; omega
      have := fields_ok (St := heapS w) (S := Sh T d) (CS := cs) (n := T.size t) (by rw [hcl, hcell]) fields.toList fs 0 hcon (by simpa using hfl) fun i x f hx hf => by
        obtain ⟨f', hf', ho, hs, _⟩ := hfi i x hx
        rw [Array.getElem?_toList] at hf
        rw [hf] at hf'; injection hf' with hf'; subst hf'
        refine ⟨ho, ?_⟩
        have hg := hxi i f hf
        have hci : P.cellsOf f.type = x.2 := by simp [Program.cellsOf, hs]
        have hil : i < xs.length := by rw [hxl]; exact (Array.getElem?_eq_some_iff.1 hf).1
        rw [ho, hci, List.getElem?_eq_getElem hil] at hg
        have hokf : okT T d f.type = true := by
          refine List.all_eq_true.1 hall f.type ?_
          rw [← hty]
          exact List.mem_map.2 ⟨f, Array.mem_toList_iff.2 (Array.mem_of_getElem? hf), rfl⟩
        exact read_ok hT B d n f.type _ _ hokf hg (Nat.le_trans (B.mem (xs.map (·.1)) i _ (by rw [List.getElem?_map, List.getElem?_eq_getElem hil]; rfl)) hba)
      obtain ⟨es, h1, h2⟩ := this
      refine ⟨es, ?_, by simpa using h2⟩
      simp only [ShK]
      rw [hty] at h1
      exact h1
end
end Go.Gx
end
section
namespace Go.Gx
open Go.ChangeShapes Go.WideShapes Go.RowKit
def ShAll (T : Tab) (d : Nat) : List Nat → RV → Prop
  | [], [] => True
  | t :: ts, c :: cs => c.1 = isStruct (T.tk t) ∧ Sh T d t c.2 ∧ ShAll T d ts cs
  | _, _ => False
section
variable {H : Type} {enc : TypeId × Value → H} {P : Program} {T : Tab} {w : World} {base : Nat} {sp : Nat → Bool} {held : Bool}
theorem arg_ok (hT : TabOk P T) (B : Bulk H) {d t b0 : Nat} {r : Reach} {v : Value} {x : DataW H} {ps : List MemPlace} (hok : okT T d t = true) (hval : Value.okWide P w r b0 t v) (h : DataW.Trod enc P w base sp held t v x ps) (hb : B.b x ≤ 68719476736) :
    ∃ es, Sh T d t es ∧ RepIA (heapS w) (isStruct (T.tk t), es) v := by
  obtain ⟨fuel, h⟩ := h
  obtain ⟨es, h1, h2⟩ := read_ok hT B d fuel t _ _ hok h hb
  refine ⟨es, h1, ?_⟩
  have hti : T.tk t ≠ .other := fun e => by cases d <;> simp [okT, e, okK] at hok
  obtain ⟨inf, hi, hsz, hby, hb2, hz, hk, hft⟩ := hT.tk hti
  have hk' : TkOk P t (T.tk t) := hk
  have one : ∀ u : Value, v = u → u.cells = #[u] → RepIA (heapS w) (false, es) v := fun u hu hc => by
    subst hu
    rw [hc] at h2
    have hl := h2.len
    match es, hl, h2 with
    | [c], _, h2 => exact ⟨c, rfl, h2.1⟩
  cases e : T.tk t with
  | mapIB => cases d <;> simp [okT, e, okK] at hok
  | other => exact absurd e hti
  | int k => rw [e] at hk'; obtain ⟨n, hv⟩ := okWide_int hk' hval; exact one _ hv rfl
  | bool => rw [e] at hk'; obtain ⟨n, hv⟩ := okWide_bool hk' hval; exact one _ hv rfl
  | str => rw [e] at hk'; obtain ⟨n, hv⟩ := okWide_string hk' hval; exact one _ hv rfl
  | slice el => rw [e] at hk'; obtain ⟨a, l, c, hv⟩ := okWide_slice hk' hval; exact one _ hv rfl
  | struct fs =>
    rw [e] at hk'
    obtain ⟨fields, hu, _⟩ := hk'
    obtain ⟨cs, rfl, _⟩ := okWide_struct hu hval
    exact ⟨cs.toList, by simp, h2.len.symm, h2.get⟩
theorem args_ok (hT : TabOk P T) (B : Bulk H) {d b0 : Nat} {r : Reach} : ∀ (ts : List Nat) (vs : List Value) (ds : List (DataW H)) (ps : List MemPlace), ts.all (okT T d) = true → DataW.TrodAll enc P w base sp held ts vs ds ps →
    (∀ (j : Nat) t v, ts[j]? = some t → vs[j]? = some v → Value.okWide P w r b0 t v) → B.ba ds ≤ 68719476736 → ∃ cs : RV, ShAll T d ts cs ∧ RepIAs (heapS w) cs vs
  | [], [], [], _, _, _, _, _ => ⟨[], trivial, rfl, fun i c hc => by simp at hc⟩
  | t :: ts, v :: vs, x :: ds, ps, hok, h, hval, hb => by
    obtain ⟨p, q, h1, h2, rfl⟩ := h
    rw [B.cons] at hb
    simp only [List.all_cons, Bool.and_eq_true] at hok
    obtain ⟨es, a1, a2⟩ := arg_ok hT B hok.1 (hval 0 t v rfl rfl) h1 (by omega)
    obtain ⟨cs, b1, b2⟩ := args_ok hT B ts vs ds q hok.2 h2 (fun j t v ht hv => hval (j + 1) t v (by simpa using ht) (by simpa using hv)) (by omega)
    refine ⟨(isStruct (T.tk t), es) :: cs, ⟨rfl, a1, b1⟩, by simp [b2.1], fun i c hc => ?_⟩
    cases i with
    | zero => simp at hc; subst hc; exact ⟨v, rfl, a2⟩
    | succ i => simp at hc; simpa using b2.2 i c hc
  | [], _ :: _, _, _, _, h, _, _ => h.elim
  | [], [], _ :: _, _, _, h, _, _ => h.elim
  | _ :: _, [], _, _, _, h, _, _ => h.elim
  | _ :: _, _ :: _, [], _, _, h, _, _ => h.elim
theorem Later.below {w w' : World} (h : Later w w') : Below w.heap.size w w' := ⟨h.os, h.tape, h.output, h.size, h.ext⟩
def rowed (P : Program) (ts : List Nat) : Bool := ts.all fun t => P.readableRec t && decide (t < P.types.size)
theorem later_all (hl : laidOutB P = true) {w' : World} (hb : Below w.heap.size w w') {sp' : Nat → Bool} : ∀ (ts : List Nat) (vs : List Value) (ds : List (DataW H)) (ps : List MemPlace), rowed P ts = true → DataW.TrodAll enc P w 0 (fun _ => true) true ts vs ds ps →
    (∀ p ∈ ps, p.block < w.heap.size) → (∀ p ∈ ps, sp' p.block = true) → DataW.TrodAll enc P w' 0 sp' true ts vs ds ps
  | [], [], [], _, _, h, _, _ => h
  | t :: ts, v :: vs, x :: ds, ps, hr, h, hlt, hs => by
    obtain ⟨p, q, h1, h2, rfl⟩ := h
    simp only [rowed, List.all_cons, Bool.and_eq_true, decide_eq_true_eq] at hr
    refine ⟨p, q, Go.WideElems.Trod_stays hl hr.1.1 hr.1.2 h1 (fun x hx => hb.same (hlt x (by simp [hx]))) (fun x hx => hs x (by simp [hx])), ?_, rfl⟩
    exact later_all hl hb ts vs ds q (by simpa [rowed] using hr.2) h2 (fun x hx => hlt x (by simp [hx])) (fun x hx => hs x (by simp [hx]))
  | [], _ :: _, _, _, _, h, _, _ => h.elim
  | [], [], _ :: _, _, _, h, _, _ => h.elim
  | _ :: _, [], _, _, _, h, _, _ => h.elim
  | _ :: _, _ :: _, [], _, _, h, _, _ => h.elim
theorem later_vars (hl : laidOutB P = true) {w' : World} (hb : Below w.heap.size w w') {sp' : Nat → Bool} : ∀ (ns : List String) (gs : List (DataW H)) (ps : List MemPlace), varsRowed P ns = true → DataW.TrodVars enc P w (fun _ => true) ns gs ps →
    (∀ p ∈ ps, sp' p.block = true) → DataW.TrodVars enc P w' sp' ns gs ps
  | [], [], _, _, h, _ => h
  | [], _ :: _, _, _, h, _ => h.elim
  | _ :: _, [], _, _, h, _ => h.elim
  | n :: ns, d :: ds, ps, hv, h, hs0 => by
    have hlt := h.lt
    obtain ⟨g, t, cs, fuel, p, q, h1, h2, h3, h4, hs, e⟩ := h
    simp only [varsRowed, List.all_cons, Bool.and_eq_true] at hv
    have ht : P.readableRec t = true ∧ t < P.types.size := by
      have := hv.1
      rw [h1] at this
      cases hg : P.globals[g]? with
      | none => rw [hg] at h2; cases h2
      | some gl =>
        rw [hg] at h2
        obtain rfl : gl.type = t := Option.some.inj h2
        simpa [hg] using this
    have hp : ∀ x ∈ p, x.block < w.heap.size := fun x hx => hlt x (by rw [e]; simp [hx])
    have h3' : w'.var? P n = some cs := by
      unfold World.var? at h3 ⊢
      rw [h1] at h3 ⊢
      simp only [Option.bind_some] at h3 ⊢
      have hg : g < w.heap.size := by
        cases hh : w.heap[g]? with
        | none => rw [hh] at h3; cases h3
        | some o => exact (Array.getElem?_eq_some_iff.1 hh).1
      rw [hb.block g hg]; exact h3
    exact ⟨g, t, cs, fuel, p, q, h1, h2, h3', DataW.trod_stays (kids_book hl ht.1) (book_sized ht.1) (fun h => by cases h) ⟨ht.2, book_self t⟩ h4 (fun x hx => hb.same (hp x hx)) (fun x hx => hs0 x (by rw [e]; simp [hx])),
      later_vars hl hb ns ds q (by simpa [varsRowed] using hv.2) hs (fun x hx => hs0 x (by rw [e]; simp [hx])), e⟩
theorem law_ok2 (hT : TabOk P T) (B : Bulk H) {G : Globs} {f : FuncId} {fn : Func} {dom : RV → Prop} {g : RV → RV} (hct : CtOk P G f (.scal dom g)) (hl : laidOutB P = true) {d tb b0 : Nat} {r : Reach}
    (hok : fn.params.toList.all (okT T d) = true) (hread : rowed P fn.params.toList = true) {s : ChangeSpec} (hvars : varsRowed P s.vars = true) (hres : fn.resultTypes = #[tb]) (htb : P.underlying tb = some .bool)
    {args : Array Value} (hdom : ∀ cs, ShAll T d fn.params.toList cs → RepIAs (heapS w) cs args.toList → ∃ cs', RepIAs (heapS w) cs' args.toList ∧ dom cs' ∧ g cs' = [(false, [.bool true])])
    {ds gs : List (DataW H)} {before : List MemPlace} (hG : GOk G (heapS w))
    (hval : ∀ (j : Nat) t v, fn.params[j]? = some t → args[j]? = some v → Value.okWide P w r b0 t v)
    (hW : DataW.Whole enc P fn.params.toList s.vars false w args.toList ds gs before)
    (hs : s.fn H (ds ++ gs) = { results := [.lit (.bool true)], args := ds, vars := gs }) (hbulk : B.ba ds ≤ 68719476736) :
    Calls P f args w fun e w' => ∃ v, e = .returned v ∧ s.post enc P fn false true false false w args v w' := by
  have hW' := hW
  obtain ⟨p, q, hA, hV, rfl, hfz, hnd⟩ := hW
  obtain ⟨cs, h1, h2⟩ := args_ok hT B fn.params.toList args.toList ds p hok hA (fun j t v ht hv => hval j t v (by simpa using ht) (by simpa using hv)) hbulk
  obtain ⟨cs, h2, h3, h4⟩ := hdom cs h1 h2
  have hc := (hct w cs args.toList hG h2 h3).2
  have ea : args.toList.toArray = args := rfl
  refine hc.mono fun e w' he => ?_
  obtain ⟨v, rfl, hlat, fp, hrv, hfp⟩ := he
  rw [h4] at hrv
  obtain ⟨c, hc1, hc2⟩ : RepOA w' (false, [.bool true]) v fp := hrv
  have hv : v = .bool true := by
    injection hc1 with hc1 _
    subst hc1
    cases hc2; rfl
  subst hv
  have hb := hlat.below
  have hlt := hW'.lt
  refine ⟨_, rfl, ds, gs, p ++ q, [], p, q, hW', ?_, ?_, ?_, hb.frame _, fun h => by cases h⟩
  · rw [hs, hres]
    exact ⟨[], [], shut_bool htb _, rfl, rfl⟩
  · rw [hs]
    exact later_all hl hb _ _ _ _ hread hA (fun x hx => hlt x (by simp [hx])) (fun x hx => by simpa using hlt x (by simp [hx]))
  · rw [hs]
    exact later_vars hl hb _ _ _ hvars hV (fun x hx => by simpa using hlt x (by simp [hx]))
theorem law_ok (hT : TabOk P T) (B : Bulk H) {G : Globs} {f : FuncId} {fn : Func} {dom : RV → Prop} {g : RV → RV} (hct : CtOk P G f (.scal dom g)) (hl : laidOutB P = true) {d tb b0 : Nat} {r : Reach}
    (hok : fn.params.toList.all (okT T d) = true) (hread : rowed P fn.params.toList = true) {s : ChangeSpec} (hvars : varsRowed P s.vars = true) (hres : fn.resultTypes = #[tb]) (htb : P.underlying tb = some .bool)
    (hdom : ∀ cs, ShAll T d fn.params.toList cs → dom cs ∧ g cs = [(false, [.bool true])])
    {args : Array Value} {ds gs : List (DataW H)} {before : List MemPlace} (hG : GOk G (heapS w))
    (hval : ∀ (j : Nat) t v, fn.params[j]? = some t → args[j]? = some v → Value.okWide P w r b0 t v)
    (hW : DataW.Whole enc P fn.params.toList s.vars false w args.toList ds gs before)
    (hs : s.fn H (ds ++ gs) = { results := [.lit (.bool true)], args := ds, vars := gs }) (hbulk : B.ba ds ≤ 68719476736) :
    Calls P f args w fun e w' => ∃ v, e = .returned v ∧ s.post enc P fn false true false false w args v w' := by
  exact law_ok2 hT B hct hl hok hread hvars hres htb (fun cs h1 h2 => ⟨cs, h2, hdom cs h1⟩) hG hval hW hs hbulk
end
section
variable {T : Tab} {d t : Nat} {cs : List CV}
theorem shI (h : Sh T d t cs) (ht : T.tk t = .int .i64) : ∃ n : Int, cs = [.int .i64 n] := by
  cases d with
  | zero => exact h.elim
  | succ d => simp only [Sh, ht] at h; exact h
theorem shB (h : Sh T d t cs) (ht : T.tk t = .bool) : ∃ b : Bool, cs = [.bool b] := by
  cases d with
  | zero => exact h.elim
  | succ d => simp only [Sh, ht] at h; exact h
theorem shS (h : Sh T d t cs) (ht : T.tk t = .str) : ∃ s : Str, cs = [.str s] := by
  cases d with
  | zero => exact h.elim
  | succ d => simp only [Sh, ht] at h; exact h
theorem shT (h : Sh T d t cs) {fs : List (Nat × Nat)} {ft : List Nat} (ht : T.tk t = .struct fs) (hf : (T.ti t).ft = ft) : ∃ e, ShFs (Sh T e) ft cs := by
  cases d with
  | zero => exact h.elim
  | succ d => simp only [Sh, ht, hf] at h; exact ⟨d, h⟩
theorem ex_rows {α : Type} (R : Rw α) : ∀ (es : List (List CV)), (∀ r ∈ es, ∃ x, r = R.enc x) → ∃ l : List α, es = l.map R.enc
  | [], _ => ⟨[], rfl⟩
  | r :: es, h => by
    obtain ⟨x, rfl⟩ := h r (.head _)
    obtain ⟨l, rfl⟩ := ex_rows R es fun r hr => h r (.tail _ hr)
    exact ⟨x :: l, rfl⟩
theorem shL (h : Sh T d t cs) {α : Type} (R : Rw α) {e : Nat} (ht : T.tk t = .slice e) (hs : T.size e = R.sz) (he : ∀ d r, Sh T d e r → ∃ x, r = R.enc x) : ∃ l : List α, cs = [.sl R.sz (l.map R.enc)] := by
  cases d with
  | zero => exact h.elim
  | succ d =>
    simp only [Sh, ht] at h
    obtain ⟨es, rfl, hr⟩ := h
    obtain ⟨l, rfl⟩ := ex_rows R es fun r hr' => he _ _ (hr r hr')
    exact ⟨l, by rw [hs]⟩
theorem shAll_cons {ts : List Nat} {cs : RV} (h : ShAll T d (t :: ts) cs) : ∃ es cs', cs = (isStruct (T.tk t), es) :: cs' ∧ Sh T d t es ∧ ShAll T d ts cs' := by
  cases cs with
  | nil => exact h.elim
  | cons c cs => obtain ⟨b, es⟩ := c; obtain ⟨h1, h2, h3⟩ := h; simp only at h1 h2; subst h1; exact ⟨es, cs, rfl, h2, h3⟩
theorem shAll_nil {cs : RV} (h : ShAll T d [] cs) : cs = [] := by
  cases cs with
  | nil => rfl
  | cons c cs => exact h.elim
end
end Go.Gx
end
section
namespace Go.Gx
def GlobAt (w : World) (g : Nat) (cs : List CV) : Prop := ∃ cur T fr, heapS w g = some (.cells cur T fr) ∧ cur.size = cs.length ∧ ∀ (j : Nat) (c : CV), cs[j]? = some c → ∃ x, cur[j]? = some x ∧ RepI (heapS w) c x
theorem gok_nil {w : World} : GOk [] (heapS w) := fun g hg => absurd rfl hg
theorem gok_cons {w : World} {g : Nat} {cs : List CV} {G : Globs} (h : GlobAt w g cs) (h' : GOk G (heapS w)) : GOk ((g, cs) :: G) (heapS w) := fun g' hg' => by
  unfold Env.glob at hg' ⊢
  simp only [look] at hg' ⊢
  by_cases e : g = g'
  · subst e
    simp only [beq_self_eq_true, cond_true] at hg' ⊢
    exact h
  · have hb : (g == g') = false := beq_eq_false_iff_ne.2 e
    simp only [hb, cond_false] at hg' ⊢
    exact h' g' hg'
open Go.Proofs Go.Lib
section
variable {P : Program} {w : World}
theorem strs_exact {H : Type} {enc : TypeId × Value → H} {base : Nat} {sp : Nat → Bool} {held : Bool} {fuel t e : Nat} {cs : List Value} {l : List Str} {ps : List MemPlace} (ht : P.underlying t = some (.slice e)) (he : P.underlying e = some .string) (hc : P.cellsOf e = 1)
    (h : DataW.trod enc P w base sp held fuel t cs = some (.slice (l.map fun s => .lit (.string s)) [], ps)) (hl : Fit l.length) (hf : ∀ s ∈ l, Fit s.length) : ∃ v, cs = [v] ∧ RepI (heapS w) (.sl 1 (l.map rStr.enc)) v := by
  rcases DataW.trod_slice ht h with ⟨rfl, hx⟩ | ⟨a, len, cap, elems, rest, n, rfl, rfl, hx, hba, hlc, hcm, hel, hget, _, _⟩
  · simp at hx
  · simp only [Prod.mk.injEq, DataW.slice.injEq] at hx
    obtain ⟨⟨hx1, _⟩, _⟩ := hx
    have hll : l.length = len := by have := congrArg List.length hx1; simp only [List.length_map] at this; omega
    subst hll
    refine ⟨_, rfl, ?_⟩
    rw [hc] at hget
    have each : ∀ i (hi : i < l.length), w.cell? ((a.add (i * 1)).add 0) = some (.string ⟨l[i].toArray⟩) := fun i hi => by
      have hg := hget i hi
      rw [List.getElem?_eq_getElem (by omega : i < elems.length)] at hg
      obtain ⟨vs, h1, h2⟩ := Option.bind_eq_some_iff.1 hg
      obtain ⟨s, rfl, hx, _⟩ := DataW.trod_string he h2
      have h3 : (elems.map (·.1))[i]? = some (.lit (.string s.data.toList)) := by
        rw [List.getElem?_map, List.getElem?_eq_getElem (by omega : i < elems.length), hx]; rfl
      rw [← hx1, List.getElem?_map, List.getElem?_eq_getElem hi] at h3
      simp only [Option.map_some, Option.some.injEq, DataW.lit.injEq, Lit.string.injEq] at h3
      rw [h3]
      unfold World.cells? at h1
      split at h1
      · have h4 := mapM_some_get h1 0 0 (by simp)
        rw [h4]; simp
      · cases h1
    rcases Nat.eq_zero_or_pos l.length with hz | hz
    · obtain rfl : l = [] := List.length_eq_zero_iff.1 hz
      exact .nil
    · have h0 := each 0 hz
      have hspot : a.spot = none := by
        have := World.cell?_spot h0
        simpa [Addr.add] using this
      obtain ⟨b, o, spot⟩ := a
      simp only at hspot
      subst hspot
      have hadd : ∀ i j, ((⟨b, o, none⟩ : Addr).add (i * 1)).add j = ⟨b, o + i * 1 + j, none⟩ := fun i j => by
        unfold Addr.add
        split <;> split <;> simp_all
      simp only [hadd] at each h0
      have hblk : ∃ cur Ty fr, w.heap[b]? = some (.cells cur Ty fr) := by
        unfold World.cell? at h0
        split at h0
        · rename_i c t fr hh; exact ⟨c, t, fr, hh⟩
        · cases h0
      obtain ⟨cur, Ty, fr, hblk⟩ := hblk
      have hcur : ∀ k v, w.cell? ⟨b, k, none⟩ = some v → cur[k]? = some v := fun k v hv => by
        unfold World.cell? at hv
        simp only [hblk] at hv
        simpa using hv
      have hlen : (l.map rStr.enc).length = l.length := by simp
      have hrow : ∀ i (hi : i < l.length), (l.map rStr.enc).getD i [] = [.str l[i]] := fun i hi => by
        simp [List.getD_eq_getElem?_getD, hi, rStr]
      have := RepI.sl (St := heapS w) (sz := 1) (es := l.map rStr.enc) (b := b) (o := o) (c := cap) (cur := cur) (T := Ty) (fr := fr) (fun i _ => .string ⟨(l.getD i []).toArray⟩)
        (by rw [hlen]; exact hl) (fun i hi => by rw [hlen] at hi; rw [hrow i hi]; rfl) hblk (by rw [hlen]; exact hlc)
        (fun i j hi hj => by
          rw [hlen] at hi
          obtain rfl : j = 0 := by omega
          rw [hcur _ _ (each i hi)]
          simp [List.getD_eq_getElem?_getD, hi])
        (fun i j hi hj => by
          rw [hlen] at hi
          obtain rfl : j = 0 := by omega
          unfold getC
          rw [hrow i hi]
          simp only [List.getD_eq_getElem?_getD, List.getElem?_eq_getElem hi, Option.getD_some, List.getElem?_cons_zero]
          exact .str (hf _ (List.getElem_mem hi)))
      rw [hlen] at this
      exact this
theorem glob_strs {name : String} {g t e : Nat} {l : List Str} (hn : P.globalNamed name = some g) (hy : (P.globals[g]?).map (·.type) = some t) (ht : P.underlying t = some (.slice e)) (he : P.underlying e = some .string) (hc : P.cellsOf e = 1)
    (h : VarReads P w name (.slice (l.map fun s => .lit (.string s)) [])) (hl : Fit l.length) (hf : ∀ s ∈ l, Fit s.length) : GlobAt w g [.sl 1 (l.map rStr.enc)] := by
  obtain ⟨g', t', cs, fuel, p, h1, h2, h3, h4⟩ := h
  rw [hn] at h1; injection h1 with h1; subst h1
  rw [hy] at h2; injection h2 with h2; subst h2
  obtain ⟨v, hv, hr⟩ := strs_exact ht he hc h4 hl hf
  unfold World.var? at h3
  rw [hn] at h3
  simp only [Option.bind_some] at h3
  split at h3
  · rename_i cs' T fr hh
    injection h3 with h3; subst h3
    refine ⟨cs', T, fr, hh, ?_, fun j c hc' => ?_⟩
    · have := congrArg List.length hv; simpa using this
    · cases j with
      | zero => simp at hc'; subst hc'; exact ⟨v, by rw [← Array.getElem?_toList, hv]; rfl, hr⟩
      | succ j => simp at hc'
  · cases h3
theorem glob_tab {name : String} {g t e n : Nat} {k : IntKind} {zs : List Int} (hn : P.globalNamed name = some g) (hy : (P.globals[g]?).map (·.type) = some t) (ht : P.underlying t = some (.array n e)) (he : P.underlying e = some (.int k)) (hc : P.cellsOf e = 1) (hct : P.cellsOf t = n)
    (h : VarReads P w name (Lib.tabData k zs)) (hw : ∀ z ∈ zs, InR k z) : GlobAt w g (zs.map fun z => .int k z) := by
  obtain ⟨g', t', cs, fuel, p, h1, h2, h3, h4⟩ := h
  rw [hn] at h1; injection h1 with h1; subst h1
  rw [hy] at h2; injection h2 with h2; subst h2
  have hv := Lib.cells_of_tab ht he hc hct h4
  unfold World.var? at h3
  rw [hn] at h3
  simp only [Option.bind_some] at h3
  split at h3
  · rename_i cs' T fr hh
    injection h3 with h3; subst h3
    refine ⟨cs', T, fr, hh, ?_, fun j c hc' => ?_⟩
    · have := congrArg List.length hv; simpa using this
    · rw [List.getElem?_map] at hc'
      cases hz : zs[j]? with
      | none => rw [hz] at hc'; cases hc'
      | some z =>
        rw [hz] at hc'; injection hc' with hc'; subst hc'
        exact ⟨.int k z, by rw [← Array.getElem?_toList, hv, List.getElem?_map, hz]; rfl, .int (hw z (List.mem_of_getElem? hz))⟩
  · cases h3
theorem glob_any {g : Nat} (h : w.ShapedOpen P) (hg : g < P.globals.size) {zero : Array Value} {t : Nat} (hz : (((begin P (fun _ _ => 0) default).world.heap[g]?).bind Obj.row?) = some (zero, t)) (h1 : zero.size = 1)
    (hc : ∃ m, w.cell? ⟨g, 0, none⟩ = some (.int .i64 m)) : GlobAt w g [.ex (fun v => ∃ m, v = .int .i64 m)] := by
  obtain ⟨cs, a, b, _⟩ := h.1 g zero t hg hz
  obtain ⟨m, hm⟩ := hc
  refine ⟨cs, t, _, a, by rw [b, h1]; rfl, fun j c hc => ?_⟩
  cases j with
  | zero =>
    simp at hc; subst hc
    unfold World.cell? at hm
    simp only [a] at hm
    exact ⟨.int .i64 m, by simpa using hm, .ex ⟨m, rfl⟩ ⟨rfl, ⟨(fun x h => nomatch h), (fun x h => nomatch h)⟩⟩⟩
  | succ j => simp at hc
end
end Go.Gx
namespace Go.Gx
theorem list1 {α : Type} {ds : List α} (h : ds.length = 1) : ∃ a, ds = [a] := List.length_eq_one_iff.1 h
theorem list2 {α : Type} {ds : List α} (h : ds.length = 2) : ∃ a b, ds = [a, b] := by
  match ds, h with
  | [a, b], _ => exact ⟨a, b, rfl⟩
theorem vars_length {H : Type} {enc : TypeId × Value → H} {P : Program} {w : World} {sp : Nat → Bool} : ∀ {ns : List String} {gs : List (DataW H)} {ps : List MemPlace}, DataW.TrodVars enc P w sp ns gs ps → gs.length = ns.length
  | [], [], _, _ => rfl
  | [], _ :: _, _, h => h.elim
  | _ :: _, [], _, h => h.elim
  | n :: ns, d :: ds, _, h => by
    obtain ⟨g, t, cs, fuel, p, q, _, _, _, _, hs, _⟩ := h
    simp [vars_length hs]
theorem opt_any {α : Type} {o : Option α} {p : α → Bool} (h : o.any p = true) : ∃ x, o = some x ∧ p x = true := by
  cases o with
  | none => cases h
  | some x => exact ⟨x, rfl, h⟩
theorem all_length {H : Type} {enc : TypeId × Value → H} {P : Program} {w : World} {base : Nat} {sp : Nat → Bool} {held : Bool} : ∀ {ts : List Nat} {vs : List Value} {ds : List (DataW H)} {ps : List MemPlace}, DataW.TrodAll enc P w base sp held ts vs ds ps → ds.length = ts.length
  | [], [], [], _, _ => rfl
  | t :: ts, v :: vs, x :: ds, _, h => by
    obtain ⟨p, q, _, h2, _⟩ := h
    simp [all_length h2]
  | [], _ :: _, _, _, h => h.elim
  | [], [], _ :: _, _, h => h.elim
  | _ :: _, [], _, _, h => h.elim
  | _ :: _, _ :: _, [], _, h => h.elim
end Go.Gx
end
section
namespace Go.Proofs.YtknhiboiffmaeaaGreatDoor.fnExactWindowNear
open Go.Gx Go.Lib
theorem sh_t160 {d : Nat} {cs : List CV} (h : Sh Tz.tab d 160 cs) : ∃ x : Go.Gx.Host, cs = Go.Gx.Host.cv x := by
  obtain ⟨d, h⟩ := shT h rfl rfl
  obtain ⟨a0, r0, e0, h0, h⟩ := h
  obtain ⟨x0, rfl⟩ := shI h0 rfl
  obtain ⟨a1, r1, e1, h1, h⟩ := h
  obtain ⟨x1, rfl⟩ := shS h1 rfl
  obtain ⟨a2, r2, e2, h2, h⟩ := h
  obtain ⟨x2, rfl⟩ := shI h2 rfl
  have h : r2 = [] := h
  refine ⟨⟨x0, x1, x2⟩, ?_⟩
  rw [e0, e1, e2, h]
  rfl
theorem sh_t162 {d : Nat} {cs : List CV} (h : Sh Tz.tab d 162 cs) : ∃ x : Go.Gx.Url, cs = Go.Gx.Url.cv x := by
  obtain ⟨d, h⟩ := shT h rfl rfl
  obtain ⟨a0, r0, e0, h0, h⟩ := h
  obtain ⟨x0, rfl⟩ := shS h0 rfl
  obtain ⟨a1, r1, e1, h1, h⟩ := h
  obtain ⟨x1, rfl⟩ := shS h1 rfl
  obtain ⟨a2, r2, e2, h2, h⟩ := h
  obtain ⟨x2, rfl⟩ := shS h2 rfl
  obtain ⟨a3, r3, e3, h3, h⟩ := h
  obtain ⟨x3, rfl⟩ := sh_t160 h3
  obtain ⟨a4, r4, e4, h4, h⟩ := h
  obtain ⟨x4, rfl⟩ := shI h4 rfl
  obtain ⟨a5, r5, e5, h5, h⟩ := h
  obtain ⟨x5, rfl⟩ := shL h5 rStr rfl rfl (fun d r h => shS h rfl)
  obtain ⟨a6, r6, e6, h6, h⟩ := h
  obtain ⟨x6, rfl⟩ := shS h6 rfl
  obtain ⟨a7, r7, e7, h7, h⟩ := h
  obtain ⟨x7, rfl⟩ := shB h7 rfl
  obtain ⟨a8, r8, e8, h8, h⟩ := h
  obtain ⟨x8, rfl⟩ := shS h8 rfl
  obtain ⟨a9, r9, e9, h9, h⟩ := h
  obtain ⟨x9, rfl⟩ := shB h9 rfl
  obtain ⟨a10, r10, e10, h10, h⟩ := h
  obtain ⟨x10, rfl⟩ := shS h10 rfl
  have h : r10 = [] := h
  refine ⟨⟨x0, x1, x2, x3, x4, x5, x6, x7, x8, x9, x10⟩, ?_⟩
  rw [e0, e1, e2, e3, e4, e5, e6, e7, e8, e9, e10, h]
  rfl
theorem sh_t164 {d : Nat} {cs : List CV} (h : Sh Tz.tab d 164 cs) : ∃ x : Go.Gx.Entry, cs = Go.Gx.Entry.cv x := by
  obtain ⟨d, h⟩ := shT h rfl rfl
  obtain ⟨a0, r0, e0, h0, h⟩ := h
  obtain ⟨x0, rfl⟩ := shI h0 rfl
  obtain ⟨a1, r1, e1, h1, h⟩ := h
  obtain ⟨x1, rfl⟩ := sh_t162 h1
  obtain ⟨a2, r2, e2, h2, h⟩ := h
  obtain ⟨x2, rfl⟩ := shI h2 rfl
  obtain ⟨a3, r3, e3, h3, h⟩ := h
  obtain ⟨x3, rfl⟩ := shI h3 rfl
  obtain ⟨a4, r4, e4, h4, h⟩ := h
  obtain ⟨x4, rfl⟩ := shS h4 rfl
  have h : r4 = [] := h
  refine ⟨⟨x0, x1, x2, x3, x4⟩, ?_⟩
  rw [e0, e1, e2, e3, e4, h]
  rfl
theorem sh_t100 {d : Nat} {cs : List CV} (h : Sh Tz.tab d 100 cs) : ∃ x : Go.Gx.Frame, cs = Go.Gx.Frame.cv x := by
  obtain ⟨d, h⟩ := shT h rfl rfl
  obtain ⟨a0, r0, e0, h0, h⟩ := h
  obtain ⟨x0, rfl⟩ := shI h0 rfl
  obtain ⟨a1, r1, e1, h1, h⟩ := h
  obtain ⟨x1, rfl⟩ := shS h1 rfl
  obtain ⟨a2, r2, e2, h2, h⟩ := h
  obtain ⟨x2, rfl⟩ := shL h2 rEntry rfl rfl (fun d r h => sh_t164 h)
  obtain ⟨a3, r3, e3, h3, h⟩ := h
  obtain ⟨x3, rfl⟩ := shB h3 rfl
  have h : r3 = [] := h
  refine ⟨⟨x0, x1, x2, x3⟩, ?_⟩
  rw [e0, e1, e2, e3, h]
  rfl
theorem sh_t24 {d : Nat} {cs : List CV} (h : Sh Tz.tab d 24 cs) : ∃ x : Go.Gx.Window, cs = Go.Gx.Window.cv x := by
  obtain ⟨d, h⟩ := shT h rfl rfl
  obtain ⟨a0, r0, e0, h0, h⟩ := h
  obtain ⟨x0, rfl⟩ := shL h0 rFrame rfl rfl (fun d r h => sh_t100 h)
  obtain ⟨a1, r1, e1, h1, h⟩ := h
  obtain ⟨x1, rfl⟩ := shI h1 rfl
  obtain ⟨a2, r2, e2, h2, h⟩ := h
  obtain ⟨x2, rfl⟩ := shI h2 rfl
  obtain ⟨a3, r3, e3, h3, h⟩ := h
  obtain ⟨x3, rfl⟩ := shI h3 rfl
  have h : r3 = [] := h
  refine ⟨⟨x0, x1, x2, x3⟩, ?_⟩
  rw [e0, e1, e2, e3, h]
  rfl
theorem dom_ok (cs : RV) (h : ShAll Tz.tab 9 Tryz.f6.params.toList cs) : dom2 tWindow tInt (fun _ _ => True) cs ∧ fn2 tWindow tInt (fun _ _ => [tBool.enc true]) cs = [(false, [.bool true])] := by
  rw [Tryz.params6] at h
  obtain ⟨c0, cs0, rfl, h0, hh0⟩ := shAll_cons h
  obtain ⟨x0, rfl⟩ := sh_t24 h0
  obtain ⟨c1, cs1, rfl, h1, hh1⟩ := shAll_cons hh0
  obtain ⟨x1, rfl⟩ := shI h1 rfl
  obtain rfl := shAll_nil hh1
  exact ⟨⟨⟨rfl, rfl, ⟨_, rfl⟩⟩, trivial, trivial⟩, rfl⟩
theorem own : ownKnob Tryz.prog.godebug = none := by kernel_rfl
theorem laidOut : laidOutB Tryz.prog = true := by kernel_rfl
def bulk (H : Type) : Bulk H where
  b := Rows.uptoBulk
  ba := Rows.uptoBulkAll
  str _ := rfl
  slc _ _ := rfl
  agg _ := rfl
  nil := rfl
  cons _ _ := rfl
  pos d := by
    cases d with
    | lit l => cases l <;> simp [Rows.uptoBulk]
    | _ => simp [Rows.uptoBulk]
theorem bulk_app {H : Type} (ds gs : List (DataW H)) : Rows.uptoBulkAll ds ≤ Rows.uptoBulkAll (ds ++ gs) := by
  induction ds with
  | nil => simp [Rows.uptoBulkAll]
  | cons d ds ih => simp only [List.cons_append, Rows.uptoBulkAll]; omega
theorem globs {W : World} (hL : laidMetH Tryz.prog Rows.fnExactWindowNearUptoRow.laid W) (hS : W.ShapedOpen Tryz.prog) : GOk Gl (heapS W) := by
  rw [MakeChecks.laidMetH_plain _ _ _ (by kernel_rfl)] at hL
  refine gok_cons (glob_strs (l := [[], [32, 34, 35, 60, 62, 63, 123, 125, 96], [32, 34, 35, 60, 62, 39], [32, 34, 60, 62, 96], [32, 34, 35, 60, 62, 63, 123, 125, 96, 47, 58, 59, 61, 64, 91, 92, 93, 94, 124], [32]]) (t := 34) (e := 9) (name := "loop.example/guilloche/impl.sets") (by kernel_rfl) (by kernel_rfl) Tryz.underlying34 Tryz.underlying9 (by kernel_rfl) (laidMet.reads hL (List.mem_of_getElem? (i := 4) rfl)) (by decide) (by decide)) ?_
  refine gok_cons (glob_any (zero := #[.int .i64 0]) (t := 3) hS (of_decide_eq_true (by kernel_rfl)) (by kernel_rfl) rfl (cell_of_shapedOpen_int hS (zero := #[.int .i64 0]) (t := 3) (of_decide_eq_true (by kernel_rfl)) (by kernel_rfl) rfl (by kernel_rfl) (by kernel_rfl) Tryz.underlying3)) ?_
  refine gok_cons (glob_tab (k := .u64) (zs := [1, 10, 100, 1000, 10000, 100000, 1000000, 10000000, 100000000, 1000000000, 10000000000, 100000000000, 1000000000000, 10000000000000, 100000000000000, 1000000000000000, 10000000000000000, 100000000000000000, 1000000000000000000, 10000000000000000000]) (t := 203) (e := 181) (n := 20) (name := "internal/strconv.uint64pow10") (by kernel_rfl) (by kernel_rfl) Tryz.underlying203 Tryz.underlying181 (by kernel_rfl) (by kernel_rfl) (laidMet.reads hL (List.mem_of_getElem? (i := 2) rfl)) (by unfold InR; decide)) gok_nil
theorem contract (H : Type) (enc : TypeId × Value → H) (W : World) (base : Nat) (args : Array Value) (ds gs : List (DataW H)) (before : List MemPlace)
    (hval : ∀ (j : Nat) t v, Tryz.f6.params[j]? = some t → args[j]? = some v → Value.okWide Tryz.prog W .any base t v)
    (hW : DataW.Whole enc Tryz.prog Tryz.f6.params.toList Rows.fnExactWindowNearSpec.vars false W args.toList ds gs before)
    (hk : Rows.uptoSmall H (ds ++ gs) = true) (hL : laidMetH Tryz.prog Rows.fnExactWindowNearUptoRow.laid W) (hS : W.ShapedOpen Tryz.prog) :
    Calls Tryz.prog 6 args W fun e W' => ∃ v, e = .returned v ∧ Rows.fnExactWindowNearSpec.post enc Tryz.prog Tryz.f6 false true false false W args v W' := by
  have hb : Rows.uptoBulkAll (ds ++ gs) ≤ 1048576 := of_decide_eq_true hk
  have hb1 := bulk_app ds gs
  have hlen := all_length hW.choose_spec.choose_spec.1
  have hlv := vars_length hW.choose_spec.choose_spec.2.1
  refine law_ok (dom := dom2 tWindow tInt fun _ _ => True) (g := fn2 tWindow tInt fun _ _ => [tBool.enc true]) Tz.tab_ok (bulk H) (d := 9) (tb := 4) ok6 laidOut (by kernel_rfl) (by kernel_rfl) (by kernel_rfl) (by kernel_rfl) Tryz.underlying4 (fun cs h => dom_ok cs h) (globs hL hS) hval hW ?_ (show Rows.uptoBulkAll ds ≤ 68719476736 by omega)
  obtain ⟨d0, d1, rfl⟩ := list2 (ds := ds) (by simpa [Tryz.params6] using hlen)
  obtain ⟨g0, rfl⟩ := list1 (ds := gs) (by simpa [Rows.fnExactWindowNearSpec] using hlv)
  rfl
noncomputable def wit (os : Os) : World := World.laidAll Tryz.prog os Rows.fnExactWindowNearUptoRow.laid
def args0 : Array Value := #[.agg #[.slice none 0 0, .int .i64 0, .int .i64 0, .int .i64 0], .int .i64 0]
theorem wit_laid (os : Os) : laidMetH Tryz.prog Rows.fnExactWindowNearUptoRow.laid ((wit os).forCall (fun _ _ => 0) ⟨#[], args0, []⟩).memory := by
  rw [MakeChecks.laidMetH_plain _ _ _ (by kernel_rfl)]
  exact laidMet_laidAll _ (by kernel_rfl) (by kernel_rfl)
theorem wit_reads (os : Os) {H : Type} (enc : TypeId × Value → H) : ((DataW.whole enc Tryz.prog ((wit os).forCall (fun _ _ => 0) ⟨#[], args0, []⟩).memory Tryz.f6.params.toList Rows.fnExactWindowNearSpec.vars false args0.toList 12).any fun x => Rows.uptoSmall H (x.1 ++ x.2.1)) = true := by kernel_rfl
theorem lifted (os : Os) (started : os.Started) (H : Type) (enc : TypeId × Value → H) (F : Stop.Interp) :
    ReturnsInHanded {} Tryz.checked os 6 .any ((Rows.OpenSpec.upto Rows.fnExactWindowNearSpec).preRow enc Tryz.prog Tryz.f6 Rows.fnExactWindowNearUptoRow.domain false Rows.fnExactWindowNearUptoRow.laid) (((Rows.OpenSpec.upto Rows.fnExactWindowNearSpec).at F).post enc Tryz.prog Tryz.f6 false true false false) := by
  have hr := wit_reads os enc
  obtain ⟨x, hx, hk⟩ := opt_any hr
  refine returnsInHanded_of_row (C := Tryz.checked) (s := Rows.OpenSpec.upto Rows.fnExactWindowNearSpec) own started (by kernel_rfl) Tryz.func6
    (witness_row_atRef (enc := enc) (C := Tryz.checked) false (wit os) args0 (World.laidAll_os _ _ _) (by kernel_rfl) (by kernel_rfl) (by kernel_rfl)
      (OpenSpec.preRow_of_cond 12 hx rfl (fun k hk' => by cases hk'; exact hk) (by kernel_rfl) (wit_laid os))) ?_
  intro W base args ds gs before hval hW _ hcond _ hL hS _
  exact contract H enc W base args ds gs before hval hW (hcond _ rfl) hL hS
theorem band {a b : Bool} (h : a = true) (g : b = true) : (a && b) = true := by rw [h, g]; rfl
theorem jf0 : (Rows.fnExactWindowNearUptoRow.wf (OpenSpec.ofChange (Rows.OpenSpec.upto Rows.fnExactWindowNearSpec).bare)) = true := by kernel_rfl
theorem jf1 : (laidOutB Tryz.pinned.checked.prog) = true := by kernel_rfl
theorem jf2 : (mapsRowed Tryz.pinned.checked.prog) = true := by kernel_rfl
theorem jf3 : (Tryz.f6.params.all (Tryz.pinned.checked.prog.readableRec ·)) = true := by kernel_rfl
theorem jf4 : (namedTie Tryz.pinned.checked.prog Rows.fnExactWindowNearUptoRow.named (Rows.OpenSpec.upto Rows.fnExactWindowNearSpec).bare.vars) = true := by kernel_rfl
theorem jf5 : ((Rows.fnExactWindowNearUptoRow.stops == [])) = true := by kernel_rfl
theorem jf6 : ((Tryz.pinned.checked.prog.stops == [])) = true := by kernel_rfl
theorem jf7 : ((Rows.fnExactWindowNearUptoRow.knobs == [])) = true := by kernel_rfl
theorem jf8 : ((Tryz.pinned.checked.prog.stopKnobs == [])) = true := by kernel_rfl
theorem jf9 : ((Rows.fnExactWindowNearUptoRow.inPlace == Tryz.pinned.checked.prog.inPlace 6)) = true := by kernel_rfl
theorem jf10 : ((Rows.fnExactWindowNearUptoRow.unfollowed == Tryz.pinned.checked.prog.unfollowed 6)) = true := by kernel_rfl
theorem jf11 : ((Rows.fnExactWindowNearUptoRow.recurses == Tryz.pinned.checked.prog.recurses 6)) = true := by kernel_rfl
theorem jf12 : ((Rows.fnExactWindowNearUptoRow.named == Tryz.pinned.checked.prog.varsNamed 6)) = true := by kernel_rfl
theorem jf13 : ((Rows.fnExactWindowNearUptoRow.maps == (Tryz.f6.params.toList ++ (Rows.OpenSpec.upto Rows.fnExactWindowNearSpec).bare.plain.varTypes Tryz.pinned.checked.prog).any (Tryz.pinned.checked.prog.mapsRec ·))) = true := by kernel_rfl
theorem jf14 : ((Rows.fnExactWindowNearUptoRow.ifaces == (Tryz.f6.params.toList ++ (Rows.OpenSpec.upto Rows.fnExactWindowNearSpec).bare.plain.varTypes Tryz.pinned.checked.prog).any (Tryz.pinned.checked.prog.ifacesRec ·))) = true := by kernel_rfl
theorem jf15 : ((Rows.fnExactWindowNearUptoRow.mapsOut == Tryz.pinned.checked.prog.mapsAmong Tryz.f6.resultTypes.toList)) = true := by kernel_rfl
theorem jf16 : ((Rows.fnExactWindowNearUptoRow.loops == (Tryz.f6.params.toList ++ (Rows.OpenSpec.upto Rows.fnExactWindowNearSpec).bare.plain.varTypes Tryz.pinned.checked.prog).any (Tryz.pinned.checked.prog.loopsFrom ·))) = true := by kernel_rfl
theorem jf17 : ((Rows.fnExactWindowNearUptoRow.wideKeys == (Tryz.f6.params.toList ++ (Rows.OpenSpec.upto Rows.fnExactWindowNearSpec).bare.plain.varTypes Tryz.pinned.checked.prog ++ Tryz.f6.resultTypes.toList).any (Tryz.pinned.checked.prog.wideKeysFrom ·))) = true := by kernel_rfl
theorem jf18 : ((Rows.OpenSpec.upto Rows.fnExactWindowNearSpec).bare.vars.all (Tryz.pinned.checked.prog.varReadable ·)) = true := by kernel_rfl
theorem jf19 : (Tryz.f6.resultTypes.all (fun t => Tryz.pinned.checked.prog.readableRec t && decide (t < Tryz.pinned.checked.prog.types.size))) = true := by kernel_rfl
theorem jf20 : ((Rows.fnExactWindowNearUptoRow.ifacesOut == Tryz.f6.resultTypes.toList.any (Tryz.pinned.checked.prog.ifacesRec ·))) = true := by kernel_rfl
theorem jf21 : ((Rows.fnExactWindowNearUptoRow.loopsOut == Tryz.f6.resultTypes.toList.any (Tryz.pinned.checked.prog.loopsFrom ·))) = true := by kernel_rfl
theorem jf22 : ((Rows.fnExactWindowNearUptoRow.plainKeys == Tryz.pinned.checked.prog.plainKeys)) = true := by kernel_rfl
theorem jf23 : (Rows.fnExactWindowNearUptoRow.shortTexts.isNone) = true := by kernel_rfl
theorem jf24 : (Tryz.pinned.checked.prog.stopsHeard) = true := by kernel_rfl
theorem jf25 : (Tryz.pinned.checked.prog.mayEnter) = true := by kernel_rfl
theorem jf26 : ((Rows.fnExactWindowNearUptoRow.lifted == Tryz.pinned.checked.prog.liftsFinal)) = true := by kernel_rfl
theorem jf27 : ((Tryz.pinned.checked.prog.make == some Rows.fnExactWindowNearUptoRow.make)) = true := by kernel_rfl
theorem jf29 : ((Rows.fnExactWindowNearUptoRow.pinned == Rows.fnExactWindowNearUptoRow.pinnedBy)) = true := by kernel_rfl
theorem jf30 : ((Rows.fnExactWindowNearUptoRow.veiled == (Tryz.f6.params.toList ++ (Rows.OpenSpec.upto Rows.fnExactWindowNearSpec).bare.plain.varTypes Tryz.pinned.checked.prog ++ Tryz.f6.resultTypes.toList).any (Tryz.pinned.checked.prog.veiledRec ·))) = true := by kernel_rfl
theorem jf31 : (Rows.fnExactWindowNearUptoRow.veiledFits Tryz.pinned.checked.prog Tryz.f6.params.toList (Tryz.f6.params.toList ++ (Rows.OpenSpec.upto Rows.fnExactWindowNearSpec).bare.plain.varTypes Tryz.pinned.checked.prog ++ Tryz.f6.resultTypes.toList)) = true := by kernel_rfl
theorem closed : joinedFacts Tryz.pinned.checked.prog 6 Tryz.f6 (Rows.OpenSpec.upto Rows.fnExactWindowNearSpec).bare Rows.fnExactWindowNearUptoRow = true := by
  unfold joinedFacts
  exact (band (band (band (band (band (band (band (band (band (band (band (band (band (band (band (band (band (band (band (band (band (band (band (band (band (band (band (band (band (band (band jf0 jf1) jf2) jf3) jf4) jf5) jf6) jf7) jf8) jf9) jf10) jf11) jf12) jf13) jf14) jf15) jf16) jf17) jf18) jf19) jf20) jf21) jf22) jf23) jf24) jf25) jf26) jf27) (by kernel_rfl)) jf29) jf30) jf31)
theorem named : Tryz.pinned.checked.prog.funcNamed Rows.fnExactWindowNearUptoRow.func = some 6 := by kernel_rfl
theorem inst : Tryz.f6.isInstance Tryz.pinned.checked.prog Rows.fnExactWindowNearUptoRow.origin Rows.fnExactWindowNearUptoRow.targs := of_decide_eq_true (by kernel_rfl)
theorem wrap : Tryz.f6.isWrapper Tryz.pinned.checked.prog Rows.fnExactWindowNearUptoRow.wrapper Rows.fnExactWindowNearUptoRow.mainSum := by
  unfold Func.isWrapper
  first | (rw [if_pos (by decide +kernel)]; kernel_rfl) | (rw [if_neg (by decide +kernel)]; exact ⟨rfl, rfl⟩)
theorem goes : false = Rows.fnExactWindowNearUptoRow.goesBy Tryz.pinned.checked.prog := by kernel_rfl
theorem wfBy : Rows.fnExactWindowNearUptoRow.wfByText (Rows.OpenSpec.upto Rows.fnExactWindowNearSpec) = true := by kernel_rfl
theorem mainIs : Tryz.pinned.checked.prog.mainIs = some ((Rows.fnExactWindowNearUptoCard.stood.harness).1, (Rows.fnExactWindowNearUptoCard.stood.harness).2.toList) := by kernel_rfl
theorem saidUpto : Rows.FnExactWindowNearUptoSaid :=
  OpenClaim.holds_of_cond 6 Tryz.f6 rfl rfl rfl rfl rfl rfl rfl ⟨rfl, rfl, rfl, rfl, rfl⟩ rfl rfl rfl rfl rfl named Tryz.func6 closed
    inst wrap
    (fun os started H enc _ F => by rw [OpenClaim.pre_eq_preRow]; exact lifted os started H enc F)
theorem plain (f : FuncId) (fn : Func) (hf : Tryz.pinned.checked.prog.funcNamed "loop.example/guilloche/laws.FnExactWindowNear" = some f) (hfn : Tryz.pinned.checked.prog.funcs[f]? = some fn) :
    false = Tryz.pinned.checked.prog.looks [] ∧ ∀ (j : Nat) t, fn.params[j]? = some t → Tryz.pinned.checked.prog.wantsStandIn t = false := by
  obtain rfl : f = 6 := Option.some.inj ((show Tryz.prog.funcNamed "loop.example/guilloche/laws.FnExactWindowNear" = some 6 by kernel_rfl).symm.trans hf) |>.symm
  obtain rfl : fn = Tryz.f6 := (Option.some.inj (Tryz.func6.symm.trans hfn)).symm
  refine ⟨by kernel_rfl, fun j t ht => ?_⟩
  have hall : (Tryz.f6.params.all fun t => !Tryz.prog.wantsStandIn t) = true := by kernel_rfl
  have := Array.all_eq_true_iff_forall_mem.1 hall t (Array.mem_of_getElem? ht)
  have h2 : Tryz.prog.wantsStandIn t = false := by simpa using this
  exact h2
theorem card : Rows.FnExactWindowNearUptoCardSaid :=
  Claim7.holds_tied_plain_at .later [] _ _ _ _ saidUpto (fun _ h => by cases h) wfBy (fun _ h => by cases h) fnExactWindowNearUpto_row_tie rfl ⟨rfl, rfl⟩ mainIs rfl plain goes
#print axioms card
end Go.Proofs.YtknhiboiffmaeaaGreatDoor.fnExactWindowNear
end

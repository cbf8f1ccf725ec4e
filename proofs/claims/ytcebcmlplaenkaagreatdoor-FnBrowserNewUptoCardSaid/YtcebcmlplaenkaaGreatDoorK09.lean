/- Part 9 of the proof of the card of laws.Rows.FnBrowserNew: lemmas. No condition. -/
import Derived.Test.YtcebcmlplaenkaaGreatDoorK08
import Derived.KernelRfl
import Derived.ChangeArms
import Derived.ChangeMaps5
import Derived.OpenVars
import Derived.ChangeSame
import Derived.Test.YtcebcmlplaenkaaGreatDoorK01
import Derived.Test.YtcebcmlplaenkaaGreatDoorK02
import Derived.Test.YtcebcmlplaenkaaGreatDoorK03
import Derived.Test.YtcebcmlplaenkaaGreatDoorK04
import Derived.Test.YtcebcmlplaenkaaGreatDoorK05
import Derived.Test.YtcebcmlplaenkaaGreatDoorK06
import Derived.Test.YtcebcmlplaenkaaGreatDoorK07
set_option linter.unusedVariables false
set_option linter.unusedSimpArgs false
section
set_option linter.unusedVariables false
set_option linter.unusedSimpArgs false
set_option maxRecDepth 100000
namespace Go.Gx
open Go.Proofs
def allSteps : List Frame → List Int
  | [] => []
  | f :: r => f.Hist.map (·.Step) ++ allSteps r
theorem allSteps_app : ∀ a b : List Frame, allSteps (a ++ b) = allSteps a ++ allSteps b
  | [], b => rfl
  | f :: a, b => by simp [allSteps, allSteps_app a b]
def cntE : List Frame → Nat
  | [] => 0
  | f :: r => f.Hist.length + cntE r
theorem allSteps_len : ∀ l : List Frame, (allSteps l).length = cntE l
  | [] => rfl
  | f :: r => by simp [allSteps, cntE, allSteps_len r]
theorem cntE_app : ∀ a b : List Frame, cntE (a ++ b) = cntE a + cntE b
  | [], b => by simp [cntE]
  | f :: a, b => by simp [cntE, cntE_app a b]; omega
theorem cntE_take (l : List Frame) (i : Nat) (h : i < l.length) : cntE (l.take i) + l[i].Hist.length ≤ cntE l := by
  have : l = l.take i ++ (l[i] :: l.drop (i + 1)) := by rw [← List.drop_eq_getElem_cons h, List.take_append_drop]
  have e := congrArg cntE this
  rw [cntE_app] at e
  simp only [cntE] at e
  omega
def stepsF (w : Window) : List Int := Lib.compact (sortI (allSteps w.Frames))
def E62 : Env := { T := Tz.tab, G := Gl, C := [(99, ct99), (100, ct100), (70, ct70)], live := [(0, [1]), (1, [1, 3]), (2, [3, 9, 10, 11]), (3, [3, 9, 10, 11, 12]), (4, [3, 5, 9, 10, 11]), (5, [3, 9, 10, 11, 16, 17, 18]), (6, [3, 9, 10, 11, 16, 17, 18, 19]), (7, [3, 7, 9, 10, 11, 16, 17, 18]), (8, [3, 9, 10, 11, 16, 17, 18]), (9, [3, 9, 10, 11, 16, 17, 18]), (10, [3, 9, 10, 11]), (11, [3]), (12, [2])] }
def ct62 : Ct := .pure (dom1 tWindow (fun w => cntE w.Frames ≤ 1048576)) (fn1 tWindow fun w => [tInts.enc (stepsF w)])
attribute [go_sem] E62 ct62 Go.Proofs.Tryz.f62
set_option maxHeartbeats 2000000 in
theorem ok62 : CtOk Tryz.prog Gl 62 ct62 := okA1 (E := E62) (sound_of Tz.tab_ok Tz.mixed (AllOk.cons ok99 (AllOk.cons ok100 (AllOk.cons ok70 AllOk.nil)))) rfl Tryz.func62 (by kernel_rfl) fun w fw hp => by
  have gw := fw
  have fw := fit_window fw
  refine vcFn_intro rfl rfl (by kernel_rfl) rfl ?_
  have fH : ∀ f ∈ w.Frames, Fit f.Hist.length := fun f hf => (FrameFit_el (WindowFit.Frames (fit_window gw)).2 hf).Hist.1
  have fF := (WindowFit.Frames (fit_window gw)).1
  repeat (dsimp +instances only [go_sem, Nat.reduceBEq, Nat.reduceAdd, Nat.reduceSub, Nat.reduceLT, Nat.reduceLeDiff]; try simp only [b1, b2, b3, b4, b5, Nat.reduceAdd, Int.reduceToNat, Int.reduceLE, Int.reduceLT, sliceL, flatRows, allFlat, flatC, Nat.reduceLT, Nat.reduceMul, Nat.reduceLeDiff, implies_true, imp_self])
  refine vcC_loopN [3, 9, 10, 11] (fun (i : Nat) => i ≤ w.Frames.length) (fun i => [.pth 0 1 0 (allSteps (w.Frames.take i)).length, .cv (.sl 4 (w.Frames.map rFrame.enc)), .cv (.int .i64 w.Frames.length), .cv (.int .i64 i)]) (fun i => [.row 1 ((allSteps (w.Frames.take i)).map rInt.enc) []]) (fun i => w.Frames.length - i) 0 [(3, false)] (by simp) ⟨rfl, rfl⟩ ?_
  intro i hi
  rcases Nat.lt_or_ge i w.Frames.length with hlt | hge
  · have hg := getD_at rFrame hlt
    have hfit := fH _ (List.getElem_mem hlt)
    have hcn := cntE_take w.Frames i hlt
    have htk := take_snoc hlt
    generalize hf : w.Frames[i] = f at *
    generalize hS : allSteps (w.Frames.take i) = S at *
    have hSl : S.length = cntE (w.Frames.take i) := by rw [← hS, allSteps_len]
    try dsimp +instances only [go_sem, Nat.reduceBEq, Nat.reduceAdd, Nat.reduceSub, Nat.reduceLT, Nat.reduceLeDiff]
    repeat (simp only [hg, rFrame_enc, Int.toNat_natCast, b1, b2, b3, b4, b5, Nat.reduceAdd, Int.reduceToNat, Int.reduceLE, Int.reduceLT, sliceL, flatRows, allFlat, flatC, Nat.reduceLT, Nat.reduceMul, Nat.reduceLeDiff, implies_true, imp_self]; try dsimp +instances only [go_sem, Nat.reduceBEq, Nat.reduceAdd, Nat.reduceSub, Nat.reduceLT, Nat.reduceLeDiff])
    try simp only [n1, n2, forall_const, reduceCtorEq, false_implies, hlt, decide_true]
    refine vcC_loop [3, 9, 10, 11, 16, 17, 18] (fun (j : Nat) => j ≤ f.Hist.length) (fun j => [.pth 0 1 0 (S ++ (f.Hist.take j).map (·.Step)).length, .cv (.sl 4 (w.Frames.map rFrame.enc)), .cv (.int .i64 w.Frames.length), .cv (.int .i64 i), .cv (.sl 17 (f.Hist.map rEntry.enc)), .cv (.int .i64 f.Hist.length), .cv (.int .i64 j)]) (fun j => [.row 1 ((S ++ (f.Hist.take j).map (·.Step)).map rInt.enc) []]) (fun j => f.Hist.length - j) 0 (by simp) ⟨by simp; rfl, by simp; rfl⟩ ?_
    intro j hj
    rcases Nat.lt_or_ge j f.Hist.length with hjlt | hjge
    · have hg2 := getD_at rEntry hjlt
      try dsimp +instances only [go_sem, Nat.reduceBEq, Nat.reduceAdd, Nat.reduceSub, Nat.reduceLT, Nat.reduceLeDiff]
      repeat (simp only [hg2, rEntry_enc, Int.toNat_natCast, b1, b2, b3, b4, b5, Nat.reduceAdd, Int.reduceToNat, Int.reduceLE, Int.reduceLT, sliceL, flatRows, allFlat, flatC, Nat.reduceLT, Nat.reduceMul, Nat.reduceLeDiff, implies_true, imp_self]; try dsimp +instances only [go_sem, Nat.reduceBEq, Nat.reduceAdd, Nat.reduceSub, Nat.reduceLT, Nat.reduceLeDiff])
      try simp only [n1, n2, forall_const, reduceCtorEq, false_implies, hjlt, decide_true]
      have htl : (f.Hist.take j).length = j := by simp; omega
      rw [htl]
      have htj := take_snoc hjlt
      refine ⟨by omega, by omega, nextL_intro (j + 1) (by omega) (by omega) ?_ ?_⟩
      · simp only [htj, List.length_append, List.length_map, htl, List.length_cons, List.length_nil]; rfl
      · have hln : ((S ++ (f.Hist.take j).map (·.Step)).map rInt.enc).length = S.length + j := by simp; omega
        rw [← hln, List.take_length, htj]
        simp only [List.map_append, List.map_cons, List.map_nil, List.append_assoc]
        rfl
    · have : j = f.Hist.length := by omega
      subst this
      repeat (dsimp +instances only [go_sem, Nat.reduceBEq, Nat.reduceAdd, Nat.reduceSub, Nat.reduceLT, Nat.reduceLeDiff]; try simp only [b1, b2, b3, b4, b5, Nat.reduceAdd, Int.reduceToNat, Int.reduceLE, Int.reduceLT, sliceL, flatRows, allFlat, flatC, Nat.reduceLT, Nat.reduceMul, Nat.reduceLeDiff, implies_true, imp_self])
      try simp only [n1, n2, forall_const, reduceCtorEq, false_implies, Nat.lt_irrefl]
      have hS1 : allSteps (w.Frames.take (i + 1)) = S ++ f.Hist.map (·.Step) := by rw [htk, allSteps_app, hS]; simp [allSteps]
      refine fun _ => ⟨by omega, nextL_intro (i + 1) (by omega) (by omega) ?_ ?_⟩
      · simp only [hS1, List.length_append, List.length_map]; rfl
      · simp only [hS1]
  · have : i = w.Frames.length := by omega
    subst this
    repeat (dsimp +instances only [go_sem, Nat.reduceBEq, Nat.reduceAdd, Nat.reduceSub, Nat.reduceLT, Nat.reduceLeDiff]; try simp only [b1, b2, b3, b4, b5, Nat.reduceAdd, Int.reduceToNat, Int.reduceLE, Int.reduceLT, sliceL, flatRows, allFlat, flatC, Nat.reduceLT, Nat.reduceMul, Nat.reduceLeDiff, implies_true, imp_self])
    try simp only [n1, n2, forall_const, reduceCtorEq, false_implies, Nat.lt_irrefl]
    have hl := allSteps_len w.Frames
    have hl1 : (sortI (allSteps w.Frames)).length = (allSteps w.Frames).length := by simp [sortI]
    have hl2 := compact_len (sortI (allSteps w.Frames))
    exact fun _ => ⟨hl1.symm, by omega, by omega, rfl⟩
end Go.Gx
end
section
set_option linter.unusedVariables false
set_option linter.unusedSimpArgs false
set_option maxRecDepth 100000
namespace Go.Gx
open Go.Proofs
def allKeys : List Frame → List Int
  | [] => []
  | f :: r => f.Hist.map (·.Key) ++ allKeys r
theorem allKeys_app : ∀ a b : List Frame, allKeys (a ++ b) = allKeys a ++ allKeys b
  | [], b => rfl
  | f :: a, b => by simp [allKeys, allKeys_app a b]
def entOk2 (w : Window) (i : Int) (e : Entry) : Bool := decide (1 ≤ e.Doc ∧ e.Doc ≤ w.NextDoc - 1) && decide (1 ≤ e.Key ∧ e.Key ≤ w.NextKey - 1) && decide (ownerF w e.Doc = i)
def entsGo (w : Window) (i : Int) : List Int → List Entry → Bool
  | _, [] => true
  | ks, e :: r => (entOk2 w i e && !decide (e.Key ∈ ks)) && entsGo w i (ks ++ [e.Key]) r
def lowOk (s : Str) : Bool := decide (s.length ≤ 8 ∧ ∀ c ∈ s, 97 ≤ c.toNat ∧ c.toNat ≤ 122)
def frOk (i : Nat) (f : Frame) : Bool := histOk f.Hist && decide (f.Hist ≠ []) && lowOk f.Name && decide (i = 0 ↔ f.Within = 0)
def framesGo (w : Window) : Nat → List Int → List Frame → Bool
  | _, _, [] => true
  | i, ks, f :: r => (frOk i f && entsGo w i ks f.Hist) && framesGo w (i + 1) (ks ++ f.Hist.map (·.Key)) r
def treeOk (w : Window) (i : Nat) : Bool := decide (0 < i → 0 ≤ ownerF w (w.Frames.getD i default).Within) && decide (depthF w i ≤ 3)
def headOk (w : Window) : Bool := decide (1 ≤ w.Frames.length ∧ w.Frames.length ≤ 8) && decide (0 ≤ w.Step ∧ w.Step ≤ 60) && decide (2 ≤ w.NextDoc ∧ w.NextDoc ≤ 9999) && decide (2 ≤ w.NextKey ∧ w.NextKey ≤ 9999)
def step0 (w : Window) : Int := ((w.Frames.getD 0 default).Hist.getD 0 default).Step
def winOk (w : Window) : Bool := headOk w && framesGo w 0 [] w.Frames && (List.range w.Frames.length).all (treeOk w) && decide (w.Step ∈ stepsF w) && decide (step0 w = 0)
def smallW (w : Window) : Prop := ∀ f ∈ w.Frames, smallH f.Hist
theorem mapB_mem (k : Int) : ∀ ks : List Int, assocB (ks.map (·, true)) k = decide (k ∈ ks)
  | [] => by simp [assocB]
  | a :: r => by
    rw [List.map_cons, assocB, mapB_mem k r]
    by_cases h : a = k
    · subst h; simp
    · have : (a == k) = false := by simpa using h
      rw [this, cond_false]; simp; intro h2; exact absurd h2.symm h
theorem mapB_new (k : Int) : ∀ ks : List Int, k ∉ ks → updB (ks.map (·, true)) k true = (ks ++ [k]).map (·, true)
  | [], _ => rfl
  | a :: r, h => by
    have h1 : (a == k) = false := by simpa using fun h2 => h (by simp [h2])
    rw [List.map_cons, updB, h1, cond_false, mapB_new k r (fun h2 => h (List.mem_cons_of_mem _ h2))]
    rfl
theorem histOk_len {l : List Entry} (h : histOk l = true) : l.length ≤ 20 := by
  unfold histOk at h
  rw [Bool.and_eq_true] at h
  simpa using h.2
theorem cntE_le : ∀ l : List Frame, (∀ f ∈ l, f.Hist.length ≤ 20) → cntE l ≤ 20 * l.length
  | [], _ => by simp [cntE]
  | f :: r, h => by
    have h1 := h f (by simp)
    have h2 := cntE_le r fun g hg => h g (by simp [hg])
    simp only [cntE, List.length_cons]; omega
theorem frOk_no {i : Nat} {f : Frame} (h : (((!histOk f.Hist) = true ∨ (f.Hist.length : Int) = 0) ∨ (!decide (f.Name.length ≤ 8 ∧ ∀ (c : UInt8), c ∈ f.Name → 97 ≤ c.toNat ∧ c.toNat ≤ 122)) = true) ∨ (decide ((i : Int) = 0) != decide (f.Within = 0)) = true) : frOk i f = false := by
  unfold frOk
  change (histOk f.Hist && _ && decide _ && _) = _
  rcases h with ((h | h) | h) | h
  · have : histOk f.Hist = false := by simpa using h
    rw [this]; rfl
  · have : f.Hist = [] := List.eq_nil_of_length_eq_zero (by omega)
    first | (rw [this]; simp) | (change (_ && _ && lowOk f.Name && _) = _; rw [this]; simp)
  · have : lowOk f.Name = false := by rw [← Bool.not_eq_true']; exact h
    first | (rw [this]; simp) | (change (_ && _ && lowOk f.Name && _) = _; rw [this]; simp)
  · grind
theorem frOk_yes {i : Nat} {f : Frame} (h : ((histOk f.Hist = true ∧ ¬(f.Hist.length : Int) = 0) ∧ f.Name.length ≤ 8 ∧ ∀ (c : UInt8), c ∈ f.Name → 97 ≤ c.toNat ∧ c.toNat ≤ 122) ∧ (decide ((i : Int) = 0) != decide (f.Within = 0)) = false) : frOk i f = true := by
  obtain ⟨⟨⟨h1, h2⟩, h3⟩, h4⟩ := h
  have h5 : lowOk f.Name = true := by unfold lowOk; exact decide_eq_true h3
  have h6 : f.Hist ≠ [] := by intro h; rw [h] at h2; simp at h2
  unfold frOk
  rw [h1, h5, decide_eq_true h6]
  grind
def E25 : Env := { T := Tz.tab, G := Gl, C := [(54, ct54), (65, ct65), (66, ct66), (67, ct67), (68, ct68), (62, ct62), (69, ct69)], ord := [(23, [0, 2, 3, 1, 4, 5, 6, 7, 8, 9, 10, 11, 12, 13, 14, 15, 16])], live := [(0, [1]), (1, [1, 32]), (2, [2]), (3, [1, 3]), (4, [1, 3, 35, 36, 37]), (5, [1, 3, 35, 36, 37, 38]), (6, [1, 3, 4, 5, 35, 36, 37]), (7, [1, 3, 4, 5, 35, 36, 37, 65]), (8, [2]), (9, [1, 3, 4, 35, 36, 37, 67, 68, 69]), (10, [1, 3, 4, 35, 36, 37, 67, 68, 69, 70]), (11, [1, 3, 4, 7, 35, 36, 37, 67, 68, 69]), (12, [1, 3, 4, 7, 35, 36, 37, 67, 68, 69, 102]), (13, [2]), (14, [1, 3, 4, 35, 36, 37, 67, 68, 69]), (15, [1, 3, 4, 35, 36, 37, 67, 68, 69]), (16, [1, 3, 35, 36, 37]), (17, [1, 109, 110, 111]), (18, [1, 109, 110, 111, 112]), (19, [1, 8, 9, 109, 110, 111]), (20, [1, 109, 110, 111, 130]), (21, [2]), (22, [1, 109, 110, 111]), (23, [2])] }
def ct25 : Ct := .scal (dom1 tWindow (fun w => smallW w)) (fn1 tWindow fun w => [tBool.enc (winOk w)])
attribute [go_sem] E25 ct25 Go.Proofs.Tryz.f25
set_option maxHeartbeats 8000000 in
theorem ok25 : CtOk Tryz.prog Gl 25 ct25 := okA1 (E := E25) (sound_of Tz.tab_ok Tz.mixed (AllOk.cons ok54 (AllOk.cons ok65 (AllOk.cons ok66 (AllOk.cons ok67 (AllOk.cons ok68 (AllOk.cons ok62 (AllOk.cons ok69 AllOk.nil)))))))) rfl Tryz.func25 (by kernel_rfl) fun w fw hp => by
  have gw := fw
  have fw := fit_window fw
  refine vcFn_intro rfl rfl (by kernel_rfl) rfl ?_
  have fH : ∀ f ∈ w.Frames, Fit f.Hist.length := fun f hf => (FrameFit_el (WindowFit.Frames (fit_window gw)).2 hf).Hist.1
  have fF := (WindowFit.Frames (fit_window gw)).1
  repeat (dsimp +instances only [go_sem, Nat.reduceBEq, Nat.reduceAdd, Nat.reduceSub, Nat.reduceLT, Nat.reduceLeDiff]; try simp only [b1, b2, b3, b4, b5, Nat.reduceAdd, Int.reduceToNat, Int.reduceLE, Int.reduceLT, sliceL, flatRows, allFlat, flatC, Nat.reduceLT, Nat.reduceMul, Nat.reduceLeDiff, implies_true, imp_self])
  try simp only [n1, n2, forall_const, reduceCtorEq, false_implies]
  have hhd : winOk w = (headOk w && framesGo w 0 [] w.Frames && (List.range w.Frames.length).all (treeOk w) && decide (w.Step ∈ stepsF w) && decide (step0 w = 0)) := rfl
  refine ⟨fun h => ?_, fun ho => ?_⟩
  · have : headOk w = false := by unfold headOk; grind
    rw [hhd, this]; rfl
  have hh : headOk w = true := by unfold headOk; grind
  rw [hh, Bool.true_and] at hhd
  refine vcC_loop [1, 3, 35, 36, 37] (fun (i : Nat) => i ≤ w.Frames.length ∧ framesGo w i (allKeys (w.Frames.take i)) (w.Frames.drop i) = framesGo w 0 [] w.Frames ∧ ∀ f ∈ w.Frames.take i, f.Hist.length ≤ 20 ∧ f.Hist ≠ []) (fun i => [.ptr 0 4 0 0, .mp 1, .cv (.sl 4 (w.Frames.map rFrame.enc)), .cv (.int .i64 w.Frames.length), .cv (.int .i64 i)]) (fun i => [.boxT 0 [.cv (.sl 4 (w.Frames.map rFrame.enc)), .cv (.int .i64 w.Step), .cv (.int .i64 w.NextDoc), .cv (.int .i64 w.NextKey)], .mapI ((allKeys (w.Frames.take i)).map (·, true))]) (fun i => w.Frames.length - i) 0 (by simp [allKeys]) ⟨rfl, rfl⟩ ?_
  rintro i ⟨hi, he, hs⟩
  rcases Nat.lt_or_ge i w.Frames.length with hlt | hge
  · have hg := getD_at rFrame hlt
    have hmem := List.getElem_mem hlt
    have hfit := fH _ hmem
    have hsm := hp _ hmem
    have htk := take_snoc hlt
    rw [List.drop_eq_getElem_cons hlt, framesGo] at he
    generalize hf : w.Frames[i] = f at *
    try dsimp +instances only [go_sem, Nat.reduceBEq, Nat.reduceAdd, Nat.reduceSub, Nat.reduceLT, Nat.reduceLeDiff]
    repeat (simp only [hg, rFrame_enc, Int.toNat_natCast, b1, b2, b3, b4, b5, Nat.reduceAdd, Int.reduceToNat, Int.reduceLE, Int.reduceLT, sliceL, flatRows, allFlat, flatC, Nat.reduceLT, Nat.reduceMul, Nat.reduceLeDiff, implies_true, imp_self]; try dsimp +instances only [go_sem, Nat.reduceBEq, Nat.reduceAdd, Nat.reduceSub, Nat.reduceLT, Nat.reduceLeDiff])
    try simp only [n1, n2, forall_const, reduceCtorEq, false_implies, hlt, decide_true]
    generalize hK : allKeys (w.Frames.take i) = ks at *
    refine ⟨hsm, fun h => ?_, fun hfo => ?_⟩
    · rw [hhd, ← he, frOk_no h]; simp only [Bool.false_and]
    have hfy := frOk_yes hfo
    have h20 := histOk_len hfo.1.1.1
    rw [hfy, Bool.true_and] at he
    refine vcC_loop [1, 3, 4, 35, 36, 37, 67, 68, 69] (fun (j : Nat) => j ≤ f.Hist.length ∧ entsGo w i (ks ++ (f.Hist.take j).map (·.Key)) (f.Hist.drop j) = entsGo w i ks f.Hist) (fun j => [.ptr 0 4 0 0, .mp 1, .cv (.int .i64 i), .cv (.sl 4 (w.Frames.map rFrame.enc)), .cv (.int .i64 w.Frames.length), .cv (.int .i64 i), .cv (.sl 17 (f.Hist.map rEntry.enc)), .cv (.int .i64 f.Hist.length), .cv (.int .i64 j)]) (fun j => [.boxT 0 [.cv (.sl 4 (w.Frames.map rFrame.enc)), .cv (.int .i64 w.Step), .cv (.int .i64 w.NextDoc), .cv (.int .i64 w.NextKey)], .mapI ((ks ++ (f.Hist.take j).map (·.Key)).map (·, true))]) (fun j => f.Hist.length - j) 0 (by simp) ⟨rfl, by simp; rfl⟩ ?_
    rintro j ⟨hj, hje⟩
    rcases Nat.lt_or_ge j f.Hist.length with hjlt | hjge
    · have hg2 := getD_at rEntry hjlt
      have htj := take_snoc hjlt
      rw [List.drop_eq_getElem_cons hjlt, entsGo] at hje
      have hkj : ks ++ (f.Hist.take (j + 1)).map (·.Key) = ks ++ (f.Hist.take j).map (·.Key) ++ [f.Hist[j].Key] := by rw [htj, List.map_append, List.append_assoc]; rfl
      rw [← hkj] at hje
      generalize hk1 : ks ++ (f.Hist.take j).map (·.Key) = k1 at *
      generalize f.Hist[j] = e at *
      have hmb := mapB_mem e.Key k1
      try dsimp +instances only [go_sem, Nat.reduceBEq, Nat.reduceAdd, Nat.reduceSub, Nat.reduceLT, Nat.reduceLeDiff]
      repeat (simp only [hg2, rEntry_enc, Int.toNat_natCast, b1, b2, b3, b4, b5, Nat.reduceAdd, Int.reduceToNat, Int.reduceLE, Int.reduceLT, sliceL, flatRows, allFlat, flatC, Nat.reduceLT, Nat.reduceMul, Nat.reduceLeDiff, implies_true, imp_self]; try dsimp +instances only [go_sem, Nat.reduceBEq, Nat.reduceAdd, Nat.reduceSub, Nat.reduceLT, Nat.reduceLeDiff])
      try simp only [n1, n2, forall_const, reduceCtorEq, false_implies, hjlt, decide_true]
      try rw [hmb]
      have heo : entOk2 w i e = (decide (1 ≤ e.Doc ∧ e.Doc ≤ w.NextDoc - 1) && decide (1 ≤ e.Key ∧ e.Key ≤ w.NextKey - 1) && decide (ownerF w e.Doc = i)) := rfl
      refine ⟨by omega, fun _ => by omega, fun h => ?_, fun h => ⟨by omega, nextL_intro (j + 1) ⟨by omega, ?_⟩ (by omega) rfl ?_⟩⟩
      · have : (entOk2 w i e && !decide (e.Key ∈ k1)) = false := by rw [heo]; grind
        rw [this, Bool.false_and] at hje
        rw [hhd, ← he, ← hje]; simp only [Bool.false_and]
      · have : (entOk2 w i e && !decide (e.Key ∈ k1)) = true := by rw [heo]; grind
        rw [this, Bool.true_and] at hje
        exact hje
      · have hn : e.Key ∉ k1 := by simpa using h.1.2
        simp only [hkj, mapB_new _ _ hn]
    · have : j = f.Hist.length := by omega
      subst this
      rw [List.drop_length, entsGo] at hje
      rw [← hje, Bool.true_and] at he
      repeat (dsimp +instances only [go_sem, Nat.reduceBEq, Nat.reduceAdd, Nat.reduceSub, Nat.reduceLT, Nat.reduceLeDiff]; try simp only [b1, b2, b3, b4, b5, Nat.reduceAdd, Int.reduceToNat, Int.reduceLE, Int.reduceLT, sliceL, flatRows, allFlat, flatC, Nat.reduceLT, Nat.reduceMul, Nat.reduceLeDiff, implies_true, imp_self])
      try simp only [n1, n2, forall_const, reduceCtorEq, false_implies, Nat.lt_irrefl]
      have hK1 : allKeys (w.Frames.take (i + 1)) = ks ++ f.Hist.map (·.Key) := by rw [htk, allKeys_app, hK]; simp [allKeys]
      exact fun _ => ⟨by omega, nextL_intro (i + 1) ⟨by omega, by rw [hK1]; exact he, fun g hg => by
        rw [htk, List.mem_append, List.mem_singleton] at hg
        rcases hg with hg | rfl
        · exact hs g hg
        · exact ⟨h20, by intro h; have := hfo.1.1.2; rw [h] at this; simp at this⟩⟩ (by omega) rfl (by simp only [hK1])⟩
  · have : i = w.Frames.length := by omega
    subst this
    rw [List.drop_length, framesGo] at he
    rw [List.take_length] at hs
    repeat (dsimp +instances only [go_sem, Nat.reduceBEq, Nat.reduceAdd, Nat.reduceSub, Nat.reduceLT, Nat.reduceLeDiff]; try simp only [b1, b2, b3, b4, b5, Nat.reduceAdd, Int.reduceToNat, Int.reduceLE, Int.reduceLT, sliceL, flatRows, allFlat, flatC, Nat.reduceLT, Nat.reduceMul, Nat.reduceLeDiff, implies_true, imp_self])
    try simp only [n1, n2, forall_const, reduceCtorEq, false_implies, Nat.lt_irrefl]
    rw [← he, Bool.true_and] at hhd
    refine fun _ => vcC_loop [1, 109, 110, 111] (fun (i : Nat) => i ≤ w.Frames.length ∧ ∀ k < i, treeOk w k = true) (fun i => [.ptr 0 4 0 0, .cv (.sl 4 (w.Frames.map rFrame.enc)), .cv (.int .i64 w.Frames.length), .cv (.int .i64 i)]) (fun i => [.boxT 0 [.cv (.sl 4 (w.Frames.map rFrame.enc)), .cv (.int .i64 w.Step), .cv (.int .i64 w.NextDoc), .cv (.int .i64 w.NextKey)]]) (fun i => w.Frames.length - i) 0 (by simp) ⟨rfl, rfl⟩ ?_
    rintro i ⟨hi, he2⟩
    rcases Nat.lt_or_ge i w.Frames.length with hlt | hge2
    · have hg := getD_at rFrame hlt
      have htr : treeOk w i = (decide (0 < i → 0 ≤ ownerF w (w.Frames.getD i default).Within) && decide (depthF w i ≤ 3)) := rfl
      rw [getD_lt hlt] at htr
      generalize w.Frames[i] = f at *
      try dsimp +instances only [go_sem, Nat.reduceBEq, Nat.reduceAdd, Nat.reduceSub, Nat.reduceLT, Nat.reduceLeDiff]
      repeat (simp only [hg, rFrame_enc, Int.toNat_natCast, b1, b2, b3, b4, b5, Nat.reduceAdd, Int.reduceToNat, Int.reduceLE, Int.reduceLT, sliceL, flatRows, allFlat, flatC, Nat.reduceLT, Nat.reduceMul, Nat.reduceLeDiff, implies_true, imp_self]; try dsimp +instances only [go_sem, Nat.reduceBEq, Nat.reduceAdd, Nat.reduceSub, Nat.reduceLT, Nat.reduceLeDiff])
      try simp only [n1, n2, forall_const, reduceCtorEq, false_implies, hlt, decide_true]
      refine ⟨fun _ => trivial, fun h => ?_, fun h => ⟨by omega, nextL_intro (i + 1) ⟨by omega, fun k hk => ?_⟩ (by omega) rfl rfl⟩⟩
      · have h0 : treeOk w i = false := by rw [htr]; grind
        have : (List.range w.Frames.length).all (treeOk w) = false := by
          rw [List.all_eq_false]; exact ⟨i, List.mem_range.2 hlt, by rw [h0]; simp⟩
        rw [hhd, this]; simp only [Bool.false_and]
      · rcases Nat.lt_or_ge k i with h1 | h1
        · exact he2 k h1
        · obtain rfl : k = i := by omega
          rw [htr]; grind
    · have : i = w.Frames.length := by omega
      subst this
      have hall : (List.range w.Frames.length).all (treeOk w) = true := by
        rw [List.all_eq_true]; intro x hx; exact he2 x (List.mem_range.1 hx)
      rw [hall, Bool.true_and] at hhd
      have h0 : 0 < w.Frames.length := by omega
      have hg0 := getD_at rFrame h0
      have hs0 : step0 w = ((w.Frames.getD 0 default).Hist.getD 0 default).Step := rfl
      rw [getD_lt h0] at hs0
      have hh0 := (hs _ (List.getElem_mem h0)).2
      have hcn := cntE_le w.Frames fun f hf => (hs f hf).1
      generalize w.Frames[0] = f at *
      have h1 : 0 < f.Hist.length := List.length_pos_iff.2 hh0
      have hg1 := getD_at rEntry h1
      rw [getD_lt h1] at hs0
      generalize f.Hist[0] = e at *
      try dsimp +instances only [go_sem, Nat.reduceBEq, Nat.reduceAdd, Nat.reduceSub, Nat.reduceLT, Nat.reduceLeDiff]
      repeat (simp only [hg0, rFrame_enc, hg1, rEntry_enc, b1, b2, b3, b4, b5, Nat.reduceAdd, Int.reduceToNat, Int.reduceLE, Int.reduceLT, sliceL, flatRows, allFlat, flatC, Nat.reduceLT, Nat.reduceMul, Nat.reduceLeDiff, implies_true, imp_self]; try dsimp +instances only [go_sem, Nat.reduceBEq, Nat.reduceAdd, Nat.reduceSub, Nat.reduceLT, Nat.reduceLeDiff])
      try simp only [n1, n2, forall_const, reduceCtorEq, false_implies, Nat.lt_irrefl]
      exact fun _ => ⟨by omega, fun _ => by omega, fun _ => by omega, by rw [hhd, hs0]⟩
end Go.Gx
end
section
set_option linter.unusedVariables false
set_option linter.unusedSimpArgs false
set_option maxRecDepth 100000
namespace Go.Gx
open Go.Proofs
def E48 : Env := { T := Tz.tab, G := Gl, C := [], live := [(0, [0, 1]), (1, [0, 1, 10]), (2, [4]), (3, [0, 1, 5]), (4, [0, 1, 5, 14]), (5, [0, 1, 5]), (6, [0, 1, 5, 25]), (7, [4]), (8, [4])] }
def ct48 : Ct := .scal (dom2 tStrs tStrs (fun a b => a = b)) (fn2 tStrs tStrs fun a b => [tBool.enc true])
attribute [go_sem] E48 ct48 Go.Proofs.Tryz.f48
theorem ok48 : CtOk Tryz.prog Gl 48 ct48 := okA2 (E := E48) (sound_of Tz.tab_ok Tz.mixed AllOk.nil) rfl Tryz.func48 (by kernel_rfl) fun a b fa fb hp => by
  have ga := fa
  have fa := fit_list fa
  have gb := fb
  have fb := fit_list fb
  refine vcFn_intro rfl rfl (by kernel_rfl) rfl ?_
  subst hp
  repeat (dsimp +instances only [go_sem, Nat.reduceBEq, Nat.reduceAdd, Nat.reduceSub, Nat.reduceLT, Nat.reduceLeDiff]; try simp only [b1, b2, b3, b4, b5, Nat.reduceAdd, Int.reduceToNat, Int.reduceLE, Int.reduceLT, sliceL, flatRows, allFlat, flatC, Nat.reduceLT, Nat.reduceMul, Nat.reduceLeDiff, implies_true, imp_self])
  try simp only [n1, n2, forall_const, reduceCtorEq, false_implies, not_true_eq_false, false_implies, true_and]
  refine vcC_loop [0, 1, 5] (fun (i : Nat) => i ≤ a.length) (fun i => [.cv (.sl 1 (a.map rStr.enc)), .cv (.sl 1 (a.map rStr.enc)), .cv (.int .i64 i)]) (fun _ => []) (fun i => a.length - i) 0 (by simp) ⟨rfl, rfl⟩ ?_
  rintro i hi
  rcases Nat.lt_or_ge i a.length with hlt | hge
  · have hg := getD_at rStr hlt
    try dsimp +instances only [go_sem, Nat.reduceBEq, Nat.reduceAdd, Nat.reduceSub, Nat.reduceLT, Nat.reduceLeDiff]
    repeat (simp only [hg, rStr_enc, Int.toNat_natCast, b1, b2, b3, b4, b5, Nat.reduceAdd, Int.reduceToNat, Int.reduceLE, Int.reduceLT, sliceL, flatRows, allFlat, flatC, Nat.reduceLT, Nat.reduceMul, Nat.reduceLeDiff, implies_true, imp_self]; try dsimp +instances only [go_sem, Nat.reduceBEq, Nat.reduceAdd, Nat.reduceSub, Nat.reduceLT, Nat.reduceLeDiff])
    try simp only [n1, n2, forall_const, reduceCtorEq, false_implies, hlt, decide_true, not_true_eq_false]
    exact ⟨by omega, nextL_intro (i + 1) (by omega) (by omega) rfl rfl⟩
  · have : i = a.length := by omega
    subst this
    repeat (dsimp +instances only [go_sem, Nat.reduceBEq, Nat.reduceAdd, Nat.reduceSub, Nat.reduceLT, Nat.reduceLeDiff]; try simp only [b1, b2, b3, b4, b5, Nat.reduceAdd, Int.reduceToNat, Int.reduceLE, Int.reduceLT, sliceL, flatRows, allFlat, flatC, Nat.reduceLT, Nat.reduceMul, Nat.reduceLeDiff, implies_true, imp_self])
    try simp only [n1, n2, forall_const, reduceCtorEq, false_implies, Nat.lt_irrefl]
def E47 : Env := { T := Tz.tab, G := Gl, C := [], live := [(0, [0, 1]), (1, [0, 1, 10]), (2, [4]), (3, [0, 1, 5]), (4, [0, 1, 5, 14]), (5, [0, 1, 5]), (6, [0, 1, 5, 25]), (7, [4]), (8, [4])] }
def ct47 : Ct := .scal (dom2 tCookieS tCookieS (fun a b => a = b)) (fn2 tCookieS tCookieS fun a b => [tBool.enc true])
attribute [go_sem] E47 ct47 Go.Proofs.Tryz.f47
theorem ok47 : CtOk Tryz.prog Gl 47 ct47 := okA2 (E := E47) (sound_of Tz.tab_ok Tz.mixed AllOk.nil) rfl Tryz.func47 (by kernel_rfl) fun a b fa fb hp => by
  have ga := fa
  have fa := fit_list fa
  have gb := fb
  have fb := fit_list fb
  refine vcFn_intro rfl rfl (by kernel_rfl) rfl ?_
  subst hp
  repeat (dsimp +instances only [go_sem, Nat.reduceBEq, Nat.reduceAdd, Nat.reduceSub, Nat.reduceLT, Nat.reduceLeDiff]; try simp only [b1, b2, b3, b4, b5, Nat.reduceAdd, Int.reduceToNat, Int.reduceLE, Int.reduceLT, sliceL, flatRows, allFlat, flatC, Nat.reduceLT, Nat.reduceMul, Nat.reduceLeDiff, implies_true, imp_self])
  try simp only [n1, n2, forall_const, reduceCtorEq, false_implies, not_true_eq_false, false_implies, true_and]
  refine vcC_loop [0, 1, 5] (fun (i : Nat) => i ≤ a.length) (fun i => [.cv (.sl 9 (a.map rCookie.enc)), .cv (.sl 9 (a.map rCookie.enc)), .cv (.int .i64 i)]) (fun _ => []) (fun i => a.length - i) 0 (by simp) ⟨rfl, rfl⟩ ?_
  rintro i hi
  rcases Nat.lt_or_ge i a.length with hlt | hge
  · have hg := getD_at rCookie hlt
    try dsimp +instances only [go_sem, Nat.reduceBEq, Nat.reduceAdd, Nat.reduceSub, Nat.reduceLT, Nat.reduceLeDiff]
    repeat (simp only [hg, rCookie_enc, Int.toNat_natCast, b1, b2, b3, b4, b5, Nat.reduceAdd, Int.reduceToNat, Int.reduceLE, Int.reduceLT, sliceL, flatRows, allFlat, flatC, Nat.reduceLT, Nat.reduceMul, Nat.reduceLeDiff, implies_true, imp_self]; try dsimp +instances only [go_sem, Nat.reduceBEq, Nat.reduceAdd, Nat.reduceSub, Nat.reduceLT, Nat.reduceLeDiff])
    try simp only [n1, n2, forall_const, reduceCtorEq, false_implies, hlt, decide_true, not_true_eq_false]
    exact ⟨rfl, by simp, fun _ => ⟨by omega, nextL_intro (i + 1) (by omega) (by omega) rfl rfl⟩⟩
  · have : i = a.length := by omega
    subst this
    repeat (dsimp +instances only [go_sem, Nat.reduceBEq, Nat.reduceAdd, Nat.reduceSub, Nat.reduceLT, Nat.reduceLeDiff]; try simp only [b1, b2, b3, b4, b5, Nat.reduceAdd, Int.reduceToNat, Int.reduceLE, Int.reduceLT, sliceL, flatRows, allFlat, flatC, Nat.reduceLT, Nat.reduceMul, Nat.reduceLeDiff, implies_true, imp_self])
    try simp only [n1, n2, forall_const, reduceCtorEq, false_implies, Nat.lt_irrefl]
def E19 : Env := { T := Tz.tab, G := Gl, C := [(48, ct48)], live := [(0, [2, 3]), (1, [2, 3, 81]), (2, [4]), (3, [4])] }
def ct19 : Ct := .scal (dom2 tUrl tUrl (fun a b => a = b)) (fn2 tUrl tUrl fun a b => [tBool.enc true])
attribute [go_sem] E19 ct19 Go.Proofs.Tryz.f19
theorem ok19 : CtOk Tryz.prog Gl 19 ct19 := okA2 (E := E19) (sound_of Tz.tab_ok Tz.mixed (AllOk.cons ok48 AllOk.nil)) rfl Tryz.func19 (by kernel_rfl) fun a b fa fb hp => by
  have ga := fa
  have fa := fit_url fa
  have gb := fb
  have fb := fit_url fb
  refine vcFn_intro rfl rfl (by kernel_rfl) rfl ?_
  subst hp
  repeat (dsimp +instances only [go_sem, Nat.reduceBEq, Nat.reduceAdd, Nat.reduceSub, Nat.reduceLT, Nat.reduceLeDiff]; try simp only [b1, b2, b3, b4, b5, Nat.reduceAdd, Int.reduceToNat, Int.reduceLE, Int.reduceLT, sliceL, flatRows, allFlat, flatC, Nat.reduceLT, Nat.reduceMul, Nat.reduceLeDiff, implies_true, imp_self])
  try simp only [n1, n2, forall_const, reduceCtorEq, false_implies, not_true_eq_false]
  exact ⟨rfl, by simp⟩
def E96 : Env := { T := Tz.tab, G := Gl, C := [(19, ct19)], live := [(0, [2, 3]), (1, [4])] }
def ct96 : Ct := .scal (dom2 tEntry tEntry (fun a b => a = b)) (fn2 tEntry tEntry fun a b => [tBool.enc true])
attribute [go_sem] E96 ct96 Go.Proofs.Tryz.f96
theorem ok96 : CtOk Tryz.prog Gl 96 ct96 := okA2 (E := E96) (sound_of Tz.tab_ok Tz.mixed (AllOk.cons ok19 AllOk.nil)) rfl Tryz.func96 (by kernel_rfl) fun a b fa fb hp => by
  have ga := fa
  have fa := fit_entry fa
  have gb := fb
  have fb := fit_entry fb
  refine vcFn_intro rfl rfl (by kernel_rfl) rfl ?_
  subst hp
  repeat (dsimp +instances only [go_sem, Nat.reduceBEq, Nat.reduceAdd, Nat.reduceSub, Nat.reduceLT, Nat.reduceLeDiff]; try simp only [b1, b2, b3, b4, b5, Nat.reduceAdd, Int.reduceToNat, Int.reduceLE, Int.reduceLT, sliceL, flatRows, allFlat, flatC, Nat.reduceLT, Nat.reduceMul, Nat.reduceLeDiff, implies_true, imp_self])
  try simp only [n1, n2, forall_const, reduceCtorEq, false_implies, not_true_eq_false]
  trace_state
def E60 : Env := { T := Tz.tab, G := Gl, C := [(96, ct96)], live := [(0, [0, 1]), (1, [0, 1, 10]), (2, [4]), (3, [0, 1, 5]), (4, [0, 1, 5, 14]), (5, [0, 1, 5]), (6, [0, 1, 5, 26]), (7, [4]), (8, [4])] }
def ct60 : Ct := .scal (dom2 tEntryS tEntryS (fun a b => a = b)) (fn2 tEntryS tEntryS fun a b => [tBool.enc true])
attribute [go_sem] E60 ct60 Go.Proofs.Tryz.f60
theorem ok60 : CtOk Tryz.prog Gl 60 ct60 := okA2 (E := E60) (sound_of Tz.tab_ok Tz.mixed (AllOk.cons ok96 AllOk.nil)) rfl Tryz.func60 (by kernel_rfl) fun a b fa fb hp => by
  have ga := fa
  have fa := fit_list fa
  have gb := fb
  have fb := fit_list fb
  refine vcFn_intro rfl rfl (by kernel_rfl) rfl ?_
  subst hp
  repeat (dsimp +instances only [go_sem, Nat.reduceBEq, Nat.reduceAdd, Nat.reduceSub, Nat.reduceLT, Nat.reduceLeDiff]; try simp only [b1, b2, b3, b4, b5, Nat.reduceAdd, Int.reduceToNat, Int.reduceLE, Int.reduceLT, sliceL, flatRows, allFlat, flatC, Nat.reduceLT, Nat.reduceMul, Nat.reduceLeDiff, implies_true, imp_self])
  try simp only [n1, n2, forall_const, reduceCtorEq, false_implies, not_true_eq_false, false_implies, true_and]
  refine vcC_loop [0, 1, 5] (fun (i : Nat) => i ≤ a.length) (fun i => [.cv (.sl 17 (a.map rEntry.enc)), .cv (.sl 17 (a.map rEntry.enc)), .cv (.int .i64 i)]) (fun _ => []) (fun i => a.length - i) 0 (by simp) ⟨rfl, rfl⟩ ?_
  rintro i hi
  rcases Nat.lt_or_ge i a.length with hlt | hge
  · have hg := getD_at rEntry hlt
    try dsimp +instances only [go_sem, Nat.reduceBEq, Nat.reduceAdd, Nat.reduceSub, Nat.reduceLT, Nat.reduceLeDiff]
    repeat (simp only [hg, rEntry_enc, Int.toNat_natCast, b1, b2, b3, b4, b5, Nat.reduceAdd, Int.reduceToNat, Int.reduceLE, Int.reduceLT, sliceL, flatRows, allFlat, flatC, Nat.reduceLT, Nat.reduceMul, Nat.reduceLeDiff, implies_true, imp_self]; try dsimp +instances only [go_sem, Nat.reduceBEq, Nat.reduceAdd, Nat.reduceSub, Nat.reduceLT, Nat.reduceLeDiff])
    try simp only [n1, n2, forall_const, reduceCtorEq, false_implies, hlt, decide_true, not_true_eq_false]
    exact ⟨by omega, nextL_intro (i + 1) (by omega) (by omega) rfl rfl⟩
  · have : i = a.length := by omega
    subst this
    repeat (dsimp +instances only [go_sem, Nat.reduceBEq, Nat.reduceAdd, Nat.reduceSub, Nat.reduceLT, Nat.reduceLeDiff]; try simp only [b1, b2, b3, b4, b5, Nat.reduceAdd, Int.reduceToNat, Int.reduceLE, Int.reduceLT, sliceL, flatRows, allFlat, flatC, Nat.reduceLT, Nat.reduceMul, Nat.reduceLeDiff, implies_true, imp_self])
    try simp only [n1, n2, forall_const, reduceCtorEq, false_implies, Nat.lt_irrefl]
def E23 : Env := { T := Tz.tab, G := Gl, C := [(60, ct60)], live := [(0, [2, 3]), (1, [2, 3, 35]), (2, [4]), (3, [2, 3, 5]), (4, [2, 3, 5, 40]), (5, [2, 3, 5]), (6, [2, 3, 5, 6]), (7, [2, 3, 5, 6, 7]), (8, [2, 3, 5, 79]), (9, [4]), (10, [4])] }
def ct23 : Ct := .scal (dom2 tWindow tWindow (fun a b => a = b)) (fn2 tWindow tWindow fun a b => [tBool.enc true])
attribute [go_sem] E23 ct23 Go.Proofs.Tryz.f23
theorem ok23 : CtOk Tryz.prog Gl 23 ct23 := okA2 (E := E23) (sound_of Tz.tab_ok Tz.mixed (AllOk.cons ok60 AllOk.nil)) rfl Tryz.func23 (by kernel_rfl) fun a b fa fb hp => by
  have ga := fa
  have fa := fit_window fa
  have gb := fb
  have fb := fit_window fb
  refine vcFn_intro rfl rfl (by kernel_rfl) rfl ?_
  subst hp
  have fF := (WindowFit.Frames (fit_window ga)).1
  repeat (dsimp +instances only [go_sem, Nat.reduceBEq, Nat.reduceAdd, Nat.reduceSub, Nat.reduceLT, Nat.reduceLeDiff]; try simp only [b1, b2, b3, b4, b5, Nat.reduceAdd, Int.reduceToNat, Int.reduceLE, Int.reduceLT, sliceL, flatRows, allFlat, flatC, Nat.reduceLT, Nat.reduceMul, Nat.reduceLeDiff, implies_true, imp_self])
  try simp only [n1, n2, forall_const, reduceCtorEq, false_implies, not_true_eq_false, false_implies, true_and]
  refine ⟨by simp, ?_⟩
  refine vcC_loop [2, 3, 5] (fun (i : Nat) => i ≤ a.Frames.length) (fun i => [.ptr 0 4 0 0, .ptr 1 4 0 0, .cv (.int .i64 i)]) (fun _ => [.boxT 0 [.cv (.sl 4 (a.Frames.map rFrame.enc)), .cv (.int .i64 a.Step), .cv (.int .i64 a.NextDoc), .cv (.int .i64 a.NextKey)], .boxT 0 [.cv (.sl 4 (a.Frames.map rFrame.enc)), .cv (.int .i64 a.Step), .cv (.int .i64 a.NextDoc), .cv (.int .i64 a.NextKey)]]) (fun i => a.Frames.length - i) 0 (by simp) ⟨rfl, rfl⟩ ?_
  rintro i hi
  rcases Nat.lt_or_ge i a.Frames.length with hlt | hge
  · have hg := getD_at rFrame hlt
    try dsimp +instances only [go_sem, Nat.reduceBEq, Nat.reduceAdd, Nat.reduceSub, Nat.reduceLT, Nat.reduceLeDiff]
    repeat (simp only [hg, rFrame_enc, Int.toNat_natCast, b1, b2, b3, b4, b5, Nat.reduceAdd, Int.reduceToNat, Int.reduceLE, Int.reduceLT, sliceL, flatRows, allFlat, flatC, Nat.reduceLT, Nat.reduceMul, Nat.reduceLeDiff, implies_true, imp_self]; try dsimp +instances only [go_sem, Nat.reduceBEq, Nat.reduceAdd, Nat.reduceSub, Nat.reduceLT, Nat.reduceLeDiff])
    try simp only [n1, n2, forall_const, reduceCtorEq, false_implies, hlt, decide_true, not_true_eq_false]
    exact ⟨by simp, fun _ => ⟨by omega, nextL_intro (i + 1) (by omega) (by omega) rfl rfl⟩⟩
  · have : i = a.Frames.length := by omega
    subst this
    repeat (dsimp +instances only [go_sem, Nat.reduceBEq, Nat.reduceAdd, Nat.reduceSub, Nat.reduceLT, Nat.reduceLeDiff]; try simp only [b1, b2, b3, b4, b5, Nat.reduceAdd, Int.reduceToNat, Int.reduceLE, Int.reduceLT, sliceL, flatRows, allFlat, flatC, Nat.reduceLT, Nat.reduceMul, Nat.reduceLeDiff, implies_true, imp_self])
    try simp only [n1, n2, forall_const, reduceCtorEq, false_implies, Nat.lt_irrefl]
def E16 : Env := { T := Tz.tab, G := Gl, C := [(23, ct23), (47, ct47), (48, ct48)], live := [(0, [2, 3]), (1, [4])] }
def ct16 : Ct := .scal (dom2 tBrowser tBrowser (fun a b => a = b)) (fn2 tBrowser tBrowser fun a b => [tBool.enc true])
attribute [go_sem] E16 ct16 Go.Proofs.Tryz.f16
theorem ok16 : CtOk Tryz.prog Gl 16 ct16 := okA2 (E := E16) (sound_of Tz.tab_ok Tz.mixed (AllOk.cons ok23 (AllOk.cons ok47 (AllOk.cons ok48 AllOk.nil)))) rfl Tryz.func16 (by kernel_rfl) fun a b fa fb hp => by
  have ga := fa
  have fa := fit_browser fa
  have gb := fb
  have fb := fit_browser fb
  refine vcFn_intro rfl rfl (by kernel_rfl) rfl ?_
  subst hp
  repeat (dsimp +instances only [go_sem, Nat.reduceBEq, Nat.reduceAdd, Nat.reduceSub, Nat.reduceLT, Nat.reduceLeDiff]; try simp only [b1, b2, b3, b4, b5, Nat.reduceAdd, Int.reduceToNat, Int.reduceLE, Int.reduceLT, sliceL, flatRows, allFlat, flatC, Nat.reduceLT, Nat.reduceMul, Nat.reduceLeDiff, implies_true, imp_self])
  try simp only [n1, n2, forall_const, reduceCtorEq, false_implies, not_true_eq_false]
  trace_state
end Go.Gx
end
section
set_option linter.unusedVariables false
set_option linter.unusedSimpArgs false
set_option maxRecDepth 100000
namespace Go.Gx
open Go.Proofs
def hatGo (step : Int) : Nat → Int → List Entry → Int
  | _, at_, [] => at_
  | i, at_, e :: r => hatGo step (i + 1) (if e.Step ≤ step then (i : Int) else at_) r
def hatF (l : List Entry) (step : Int) : Int := hatGo step 0 (-1) l
theorem hatGo_lt (step : Int) : ∀ (l : List Entry) (i : Nat) (a : Int), -1 ≤ a → a < i → -1 ≤ hatGo step i a l ∧ hatGo step i a l < i + l.length
  | [], i, a, h1, h2 => by simp [hatGo]; omega
  | e :: r, i, a, h1, h2 => by
    have h := hatGo_lt step r (i + 1) (if e.Step ≤ step then (i : Int) else a) (by split <;> omega) (by split <;> omega)
    simp only [hatGo, List.length_cons]; omega
theorem hatF_lt (l : List Entry) (step : Int) : -1 ≤ hatF l step ∧ hatF l step < l.length := by
  have := hatGo_lt step l 0 (-1) (by omega) (by omega)
  unfold hatF; omega
def E80 : Env := { T := Tz.tab, G := Gl, C := [], live := [(0, [0, 1]), (1, [0, 1, 5]), (2, [1, 5, 8, 9, 10]), (3, [1, 5, 8, 9, 10, 11]), (4, [1, 5, 6, 7, 8, 9, 10]), (5, [1, 5, 6, 8, 9, 10, 18]), (6, [1, 5, 8, 9, 10]), (7, [1, 5, 8, 9, 10]), (8, [4])] }
def ct80 : Ct := .scal (dom2 tEntryS tInt (fun l step => True)) (fn2 tEntryS tInt fun l step => [tInt.enc (hatF l step)])
attribute [go_sem] E80 ct80 Go.Proofs.Tryz.f80
theorem ok80 : CtOk Tryz.prog Gl 80 ct80 := okA2 (E := E80) (sound_of Tz.tab_ok Tz.mixed AllOk.nil) rfl Tryz.func80 (by kernel_rfl) fun l step fl fstep hp => by
  have gl := fl
  have fl := fit_list fl
  have fstep := fit_int fstep
  refine vcFn_intro rfl rfl (by kernel_rfl) rfl ?_
  repeat (dsimp +instances only [go_sem, Nat.reduceBEq, Nat.reduceAdd, Nat.reduceSub, Nat.reduceLT, Nat.reduceLeDiff]; try simp only [b1, b2, b3, b4, b5, Nat.reduceAdd, Int.reduceToNat, Int.reduceLE, Int.reduceLT, sliceL, flatRows, allFlat, flatC, Nat.reduceLT, Nat.reduceMul, Nat.reduceLeDiff, implies_true, imp_self])
  try simp only [n1, n2, forall_const, reduceCtorEq, false_implies]
  refine vcC_loop [1, 5, 8, 9, 10] (fun (x : Nat × Int) => x.1 ≤ l.length ∧ hatGo step x.1 x.2 (l.drop x.1) = hatF l step) (fun x => [.cv (.int .i64 step), .cv (.int .i64 x.2), .cv (.sl 17 (l.map rEntry.enc)), .cv (.int .i64 l.length), .cv (.int .i64 x.1)]) (fun _ => []) (fun x => l.length - x.1) (0, -1) ⟨by simp, rfl⟩ ⟨rfl, rfl⟩ ?_
  rintro ⟨i, a⟩ ⟨hi, he⟩
  simp only at hi he
  rcases Nat.lt_or_ge i l.length with hlt | hge
  · have hg := getD_at rEntry hlt
    rw [List.drop_eq_getElem_cons hlt, hatGo] at he
    try dsimp +instances only [go_sem, Nat.reduceBEq, Nat.reduceAdd, Nat.reduceSub, Nat.reduceLT, Nat.reduceLeDiff]
    repeat (simp only [hg, rEntry_enc, Int.toNat_natCast, b1, b2, b3, b4, b5, Nat.reduceAdd, Int.reduceToNat, Int.reduceLE, Int.reduceLT, sliceL, flatRows, allFlat, flatC, Nat.reduceLT, Nat.reduceMul, Nat.reduceLeDiff, implies_true, imp_self]; try dsimp +instances only [go_sem, Nat.reduceBEq, Nat.reduceAdd, Nat.reduceSub, Nat.reduceLT, Nat.reduceLeDiff])
    try simp only [n1, n2, forall_const, reduceCtorEq, false_implies, hlt, decide_true]
    refine ⟨fun h => ⟨by omega, nextL_intro (i + 1, (i : Int)) ⟨by simp only; omega, ?_⟩ (by simp only; omega) rfl rfl⟩, fun h => ⟨by omega, nextL_intro (i + 1, a) ⟨by simp only; omega, ?_⟩ (by simp only; omega) rfl rfl⟩⟩
    · rw [if_pos h] at he; exact he
    · rw [if_neg h] at he; exact he
  · have : i = l.length := by omega
    subst this
    rw [List.drop_length, hatGo] at he
    repeat (dsimp +instances only [go_sem, Nat.reduceBEq, Nat.reduceAdd, Nat.reduceSub, Nat.reduceLT, Nat.reduceLeDiff]; try simp only [b1, b2, b3, b4, b5, Nat.reduceAdd, Int.reduceToNat, Int.reduceLE, Int.reduceLT, sliceL, flatRows, allFlat, flatC, Nat.reduceLT, Nat.reduceMul, Nat.reduceLeDiff, implies_true, imp_self])
    try simp only [n1, n2, forall_const, reduceCtorEq, false_implies, Nat.lt_irrefl]
    exact fun _ => he
def pageF (w : Window) (f : Int) : Int := if hatF (w.Frames.getD f.toNat default).Hist w.Step < 0 then 0 else ((w.Frames.getD f.toNat default).Hist.getD (hatF (w.Frames.getD f.toNat default).Hist w.Step).toNat default).Doc
def nowF (w : Window) (f : Int) : Entry := (w.Frames.getD f.toNat default).Hist.getD (hatF (w.Frames.getD f.toNat default).Hist w.Step).toNat default
def E79 : Env := { T := Tz.tab, G := Gl, C := [(80, ct80)], live := [(0, [1, 2]), (1, [1, 2, 5]), (2, [1, 2, 5, 16]), (3, [4]), (4, [4])] }
def ct79 : Ct := .scal (dom2 tWindow tInt (fun w f => 0 ≤ f ∧ f < w.Frames.length)) (fn2 tWindow tInt fun w f => [tInt.enc (pageF w f)])
attribute [go_sem] E79 ct79 Go.Proofs.Tryz.f79
theorem ok79 : CtOk Tryz.prog Gl 79 ct79 := okA2 (E := E79) (sound_of Tz.tab_ok Tz.mixed (AllOk.cons ok80 AllOk.nil)) rfl Tryz.func79 (by kernel_rfl) fun w f fw ff hp => by
  have gw := fw
  have fw := fit_window fw
  have ff := fit_int ff
  refine vcFn_intro rfl rfl (by kernel_rfl) rfl ?_
  have fF := (WindowFit.Frames (fit_window gw)).1
  have fH : ∀ f ∈ w.Frames, Fit f.Hist.length := fun f hf => (FrameFit_el (WindowFit.Frames (fit_window gw)).2 hf).Hist.1
  obtain ⟨m, rfl⟩ : ∃ m : Nat, f = m := ⟨f.toNat, by omega⟩
  have hlt : m < w.Frames.length := by omega
  have hg := getD_at rFrame hlt
  have hd : pageF w m = if hatF (w.Frames.getD (m : Int).toNat default).Hist w.Step < 0 then 0 else ((w.Frames.getD (m : Int).toNat default).Hist.getD (hatF (w.Frames.getD (m : Int).toNat default).Hist w.Step).toNat default).Doc := rfl
  rw [Int.toNat_natCast, getD_lt hlt] at hd
  have hfit := fH _ (List.getElem_mem hlt)
  generalize w.Frames[m] = g at *
  have hh := hatF_lt g.Hist w.Step
  generalize hz : hatF g.Hist w.Step = z at *
  rcases Int.lt_or_le z 0 with h | h
  · rw [if_pos h] at hd
    try dsimp +instances only [go_sem, Nat.reduceBEq, Nat.reduceAdd, Nat.reduceSub, Nat.reduceLT, Nat.reduceLeDiff]
    repeat (simp only [hg, rFrame_enc, Int.toNat_natCast, hz, b1, b2, b3, b4, b5, Nat.reduceAdd, Int.reduceToNat, Int.reduceLE, Int.reduceLT, sliceL, flatRows, allFlat, flatC, Nat.reduceLT, Nat.reduceMul, Nat.reduceLeDiff, implies_true, imp_self]; try dsimp +instances only [go_sem, Nat.reduceBEq, Nat.reduceAdd, Nat.reduceSub, Nat.reduceLT, Nat.reduceLeDiff])
    try simp only [n1, n2, forall_const, reduceCtorEq, false_implies, hlt, decide_true, h]
    exact hd.symm
  · obtain ⟨k, rfl⟩ : ∃ k : Nat, z = k := ⟨z.toNat, by omega⟩
    have hk : k < g.Hist.length := by omega
    have hg2 := getD_at rEntry hk
    rw [if_neg (by omega), Int.toNat_natCast, getD_lt hk] at hd
    try dsimp +instances only [go_sem, Nat.reduceBEq, Nat.reduceAdd, Nat.reduceSub, Nat.reduceLT, Nat.reduceLeDiff]
    repeat (simp only [hg, rFrame_enc, hz, hg2, rEntry_enc, Int.toNat_natCast, b1, b2, b3, b4, b5, Nat.reduceAdd, Int.reduceToNat, Int.reduceLE, Int.reduceLT, sliceL, flatRows, allFlat, flatC, Nat.reduceLT, Nat.reduceMul, Nat.reduceLeDiff, implies_true, imp_self]; try dsimp +instances only [go_sem, Nat.reduceBEq, Nat.reduceAdd, Nat.reduceSub, Nat.reduceLT, Nat.reduceLeDiff])
    try simp only [n1, n2, forall_const, reduceCtorEq, false_implies, hlt, decide_true]
    exact ⟨fun h' => absurd h' (by omega), fun _ => ⟨hk, hd.symm⟩⟩
def E50 : Env := { T := Tz.tab, G := Gl, C := [(80, ct80)], live := [(0, [1, 2, 4]), (1, [4])] }
def ct50 : Ct := .im (dom2 tWindow tInt (fun w f => 0 ≤ f ∧ f < w.Frames.length ∧ 0 ≤ hatF (w.Frames.getD f.toNat default).Hist w.Step)) (fn2 tWindow tInt fun w f => [tEntry.enc (nowF w f)])
attribute [go_sem] E50 ct50 Go.Proofs.Tryz.f50
theorem ok50 : CtOk Tryz.prog Gl 50 ct50 := okI2 (E := E50) (sound_of Tz.tab_ok Tz.mixed (AllOk.cons ok80 AllOk.nil)) rfl Tryz.func50 (by kernel_rfl) fun w f fw ff hp => by
  have gw := fw
  have fw := fit_window fw
  have ff := fit_int ff
  refine vcFn_intro rfl rfl (by kernel_rfl) rfl ?_
  have fF := (WindowFit.Frames (fit_window gw)).1
  have fH : ∀ f ∈ w.Frames, Fit f.Hist.length := fun f hf => (FrameFit_el (WindowFit.Frames (fit_window gw)).2 hf).Hist.1
  obtain ⟨m, rfl⟩ : ∃ m : Nat, f = m := ⟨f.toNat, by omega⟩
  have hlt : m < w.Frames.length := by omega
  have hg := getD_at rFrame hlt
  have hd : nowF w m = (w.Frames.getD (m : Int).toNat default).Hist.getD (hatF (w.Frames.getD (m : Int).toNat default).Hist w.Step).toNat default := rfl
  have hp2 := hp.2.2
  rw [Int.toNat_natCast, getD_lt hlt] at hd hp2
  have hfit := fH _ (List.getElem_mem hlt)
  generalize w.Frames[m] = g at *
  have hh := hatF_lt g.Hist w.Step
  generalize hz : hatF g.Hist w.Step = z at *
  obtain ⟨k, rfl⟩ : ∃ k : Nat, z = k := ⟨z.toNat, by omega⟩
  have hk : k < g.Hist.length := by omega
  have hg2 := getD_at rEntry hk
  rw [Int.toNat_natCast, getD_lt hk] at hd
  rw [hd]
  try dsimp +instances only [go_sem, Nat.reduceBEq, Nat.reduceAdd, Nat.reduceSub, Nat.reduceLT, Nat.reduceLeDiff]
  repeat (simp only [hg, rFrame_enc, hz, hg2, rEntry_enc, Int.toNat_natCast, b1, b2, b3, b4, b5, Nat.reduceAdd, Int.reduceToNat, Int.reduceLE, Int.reduceLT, sliceL, flatRows, allFlat, flatC, Nat.reduceLT, Nat.reduceMul, Nat.reduceLeDiff, implies_true, imp_self]; try dsimp +instances only [go_sem, Nat.reduceBEq, Nat.reduceAdd, Nat.reduceSub, Nat.reduceLT, Nat.reduceLeDiff])
  try simp only [n1, n2, forall_const, reduceCtorEq, false_implies, hlt, decide_true]
  exact hk
def E51 : Env := { T := Tz.tab, G := Gl, C := [(57, ct57)], live := [(0, [1, 2]), (1, [1, 2]), (2, [2])] }
def ct51 : Ct := .pure (dom1 tEntry (fun e => True)) (fn1 tEntry fun e => [tEntry.enc e])
attribute [go_sem] E51 ct51 Go.Proofs.Tryz.f51
theorem ok51 : CtOk Tryz.prog Gl 51 ct51 := okA1 (E := E51) (sound_of Tz.tab_ok Tz.mixed (AllOk.cons ok57 AllOk.nil)) rfl Tryz.func51 (by kernel_rfl) fun e fe hp => by
  have ge := fe
  have fe := fit_entry fe
  refine vcFn_intro rfl rfl (by kernel_rfl) rfl ?_
  repeat (dsimp +instances only [go_sem, Nat.reduceBEq, Nat.reduceAdd, Nat.reduceSub, Nat.reduceLT, Nat.reduceLeDiff]; try simp only [b1, b2, b3, b4, b5, Nat.reduceAdd, Int.reduceToNat, Int.reduceLE, Int.reduceLT, sliceL, flatRows, allFlat, flatC, Nat.reduceLT, Nat.reduceMul, Nat.reduceLeDiff, implies_true, imp_self])
  try simp only [n1, n2, forall_const, reduceCtorEq, false_implies]
def E49 : Env := { T := Tz.tab, G := Gl, C := [(54, ct54), (79, ct79), (67, ct67)], live := [(0, [1, 2]), (1, [1, 2, 18]), (2, [4]), (3, [1, 2, 20]), (4, [4]), (5, [1, 2, 5]), (6, [4])] }
def ct49 : Ct := .scal (dom2 tWindow tInt (fun w f => f = 0)) (fn2 tWindow tInt fun w f => [tBool.enc (decide (0 < w.Frames.length) && !decide (pageF w 0 = 0))])
attribute [go_sem] E49 ct49 Go.Proofs.Tryz.f49
theorem ok49 : CtOk Tryz.prog Gl 49 ct49 := okA2 (E := E49) (sound_of Tz.tab_ok Tz.mixed (AllOk.cons ok54 (AllOk.cons ok79 (AllOk.cons ok67 AllOk.nil)))) rfl Tryz.func49 (by kernel_rfl) fun w f fw ff hp => by
  have gw := fw
  have fw := fit_window fw
  have ff := fit_int ff
  refine vcFn_intro rfl rfl (by kernel_rfl) rfl ?_
  subst hp
  have fF := (WindowFit.Frames (fit_window gw)).1
  repeat (dsimp +instances only [go_sem, Nat.reduceBEq, Nat.reduceAdd, Nat.reduceSub, Nat.reduceLT, Nat.reduceLeDiff]; try simp only [b1, b2, b3, b4, b5, Nat.reduceAdd, Int.reduceToNat, Int.reduceLE, Int.reduceLT, sliceL, flatRows, allFlat, flatC, Nat.reduceLT, Nat.reduceMul, Nat.reduceLeDiff, implies_true, imp_self])
  try simp only [n1, n2, forall_const, reduceCtorEq, false_implies]
  refine ⟨by omega, fun _ => by omega, fun h => ?_, fun h => ⟨?_, fun h' => absurd trivial h'⟩⟩
  · have h1 : 0 < w.Frames.length → (0 : Int) ≤ (w.Frames.length : Int) - 1 := fun h => by omega
    grind
  · have h1 : 0 < w.Frames.length := by omega
    grind
def E52 : Env := { T := Tz.tab, G := Gl, C := [], live := [(0, [0]), (1, [0, 5, 6, 7]), (2, [0, 5, 6, 7, 8]), (3, [0, 3, 4, 5, 6, 7]), (4, [0, 5, 6, 7, 22]), (5, [2]), (6, [0, 5, 6, 7]), (7, [2])] }
def ct52 : Ct := .scal (dom1 tCookieS (fun jar => jar = [])) (fn1 tCookieS fun jar => [tBool.enc true])
attribute [go_sem] E52 ct52 Go.Proofs.Tryz.f52
theorem ok52 : CtOk Tryz.prog Gl 52 ct52 := okA1 (E := E52) (sound_of Tz.tab_ok Tz.mixed AllOk.nil) rfl Tryz.func52 (by kernel_rfl) fun jar fjar hp => by
  have gjar := fjar
  have fjar := fit_list fjar
  refine vcFn_intro rfl rfl (by kernel_rfl) rfl ?_
  subst hp
  repeat (dsimp +instances only [go_sem, Nat.reduceBEq, Nat.reduceAdd, Nat.reduceSub, Nat.reduceLT, Nat.reduceLeDiff]; try simp only [b1, b2, b3, b4, b5, Nat.reduceAdd, Int.reduceToNat, Int.reduceLE, Int.reduceLT, sliceL, flatRows, allFlat, flatC, Nat.reduceLT, Nat.reduceMul, Nat.reduceLeDiff, implies_true, imp_self])
  try simp only [n1, n2, forall_const, reduceCtorEq, false_implies]
  refine vcC_loop [0, 5, 6, 7] (fun (_ : Unit) => True) (fun _ => [.cv (.sl 9 []), .cv (.sl 9 []), .cv (.int .i64 0), .cv (.int .i64 0)]) (fun _ => []) (fun _ => 0) () trivial ⟨rfl, rfl⟩ ?_
  intro _ _
  repeat (dsimp +instances only [go_sem, Nat.reduceBEq, Nat.reduceAdd, Nat.reduceSub, Nat.reduceLT, Nat.reduceLeDiff]; try simp only [b1, b2, b3, b4, b5, Nat.reduceAdd, Int.reduceToNat, Int.reduceLE, Int.reduceLT, sliceL, flatRows, allFlat, flatC, Nat.reduceLT, Nat.reduceMul, Nat.reduceLeDiff, implies_true, imp_self])
  try simp only [n1, n2, forall_const, reduceCtorEq, false_implies]
  try simp
def E53 : Env := { T := Tz.tab, G := Gl, C := [], live := [(0, [1]), (1, [1, 6, 7, 8]), (2, [1, 6, 7, 8, 9]), (3, [1, 3, 4, 6, 7, 8]), (4, [1, 6, 7, 8, 29]), (5, [2]), (6, [1, 6, 7, 8]), (7, [2])] }
def ct53 : Ct := .scal (dom1 tSure (fun x => x.Hosts = [])) (fn1 tSure fun x => [tBool.enc true])
attribute [go_sem] E53 ct53 Go.Proofs.Tryz.f53
theorem ok53 : CtOk Tryz.prog Gl 53 ct53 := okA1 (E := E53) (sound_of Tz.tab_ok Tz.mixed AllOk.nil) rfl Tryz.func53 (by kernel_rfl) fun x fx hp => by
  have gx := fx
  have fx := fit_sure fx
  refine vcFn_intro rfl rfl (by kernel_rfl) rfl ?_
  obtain ⟨h⟩ := x
  subst hp
  repeat (dsimp +instances only [go_sem, Nat.reduceBEq, Nat.reduceAdd, Nat.reduceSub, Nat.reduceLT, Nat.reduceLeDiff]; try simp only [b1, b2, b3, b4, b5, Nat.reduceAdd, Int.reduceToNat, Int.reduceLE, Int.reduceLT, sliceL, flatRows, allFlat, flatC, Nat.reduceLT, Nat.reduceMul, Nat.reduceLeDiff, implies_true, imp_self])
  try simp only [n1, n2, forall_const, reduceCtorEq, false_implies]
  refine vcC_loop [1, 6, 7, 8] (fun (_ : Unit) => True) (fun _ => [.ptr 0 1 0 0, .cv (.sl 1 []), .cv (.int .i64 0), .cv (.int .i64 0)]) (fun _ => [.boxT 0 [.cv (.sl 1 [])]]) (fun _ => 0) () trivial ⟨rfl, rfl⟩ ?_
  intro _ _
  repeat (dsimp +instances only [go_sem, Nat.reduceBEq, Nat.reduceAdd, Nat.reduceSub, Nat.reduceLT, Nat.reduceLeDiff]; try simp only [b1, b2, b3, b4, b5, Nat.reduceAdd, Int.reduceToNat, Int.reduceLE, Int.reduceLT, sliceL, flatRows, allFlat, flatC, Nat.reduceLT, Nat.reduceMul, Nat.reduceLeDiff, implies_true, imp_self])
  try simp only [n1, n2, forall_const, reduceCtorEq, false_implies]
  try simp
def E18 : Env := { T := Tz.tab, G := Gl, C := [(25, ct25), (52, ct52), (53, ct53), (54, ct54)], live := [(0, [1]), (1, [2])] }
def ct18 : Ct := .scal (dom1 tBrowser (fun b => smallW b.Window ∧ b.Jar = [] ∧ b.Sure.Hosts = [])) (fn1 tBrowser fun b => [tBool.enc (winOk b.Window && decide (0 ≤ b.Now ∧ b.Now ≤ 1000000))])
attribute [go_sem] E18 ct18 Go.Proofs.Tryz.f18
theorem ok18 : CtOk Tryz.prog Gl 18 ct18 := okA1 (E := E18) (sound_of Tz.tab_ok Tz.mixed (AllOk.cons ok25 (AllOk.cons ok52 (AllOk.cons ok53 (AllOk.cons ok54 AllOk.nil))))) rfl Tryz.func18 (by kernel_rfl) fun b fb hp => by
  have gb := fb
  have fb := fit_browser fb
  refine vcFn_intro rfl rfl (by kernel_rfl) rfl ?_
  obtain ⟨w, j, ⟨h⟩, t⟩ := b
  obtain ⟨h1, h2, h3⟩ := hp
  simp only at h1 h2 h3
  subst h2 h3
  repeat (dsimp +instances only [go_sem, Nat.reduceBEq, Nat.reduceAdd, Nat.reduceSub, Nat.reduceLT, Nat.reduceLeDiff]; try simp only [b1, b2, b3, b4, b5, Nat.reduceAdd, Int.reduceToNat, Int.reduceLE, Int.reduceLT, sliceL, flatRows, allFlat, flatC, Nat.reduceLT, Nat.reduceMul, Nat.reduceLeDiff, implies_true, imp_self])
  try simp only [n1, n2, forall_const, reduceCtorEq, false_implies]
  exact ⟨h1, by simp⟩
def entry0 : Entry := ⟨0, url0, 0, 0, []⟩
def WindowNow0 (w : Window) : Entry × Bool := if winOk w && (decide (0 < w.Frames.length) && !decide (pageF w 0 = 0)) then (nowF w 0, true) else (entry0, false)
def E17 : Env := { T := Tz.tab, G := Gl, C := [(25, ct25), (49, ct49), (50, ct50), (51, ct51)], live := [(0, [1, 2, 4]), (1, [1, 2, 4, 14]), (2, [4, 5]), (3, [4, 5])] }
def ct17 : Ct := .pure (dom2 tWindow tInt (fun w f => smallW w ∧ f = 0)) (fn2 tWindow tInt fun w f => [tEntry.enc (WindowNow0 w).1, tBool.enc (WindowNow0 w).2])
attribute [go_sem] E17 ct17 Go.Proofs.Tryz.f17
theorem ok17 : CtOk Tryz.prog Gl 17 ct17 := okA2 (E := E17) (sound_of Tz.tab_ok Tz.mixed (AllOk.cons ok25 (AllOk.cons ok49 (AllOk.cons ok50 (AllOk.cons ok51 AllOk.nil))))) rfl Tryz.func17 (by kernel_rfl) fun w f fw ff hp => by
  have gw := fw
  have fw := fit_window fw
  have ff := fit_int ff
  refine vcFn_intro rfl rfl (by kernel_rfl) rfl ?_
  obtain ⟨h1, h2⟩ := hp
  subst h2
  repeat (dsimp +instances only [go_sem, Nat.reduceBEq, Nat.reduceAdd, Nat.reduceSub, Nat.reduceLT, Nat.reduceLeDiff]; try simp only [b1, b2, b3, b4, b5, Nat.reduceAdd, Int.reduceToNat, Int.reduceLE, Int.reduceLT, sliceL, flatRows, allFlat, flatC, Nat.reduceLT, Nat.reduceMul, Nat.reduceLeDiff, implies_true, imp_self])
  repeat (dsimp +instances only [callIm_mk, killR, killA, killC, kill1, List.set_cons_zero, List.set_cons_succ]; repeat (dsimp +instances only [go_sem, Nat.reduceBEq, Nat.reduceAdd, Nat.reduceSub, Nat.reduceLT, Nat.reduceLeDiff]; try simp only [b1, b2, b3, b4, b5, Nat.reduceAdd, Int.reduceToNat, Int.reduceLE, Int.reduceLT, sliceL, flatRows, allFlat, flatC, Nat.reduceLT, Nat.reduceMul, Nat.reduceLeDiff, implies_true, imp_self]))
  try simp only [n1, n2, forall_const, reduceCtorEq, false_implies]
  refine ⟨h1, fun h => ?_, fun h => ?_⟩
  · have e : WindowNow0 w = (entry0, false) := by
      unfold WindowNow0; rw [if_neg]; grind
    rw [e]
    exact ⟨⟨rfl, rfl, rfl, rfl, rfl, rfl, rfl, rfl, rfl, rfl, rfl, rfl, rfl, rfl, rfl, rfl, rfl⟩, rfl⟩
  · have e : WindowNow0 w = (nowF w 0, true) := by
      unfold WindowNow0; rw [if_pos]; grind
    rw [e]
    refine ⟨⟨by omega, ?_⟩, ⟨rfl, rfl, rfl, rfl, rfl, rfl, rfl, rfl, rfl, rfl, rfl, rfl, rfl, rfl, rfl, rfl, rfl⟩, rfl⟩
    have h3 := h.2.2
    rcases Int.lt_or_le (hatF (w.Frames.getD 0 default).Hist w.Step) 0 with h4 | h4
    · have : pageF w 0 = 0 := by
        show (if hatF (w.Frames.getD 0 default).Hist w.Step < 0 then (0 : Int) else _) = 0
        rw [if_pos h4]
      rw [this] at h3; simp at h3
    · exact h4
end Go.Gx
end
section
set_option linter.unusedVariables false
namespace Go.Gx
abbrev RelD := List UInt8 → Int → List PV → Prop
abbrev RelR := List UInt8 → Int → List PV → RV → Int → Prop
def isCvs : List PV → Bool
  | [] => true
  | .cv _ :: r => isCvs r
  | _ :: _ => false
def relAt (dom : RelD) (R : RelR) (r : Nat) (xs : List PV) (rt : List Root) (K : PV → List Root → Prop) : Root → Prop
  | .boxT 0 [.cv (.byt s), .cv (.int .i64 p)] => dom s p xs ∧ ∀ v q, R s p xs v q → retI v (rt.set r (.boxT 0 [.cv (.byt s), .cv (.int .i64 q)])) K
  | _ => False
def relPV (dom : RelD) (R : RelR) : List PV → List Root → (PV → List Root → Prop) → Prop
  | .ptr r 2 0 0 :: xs, rt, K => isCvs xs = true ∧ relAt dom R r xs rt K (nth .dead rt r)
  | _, _, _ => False
theorem relPV_mk {dom : RelD} {R : RelR} {r : Nat} {xs : List PV} {rt : List Root} {K : PV → List Root → Prop} : relPV dom R (.ptr r 2 0 0 :: xs) rt K = (isCvs xs = true ∧ relAt dom R r xs rt K (nth .dead rt r)) := rfl
theorem relAt_mk {dom : RelD} {R : RelR} {r : Nat} {xs : List PV} {rt : List Root} {K : PV → List Root → Prop} {s : List UInt8} {p : Int} :
    relAt dom R r xs rt K (.boxT 0 [.cv (.byt s), .cv (.int .i64 p)]) = (dom s p xs ∧ ∀ v q, R s p xs v q → retI v (rt.set r (.boxT 0 [.cv (.byt s), .cv (.int .i64 q)])) K) := rfl
theorem isCvs_nil : isCvs [] = true := rfl
theorem isCvs_cv {c : CV} {r : List PV} : isCvs (.cv c :: r) = isCvs r := rfl
attribute [go_sem] relPV_mk relAt_mk isCvs_nil isCvs_cv
def relBox (s : List UInt8) (R : RV → Int → Prop) (c : Prop × RV) : Root → Prop
  | .boxT 0 [.cv (.byt s'), .cv (.int .i64 q)] => s' = s ∧ c.1 ∧ R c.2 q
  | _ => False
def relQ (s : List UInt8) (R : RV → Int → Prop) (p : PV) (rt : List Root) : Prop := isTup1 p = false ∧ relBox s R (snapRs (rt.set 0 .dead) p) (nth .dead rt 0)
theorem relQ_mk {s : List UInt8} {R : RV → Int → Prop} {p : PV} {rt : List Root} : relQ s R p rt = (isTup1 p = false ∧ relBox s R (snapRs (rt.set 0 .dead) p) (nth .dead rt 0)) := rfl
theorem relBox_mk {s s' : List UInt8} {q : Int} {R : RV → Int → Prop} {c : Prop × RV} : relBox s R c (.boxT 0 [.cv (.byt s'), .cv (.int .i64 q)]) = (s' = s ∧ c.1 ∧ R c.2 q) := rfl
attribute [go_sem] relQ_mk relBox_mk
variable {P : Program}
theorem cvs_any {St : Snap} {ρ ρ' : Nat → Option RA} : ∀ {xs : List PV}, isCvs xs = true → ∀ {i : Nat} {p : PV} {v : Value}, xs[i]? = some p → RepPV St ρ p v → RepPV St ρ' p v
  | [], _, i, p, v, h, _ => by simp at h
  | .cv c :: r, h, 0, p, v, hp, hr => by
    simp at hp; subst hp
    cases hr with | cv hr => exact .cv hr
  | .cv c :: r, h, i + 1, p, v, hp, hr => cvs_any (xs := r) h (by simpa using hp) hr
theorem rel_ok {E : Env} (hS : Sound P E) {f : FuncId} {fn : Func} (hf : P.funcs[f]? = some fn) (hname : (fn.name == "runtime.NumGoroutine") = false) {dom : RelD} {R : RelR} (hpin : E.pin = [0])
    (h : ∀ s p xs, Fit s.length → dom s p xs → isCvs xs = true → vcFn E fn (.ptr 0 2 0 0 :: xs) [.boxT 0 [.cv (.byt s), .cv (.int .i64 p)]] (relQ s (R s p xs))) : CtOk P E.G f (.gen (relPV dom R)) := by
  intro C w St ρ F rt ps vs K hG hM hp hct
  unfold relPV at hct
  split at hct
  · rename_i r xs
    obtain ⟨hxs, hct⟩ := hct
    unfold relAt at hct
    split at hct
    · rename_i hroot
      rename_i s p
      obtain ⟨hdom, hK⟩ := hct
      have hrt := nth_root hroot (by simp)
      have hrl : r < rt.length := (List.getElem?_eq_some_iff.1 hrt).1
      obtain ⟨y, cur, T, hy, hy0, hcur, hcs, hcell, hfy, hfb, hbt⟩ := hM.root r _ hrt
      have hfit : Fit s.length := by
        obtain ⟨v, _, h2⟩ := hcell 0 _ rfl
        cases h2 with
        | cv h2 => exact h2.fit 0
      let C1 : Ctx := ⟨w, St, F r, [0], fun s => if s = 0 then ρ r else none⟩
      have hM1 : Mem C1 w St (fun s => if s = 0 then ρ r else none) (fun s b => s = 0 ∧ F r b) [.boxT 0 [.cv (.byt s), .cv (.int .i64 p)]] := {
        sub := fun _ _ h => h
        st := hM.st
        root := fun s' x hx => by
          cases s' with
          | zero =>
            simp at hx; subst hx
            simp only [if_true, true_and]
            refine ⟨y, cur, T, hy, hy0, hcur, hcs, fun j c hc => ?_, hfy, hfb, hbt⟩
            obtain ⟨v, h1, h2⟩ := hcell j c hc
            exact ⟨v, h1, cvs_any (xs := [.cv (.byt s), .cv (.int .i64 p)]) rfl hc h2⟩
          | succ s => simp at hx
        out := fun s b h => by simp [h.1]
        outρ := fun s hs => by simp at hs; simp; omega
        disj := fun s s' b h h' => h.1.trans h'.1.symm
        unst := fun s b h => hM.unst r b h.2
        lt := fun s b h => hM.lt r b h.2
        own := fun s b h => .inr h.2
        old := fun b o h _ _ => h
        keep := fun b _ _ => rfl
        size := Nat.le_refl _
        os := rfl
        tape := rfl
        output := rfl }
      have hp1 : RepPs St (fun s => if s = 0 then ρ r else none) (.ptr 0 2 0 0 :: xs) vs := by
        refine ⟨by simpa using hp.1, fun i p hi => ?_⟩
        cases i with
        | zero =>
          obtain ⟨v, h1, h2⟩ := hp.2 0 _ rfl
          simp at hi; subst hi
          refine ⟨v, h1, ?_⟩
          cases h2 with
          | ptr h2 => exact .ptr (by simpa using h2)
        | succ i =>
          obtain ⟨v, h1, h2⟩ := hp.2 (i + 1) p (by simpa using hi)
          exact ⟨v, h1, cvs_any hxs (by simpa using hi) h2⟩
      refine (body_ok hS hf hname (C := C1) (hG.mono hM.sub) hpin (fun k s h => by
        cases k with
        | zero => simp [C1] at h; omega
        | succ k => simp [C1] at h) (fun s x _ h => h) hM1 hp1 (h s p xs hfit hdom hxs)).mono fun v w' hq => ?_
      obtain ⟨pv, rt', St', ρ', F', hrel, h2, h3, h4⟩ := hq
      obtain ⟨htup, hrel⟩ := hrel
      unfold relBox at hrel
      split at hrel
      · rename_i hr0
        rename_i s' q
        obtain ⟨rfl, hc1, hR⟩ := hrel
        have h5 : ρ' 0 = some y := h3 0 y (by simp [C1]) (by simp [C1, hy])
        obtain ⟨y', cur', T', hy', hy0', hcur', hcs', hcell', hfy', hfb', hbt'⟩ := h4.root 0 _ (nth_root hr0 (by simp))
        rw [h5] at hy'
        injection hy' with hy'
        subst hy'
        have hsz : w.heap.size ≤ w'.heap.size := h4.size
        have hpres : ∀ b, b < w.heap.size → ¬ F r b → w'.heap[b]? = w.heap[b]? := fun b hb hn => h4.keep b hb hn
        have hM0 : Mem C1 w' St' ρ' (fun s b => s ≠ 0 ∧ F' s b) (rt'.set 0 .dead) := {
          sub := h4.sub
          st := h4.st
          root := fun s x hx => by
            rw [List.getElem?_set] at hx
            split at hx
            · rename_i e; subst e
              split at hx
              · injection hx with hx; subst hx; trivial
              · cases hx
            · rename_i e
              have h6 := h4.root s x hx
              have e' : s ≠ 0 := fun h => e h.symm
              have : (fun b => s ≠ 0 ∧ F' s b) = F' s := by funext b; simp [e']
              rw [this]; exact h6
          out := fun s b hb => by rw [List.length_set]; exact h4.out s b hb.2
          outρ := fun s hs => h4.outρ s (by simpa using hs)
          disj := fun s s' b hb hb' => h4.disj s s' b hb.2 hb'.2
          unst := fun s b hb => h4.unst s b hb.2
          lt := fun s b hb => h4.lt s b hb.2
          own := fun s b hb => h4.own s b hb.2
          old := h4.old
          keep := h4.keep
          size := h4.size
          os := h4.os
          tape := h4.tape
          output := h4.output }
        let S3 : Snap := fun b => if b < w.heap.size then St' b else w'.heap[b]?
        have hsub3 : ∀ b o, St' b = some o → S3 b = some o := fun b o hb => by
          simp only [S3]
          split
          · exact hb
          · exact h4.st b o hb
        have hres : RepRI S3 (snapRs (rt'.set 0 .dead) pv).2 v := snapRs_rep hM0 hsub3 (fun s b o hb hw => by
          simp only [S3]
          rw [if_neg]
          · exact hw
          · rcases h4.own s b hb.2 with h | h
            · have h : w.heap.size ≤ b := h
              omega
            · have e : b = y.b := hfb b h
              rw [e] at hb
              exact absurd (h4.disj _ _ _ hb.2 hfy') hb.1) h2 hc1 (fun ps e hl => by
          subst e
          match ps, hl with
          | [x], _ => simp [isTup1, isOne1] at htup)
        have hM2 : Mem C w' S3 ρ (fun s b => if s = r then b = y.b else F s b) (rt.set r (.boxT 0 [.cv (.byt s'), .cv (.int .i64 q)])) := {
          sub := fun b o hb => hsub3 b o (h4.sub b o (hM.sub b o hb))
          st := fun b o hb => by
            simp only [S3] at hb
            split at hb
            · exact h4.st b o hb
            · exact hb
          root := fun s x hx => by
            rw [List.getElem?_set] at hx
            split at hx
            · rename_i e; subst e
              injection hx with hx; subst hx
              simp only [if_true]
              refine ⟨y, cur', T', hy, hy0, hcur', hcs', fun j c hc => ?_, rfl, fun b hb => hb, hbt'⟩
              obtain ⟨v, h6, h7⟩ := hcell' j c hc
              have h8 : RepPV S3 ρ' c v := h7.mono hsub3 fun _ _ h => h
              exact ⟨v, h6, cvs_any (xs := [.cv (.byt s'), .cv (.int .i64 q)]) rfl hc h8⟩
            · rename_i e
              have e' : ¬ s = r := fun h => e h.symm
              simp only [e', if_false]
              exact (hM.root s x hx).mono (fun b o hb => hsub3 b o (h4.sub b o hb)) (fun _ _ h => h) fun b hb => hpres b (hM.lt s b hb) fun h => e (hM.disj _ _ _ h hb)
          out := fun s b hb => by
            rw [List.length_set]
            split at hb
            · omega
            · exact hM.out s b hb
          outρ := fun s hs => hM.outρ s (by simpa using hs)
          disj := fun s s' b hb hb' => by
            split at hb <;> rename_i e <;> split at hb' <;> rename_i e'
            · rw [e, e']
            · rw [hb] at hb'
              exact absurd (hM.disj _ _ _ hfy hb').symm e'
            · rw [hb'] at hb
              exact absurd (hM.disj _ _ _ hfy hb).symm e
            · exact hM.disj _ _ _ hb hb'
          unst := fun s b hb => by
            have hF : ∃ t, F t b := by
              split at hb
              · exact ⟨r, by rw [hb]; exact hfy⟩
              · exact ⟨s, hb⟩
            have hbl : b < w.heap.size := by obtain ⟨t, ht⟩ := hF; exact hM.lt t b ht
            simp only [S3]
            rw [if_pos hbl]
            split at hb
            · rw [hb]; exact h4.unst 0 y.b hfy'
            · rename_i e
              cases hst : St' b with
              | none => rfl
              | some o =>
                have := h4.old b o hst (hM.lt s b hb) fun h => e (hM.disj _ _ _ hb h)
                have h9 := hM.unst s b hb
                rw [show St b = some o from this] at h9
                cases h9
          lt := fun s b hb => by
            split at hb
            · rw [hb]; exact h4.lt 0 y.b hfy'
            · have := hM.lt s b hb; omega
          own := fun s b hb => by
            split at hb
            · rw [hb]; exact hM.own r y.b hfy
            · exact hM.own s b hb
          old := fun b o hb hlt hn => by
            have hbl : b < w.heap.size := by have := hM.size; omega
            simp only [S3] at hb
            rw [if_pos hbl] at hb
            refine hM.old b o (h4.old b o hb hbl fun h => ?_) hlt hn
            rcases hM.own r b h with h | h
            · omega
            · exact hn h
          keep := fun b hb hn => by
            rw [hpres b (by have := hM.size; omega) fun h => by
              rcases hM.own r b h with h | h
              · omega
              · exact hn h]
            exact hM.keep b hb hn
          size := by have := hM.size; omega
          os := h4.os.trans hM.os
          tape := h4.tape.trans hM.tape
          output := h4.output.trans hM.output }
        exact ⟨_, _, S3, ρ, _, hK _ _ hR, bindI_rep hres, hM2, fun b o hb => hsub3 b o (h4.sub b o hb), fun _ _ h => h⟩
      · exact hrel.elim
    · exact hct.elim
  · exact hct.elim
open Classical in
theorem freeze {C : Ctx} {w : World} {St : Snap} {ρ : Nat → Option RA} {F : Nat → Nat → Prop} {rt : List Root} (hM : Mem C w St ρ F rt) {xs : List PV} {vs : List Value} (hp : RepPs St ρ xs vs) (h : (snapAs rt xs).1) :
    ∃ S1 F1, Mem C w S1 ρ F1 (killR rt xs) ∧ RepPs S1 ρ ((snapAs rt xs).2.map argPV) vs ∧ ∀ b o, St b = some o → S1 b = some o := by
  let S1 : Snap := fun b => if ∃ r, r ∈ refsAs xs ∧ F r b then w.heap[b]? else St b
  have g1 : ∀ b o, St b = some o → S1 b = some o := fun b o hb => by
    simp only [S1]
    split
    · exact hM.st b o hb
    · exact hb
  have gst : ∀ b o, S1 b = some o → w.heap[b]? = some o := fun b o hb => by
    simp only [S1] at hb
    split at hb
    · exact hb
    · exact hM.st b o hb
  have hargs : RepIAs S1 (snapAs rt xs).2 vs := snapAs_in hM g1 xs vs (fun r b o hr hf hb => by
    simp only [S1]; rw [if_pos ⟨r, hr, hf⟩]; exact hb) hp h
  refine ⟨S1, fun r b => F r b ∧ r ∉ refsAs xs, ?_, argPV_rep hargs, g1⟩
  exact {
    sub := fun b o hb => g1 b o (hM.sub b o hb)
    st := gst
    root := fun r x hx => by
      rcases killR_at _ _ r x hx with rfl | ⟨hx, hn⟩
      · trivial
      · have e : (fun b => F r b ∧ r ∉ refsAs xs) = F r := by funext b; simp [hn]
        rw [e]
        exact (hM.root r x hx).mono g1 (fun _ _ h => h) fun b hb => rfl
    out := fun r b h => by rw [killR_len]; exact hM.out r b h.1
    outρ := fun r h => by rw [killR_len] at h; exact hM.outρ r h
    disj := fun r r' b h h' => hM.disj r r' b h.1 h'.1
    unst := fun r b h => by
      simp only [S1]
      rw [if_neg]
      · exact hM.unst r b h.1
      · rintro ⟨r', hr', hf'⟩
        have := hM.disj r r' b h.1 hf'
        subst this
        exact h.2 hr'
    lt := fun r b h => hM.lt r b h.1
    own := fun r b h => hM.own r b h.1
    old := fun b o hb hlt hn => by
      simp only [S1] at hb
      split at hb
      · rename_i hex
        obtain ⟨r, _, hf⟩ := hex
        rcases hM.own r b hf with h | h
        · omega
        · exact absurd h hn
      · exact hM.old b o hb hlt hn
    keep := hM.keep
    size := hM.size
    os := hM.os
    tape := hM.tape
    output := hM.output }
def rdAt {β : Type} (dom : RelD) (enc : β → RV) (R : List UInt8 → Int → List PV → β → Int → Prop) (r : Nat) (a : Prop × RV) (rt : List Root) (K : PV → List Root → Prop) : Root → Prop
  | .boxT 0 [.cv (.byt s), .cv (.int .i64 p)] => a.1 ∧ isCvs (a.2.map argPV) = true ∧ dom s p (a.2.map argPV) ∧ ∀ b q, R s p (a.2.map argPV) b q → retI (enc b) (rt.set r (.boxT 0 [.cv (.byt s), .cv (.int .i64 q)])) K
  | _ => False
def rdPV {β : Type} (dom : RelD) (enc : β → RV) (R : List UInt8 → Int → List PV → β → Int → Prop) : List PV → List Root → (PV → List Root → Prop) → Prop
  | .ptr r 2 0 0 :: xs, rt, K => rdAt dom enc R r (snapAs rt xs) (killR rt xs) K (nth .dead (killR rt xs) r)
  | _, _, _ => False
theorem rdPV_mk {β : Type} {dom : RelD} {enc : β → RV} {R : List UInt8 → Int → List PV → β → Int → Prop} {r : Nat} {xs : List PV} {rt : List Root} {K : PV → List Root → Prop} : rdPV dom enc R (.ptr r 2 0 0 :: xs) rt K = rdAt dom enc R r (snapAs rt xs) (killR rt xs) K (nth .dead (killR rt xs) r) := rfl
theorem rdAt_mk {β : Type} {dom : RelD} {enc : β → RV} {R : List UInt8 → Int → List PV → β → Int → Prop} {r : Nat} {a : RV} {h : Prop} {rt : List Root} {K : PV → List Root → Prop} {s : List UInt8} {p : Int} :
    rdAt dom enc R r (h, a) rt K (.boxT 0 [.cv (.byt s), .cv (.int .i64 p)]) = (h ∧ isCvs (a.map argPV) = true ∧ dom s p (a.map argPV) ∧ ∀ b q, R s p (a.map argPV) b q → retI (enc b) (rt.set r (.boxT 0 [.cv (.byt s), .cv (.int .i64 q)])) K) := rfl
theorem killR_nil {rt : List Root} : killR rt [] = rt := rfl
theorem killR_pth {rt : List Root} {r a b c : Nat} {l : List PV} : killR rt (.pth r a b c :: l) = killR (rt.set r .dead) l := rfl
theorem killR_cv {rt : List Root} {c : CV} {l : List PV} : killR rt (.cv c :: l) = killR rt l := rfl
theorem argPV_f {c : CV} : argPV (false, [c]) = .cv c := rfl
theorem map_argN : List.map argPV [] = [] := rfl
theorem map_argC {a : AV} {l : RV} : List.map argPV (a :: l) = argPV a :: List.map argPV l := rfl
attribute [go_sem] rdPV_mk rdAt_mk killR_nil killR_pth killR_cv argPV_f map_argN map_argC
theorem rd_ok {β : Type} {E : Env} (hS : Sound P E) {f : FuncId} {fn : Func} (hf : P.funcs[f]? = some fn) (hname : (fn.name == "runtime.NumGoroutine") = false) {dom : RelD} {enc : β → RV} {R : List UInt8 → Int → List PV → β → Int → Prop} (hpin : E.pin = [0])
    (h : ∀ s p xs, Fit s.length → dom s p xs → isCvs xs = true → vcFn E fn (.ptr 0 2 0 0 :: xs) [.boxT 0 [.cv (.byt s), .cv (.int .i64 p)]] (relQ s fun v q => ∃ b, v = enc b ∧ R s p xs b q)) : CtOk P E.G f (.gen (rdPV dom enc R)) := by
  have h0 := rel_ok hS hf hname (dom := dom) (R := fun s p xs v q => ∃ b, v = enc b ∧ R s p xs b q) hpin h
  intro C w St ρ F rt ps vs K hG hM hp hct
  unfold rdPV at hct
  split at hct
  · rename_i r xs
    unfold rdAt at hct
    split at hct
    · rename_i hroot
      rename_i s p
      obtain ⟨ha, hc, hd, hK⟩ := hct
      obtain ⟨hl, hr⟩ := hp
      obtain ⟨v0, hv0, hp0⟩ := hr 0 _ rfl
      cases vs with
      | nil => simp at hv0
      | cons v vs =>
        simp at hv0; subst hv0
        have hps : RepPs St ρ xs vs := ⟨by simpa using hl, fun i q hq => by simpa using hr (i + 1) q (by simpa using hq)⟩
        obtain ⟨S1, F1, hM1, hp1, hs1⟩ := freeze hM hps ha
        have hp2 : RepPs S1 ρ (.ptr r 2 0 0 :: (snapAs rt xs).2.map argPV) (v :: vs) := by
          refine ⟨by simp [hp1.1], fun i q hq => ?_⟩
          cases i with
          | zero =>
            simp at hq; subst hq
            refine ⟨v, rfl, ?_⟩
            cases hp0 with
            | ptr h => exact .ptr h
          | succ i => simpa using hp1.2 i q (by simpa using hq)
        refine (h0 C w S1 ρ F1 (killR rt xs) _ (v :: vs) K hG hM1 hp2 ?_).mono fun u w' hq => ?_
        · show isCvs _ = true ∧ relAt _ _ _ _ _ _ _
          rw [hroot]
          exact ⟨hc, hd, fun z q hz => by obtain ⟨b, rfl, hb⟩ := hz; exact hK b q hb⟩
        · obtain ⟨p', rt', St', ρ', F', k1, k2, k3, k4, k5⟩ := hq
          exact ⟨p', rt', St', ρ', F', k1, k2, k3, fun b o hb => k4 b o (hs1 b o hb), k5⟩
    · exact hct.elim
  · exact hct.elim
def rdP (c : Int) (s : List UInt8) (p : Int) : Prop := 0 ≤ p ∧ p + c ≤ 1099511627776 ∧ s.length ≤ 2000
def d0 (c : Int) : RelD
  | s, p, [] => rdP c s p
  | _, _, _ => False
def dI (c : Int) (pre : Int → Prop) : RelD
  | s, p, [.cv (.int .i64 n)] => pre n ∧ rdP c s p
  | _, _, _ => False
def dL (c : Int) (pre : List (List CV) → Prop) : RelD
  | s, p, [.cv (.sl 1 es)] => pre es ∧ rdP c s p
  | _, _, _ => False
def rQ {β : Type} (c : Int) (Q : List PV → β → Prop) (s : List UInt8) (p : Int) (xs : List PV) (b : β) (q : Int) : Prop := p ≤ q ∧ q ≤ p + c ∧ Q xs b
def qI (Q : Int → Int → Prop) : List PV → Int → Prop
  | [.cv (.int .i64 n)], v => Q n v
  | _, _ => False
def strsLe (m : Nat) : List (List CV) → Prop
  | [] => True
  | [.str s] :: r => s.length ≤ m ∧ strsLe m r
  | _ :: _ => False
def intsIn (lo hi : Int) : List (List CV) → Prop
  | [] => True
  | [.int .i64 n] :: r => (lo ≤ n ∧ n ≤ hi) ∧ intsIn lo hi r
  | _ :: _ => False
theorem rdP_mk {c : Int} {s : List UInt8} {p : Int} : rdP c s p = (0 ≤ p ∧ p + c ≤ 1099511627776 ∧ s.length ≤ 2000) := rfl
theorem d0_mk {c : Int} {s : List UInt8} {p : Int} : d0 c s p [] = rdP c s p := rfl
theorem dI_mk {c : Int} {pre : Int → Prop} {s : List UInt8} {p n : Int} : dI c pre s p [.cv (.int .i64 n)] = (pre n ∧ rdP c s p) := rfl
theorem dL_mk {c : Int} {pre : List (List CV) → Prop} {s : List UInt8} {p : Int} {es : List (List CV)} : dL c pre s p [.cv (.sl 1 es)] = (pre es ∧ rdP c s p) := rfl
theorem rQ_mk {β : Type} {c : Int} {Q : List PV → β → Prop} {s : List UInt8} {p : Int} {xs : List PV} {b : β} {q : Int} : rQ c Q s p xs b q = (p ≤ q ∧ q ≤ p + c ∧ Q xs b) := rfl
theorem qI_mk {Q : Int → Int → Prop} {n v : Int} : qI Q [.cv (.int .i64 n)] v = Q n v := rfl
theorem strsLe_nil {m : Nat} : strsLe m [] = True := rfl
theorem strsLe_cons {m : Nat} {s : List UInt8} {r : List (List CV)} : strsLe m ([.str s] :: r) = (s.length ≤ m ∧ strsLe m r) := rfl
theorem intsIn_nil {lo hi : Int} : intsIn lo hi [] = True := rfl
theorem intsIn_cons {lo hi n : Int} {r : List (List CV)} : intsIn lo hi ([.int .i64 n] :: r) = ((lo ≤ n ∧ n ≤ hi) ∧ intsIn lo hi r) := rfl
attribute [go_sem] rdP_mk d0_mk dI_mk dL_mk rQ_mk qI_mk strsLe_nil strsLe_cons intsIn_nil intsIn_cons
theorem strsLe_at {m : Nat} : ∀ {es : List (List CV)}, strsLe m es → ∀ {i : Nat}, i < es.length → ∃ s : List UInt8, es.getD i [] = [.str s] ∧ s.length ≤ m
  | [], _, i, h => by simp at h
  | [.str s] :: r, h, 0, _ => ⟨s, rfl, h.1⟩
  | [.str s] :: r, h, i + 1, hi => by simpa using strsLe_at (es := r) h.2 (by simpa using hi)
  | [] :: _, h, _, _ => h.elim
  | (a :: b :: t) :: _, h, _, _ => by
    cases a with
    | int k n => cases k <;> exact False.elim h
    | _ => exact False.elim h
  | [.int _ _] :: _, h, _, _ => h.elim
  | [.bool _] :: _, h, _, _ => h.elim
  | [.val _] :: _, h, _, _ => h.elim
  | [.ex _] :: _, h, _, _ => h.elim
  | [.byt _] :: _, h, _, _ => h.elim
  | [.sl _ _] :: _, h, _, _ => h.elim
theorem intsIn_at {lo hi : Int} : ∀ {es : List (List CV)}, intsIn lo hi es → ∀ {i : Nat}, i < es.length → ∃ n : Int, es.getD i [] = [.int .i64 n] ∧ lo ≤ n ∧ n ≤ hi
  | [], _, i, h => by simp at h
  | [.int .i64 n] :: r, h, 0, _ => ⟨n, rfl, h.1⟩
  | [.int .i64 n] :: r, h, i + 1, hi => by simpa using intsIn_at (es := r) h.2 (by simpa using hi)
  | [] :: _, h, _, _ => h.elim
  | (a :: b :: t) :: _, h, _, _ => by
    cases a with
    | int k n => cases k <;> exact False.elim h
    | _ => exact False.elim h
  | [.str _] :: _, h, _, _ => h.elim
  | [.bool _] :: _, h, _, _ => h.elim
  | [.val _] :: _, h, _, _ => h.elim
  | [.ex _] :: _, h, _, _ => h.elim
  | [.byt _] :: _, h, _, _ => h.elim
  | [.sl _ _] :: _, h, _, _ => h.elim
  | [.int .i8 _] :: _, h, _, _ => h.elim
  | [.int .i16 _] :: _, h, _, _ => h.elim
  | [.int .i32 _] :: _, h, _, _ => h.elim
  | [.int .u8 _] :: _, h, _, _ => h.elim
  | [.int .u16 _] :: _, h, _, _ => h.elim
  | [.int .u32 _] :: _, h, _, _ => h.elim
  | [.int .u64 _] :: _, h, _, _ => h.elim
def q0 {β : Type} (Q : β → Prop) : List PV → β → Prop
  | [], v => Q v
  | _, _ => False
def qN {β : Type} (Q : Int → β → Prop) : List PV → β → Prop
  | [.cv (.int .i64 n)], v => Q n v
  | _, _ => False
def qL {β : Type} (Q : List (List CV) → β → Prop) : List PV → β → Prop
  | [.cv (.sl 1 es)], v => Q es v
  | _, _ => False
theorem q0_mk {β : Type} {Q : β → Prop} {v : β} : q0 Q [] v = Q v := rfl
theorem qN_mk {β : Type} {Q : Int → β → Prop} {n : Int} {v : β} : qN Q [.cv (.int .i64 n)] v = Q n v := rfl
theorem qL_mk {β : Type} {Q : List (List CV) → β → Prop} {es : List (List CV)} {v : β} : qL Q [.cv (.sl 1 es)] v = Q es v := rfl
attribute [go_sem] q0_mk qN_mk qL_mk
theorem d0_inv {c : Int} {s : List UInt8} {p : Int} {xs : List PV} (h : d0 c s p xs) : xs = [] ∧ rdP c s p := by
  unfold d0 at h
  split at h
  · exact ⟨rfl, h⟩
  · exact h.elim
theorem dI_inv {c : Int} {pre : Int → Prop} {s : List UInt8} {p : Int} {xs : List PV} (h : dI c pre s p xs) : ∃ n : Int, xs = [.cv (.int .i64 n)] ∧ pre n ∧ rdP c s p := by
  unfold dI at h
  split at h
  · exact ⟨_, rfl, h⟩
  · exact h.elim
theorem dL_inv {c : Int} {pre : List (List CV) → Prop} {s : List UInt8} {p : Int} {xs : List PV} (h : dL c pre s p xs) : ∃ es, xs = [.cv (.sl 1 es)] ∧ pre es ∧ rdP c s p := by
  unfold dL at h
  split at h
  · exact ⟨_, rfl, h⟩
  · exact h.elim
end Go.Gx
end
section
set_option linter.unusedVariables false
set_option linter.unusedSimpArgs false
set_option maxRecDepth 100000
namespace Go.Gx
open Go.Proofs
def E77 : Env := { T := Tz.tab, G := Gl, C := [], alt := [(7, some (.op 0 (.op 1 (.op 2 (.op 3 (.op 4 (.op 5 (.op 6 (.op 7 (.op 8 (.op 9 (.op 10 (.op 11 (.op 12 (.op 15 (.op 16 (.op 17 (.op 18 (.op 19 (.op 20 (.op 21 (.op 22 (.op 23 (.op 24 (.op 25 (.op 26 (.op 27 (.op 28 (.op 29 (.op 33 (.op 34 (.op 36 (.op 37 (.op 38 (.op 39 (.op 40 (.op 41 (.op 42 (.op 43 (.alt (.op 13 (.op 14 (.op 30 (.op 31 (.op 32 (.op 35 (.op 44 (.op 45 .done)))))))) (.op 30 (.op 31 (.op 13 (.op 14 (.op 32 (.op 35 (.op 44 (.op 45 .done))))))))))))))))))))))))))))))))))))))))))))))))], live := [(0, [0, 1]), (1, [0, 1]), (2, [0, 1, 24]), (3, [4]), (4, [0, 1, 5]), (5, [0, 1, 5, 36]), (6, [4]), (7, [1, 6]), (8, [1, 6]), (9, [4])], pin := [0] }
def ct77 : Ct := .gen (rdPV (dI 1 (fun _ => True)) (fun (b : Int) => [tInt.enc b]) (rQ 1 (qN (fun n v => 0 ≤ v ∧ (v < n ∨ v = 0)))))
attribute [go_sem] E77 ct77 Go.Proofs.Tryz.f77
set_option maxHeartbeats 2000000 in
theorem ok77 : CtOk Tryz.prog Gl 77 ct77 := rd_ok (E := E77) (sound_of Tz.tab_ok Tz.mixed AllOk.nil) Tryz.func77 (by kernel_rfl) rfl fun s p xs hfit hd hxs => by
  obtain ⟨n, rfl, hn, hp0, hp1, hp2⟩ := dI_inv hd
  refine vcFn_intro rfl rfl (by kernel_rfl) rfl ?_
  have hb : ∀ i, ((s.getD i 0).toNat : Int) < 256 := fun i => by have := (s.getD i 0).toNat_lt; omega
  have hA : 0 < s.length → 0 ≤ p % (s.length : Int) ∧ p % (s.length : Int) < s.length := fun h => ⟨Int.emod_nonneg _ (by omega), Int.emod_lt_of_pos _ (by omega)⟩
  have hB : 0 < s.length → 0 ≤ (p * 7 + 3) % (s.length : Int) ∧ (p * 7 + 3) % (s.length : Int) < s.length := fun h => ⟨Int.emod_nonneg _ (by omega), Int.emod_lt_of_pos _ (by omega)⟩
  have hD : 0 ≤ p / (s.length : Int) ∧ p / (s.length : Int) ≤ p := ⟨Int.ediv_nonneg hp0 (by omega), Int.ediv_le_self _ hp0⟩
  have hm : ∀ z : Int, 0 < n → 0 ≤ z % n ∧ z % n < n := fun z h => ⟨Int.emod_nonneg _ (by omega), Int.emod_lt_of_pos _ h⟩
  repeat (dsimp +instances only [go_sem, Nat.reduceBEq, Nat.reduceAdd, Nat.reduceSub, Nat.reduceLT, Nat.reduceLeDiff]; try simp only [b1, b2, b3, b4, b5, Nat.reduceAdd, Int.reduceToNat, Int.reduceLE, Int.reduceLT, sliceL, flatRows, allFlat, flatC, Nat.reduceLT, Nat.reduceMul, Nat.reduceLeDiff, implies_true, imp_self])
  try simp only [n1, n2, forall_const, reduceCtorEq, false_implies, Int.add_sub_cancel]
  generalize p % (s.length : Int) = A at *
  generalize (p * 7 + 3) % (s.length : Int) = B at *
  generalize p / (s.length : Int) = D at *
  have h1 := hb A.toNat
  have h2 := hb B.toNat
  have h3 := hb p.toNat
  generalize ((s.getD A.toNat 0).toNat) = x at *
  generalize ((s.getD B.toNat 0).toNat) = y at *
  generalize ((s.getD p.toNat 0).toNat) = z at *
  (repeat' (first | refine And.intro ?_ ?_ | intro _)) <;> try first | omega | trivial
  all_goals first | exact ⟨_, rfl, by omega, by omega, by omega, .inr rfl⟩ | exact ⟨_, rfl, by omega, by omega, (hm _ (by omega)).1, .inl (hm _ (by omega)).2⟩ | skip
end Go.Gx
end
section
set_option linter.unusedVariables false
set_option linter.unusedSimpArgs false
set_option maxRecDepth 100000
namespace Go.Gx
open Go.Proofs
def E86 : Env := { T := Tz.tab, G := Gl, C := [(77, ct77)], live := [(0, [0, 1]), (1, [4])], pin := [0] }
def ct86 : Ct := .gen (rdPV (dL 1 (fun es => strsLe 64 es ∧ 0 < es.length ∧ Fit es.length)) (fun (b : Str) => [tStr.enc b]) (rQ 1 (qL (fun _ b => b.length ≤ 64))))
attribute [go_sem] E86 ct86 Go.Proofs.Tryz.f86
theorem ok86 : CtOk Tryz.prog Gl 86 ct86 := rd_ok (E := E86) (sound_of Tz.tab_ok Tz.mixed (AllOk.cons ok77 AllOk.nil)) Tryz.func86 (by kernel_rfl) rfl fun s p xs hfit hd hxs => by
  obtain ⟨es, rfl, hes, hp0, hp1, hp2⟩ := dL_inv hd
  refine vcFn_intro rfl rfl (by kernel_rfl) rfl ?_
  obtain ⟨hes, hpos, hft⟩ := hes
  repeat (dsimp +instances only [go_sem, Nat.reduceBEq, Nat.reduceAdd, Nat.reduceSub, Nat.reduceLT, Nat.reduceLeDiff]; try simp only [b1, b2, b3, b4, b5, Nat.reduceAdd, Int.reduceToNat, Int.reduceLE, Int.reduceLT, sliceL, flatRows, allFlat, flatC, Nat.reduceLT, Nat.reduceMul, Nat.reduceLeDiff, implies_true, imp_self])
  try simp only [n1, n2, forall_const, reduceCtorEq, false_implies]
  refine ⟨⟨by omega, by omega, by omega⟩, ?_⟩
  rintro b q ⟨h1, h2, h3, h4⟩
  refine ⟨⟨by omega, by omega⟩, ?_⟩
  obtain ⟨a, ha, hl⟩ := strsLe_at hes (i := b.toNat) (by omega)
  try dsimp +instances only [go_sem, Nat.reduceBEq, Nat.reduceAdd, Nat.reduceSub, Nat.reduceLT, Nat.reduceLeDiff]
  repeat (simp only [ha, b1, b2, b3, b4, b5, Nat.reduceAdd, Int.reduceToNat, Int.reduceLE, Int.reduceLT, sliceL, flatRows, allFlat, flatC, Nat.reduceLT, Nat.reduceMul, Nat.reduceLeDiff, implies_true, imp_self]; try dsimp +instances only [go_sem, Nat.reduceBEq, Nat.reduceAdd, Nat.reduceSub, Nat.reduceLT, Nat.reduceLeDiff])
  try simp only [n1, n2, forall_const, reduceCtorEq, false_implies]
  exact ⟨_, rfl, by omega, by omega, hl⟩
def E87 : Env := { T := Tz.tab, G := Gl, C := [(77, ct77)], live := [(0, [0, 1]), (1, [4])], pin := [0] }
def ct87 : Ct := .gen (rdPV (dL 1 (fun es => intsIn (-1099511627776) 1099511627776 es ∧ 0 < es.length ∧ Fit es.length)) (fun (b : Int) => [tInt.enc b]) (rQ 1 (qL (fun es b => ∀ lo hi, intsIn lo hi es → lo ≤ b ∧ b ≤ hi))))
attribute [go_sem] E87 ct87 Go.Proofs.Tryz.f87
theorem ok87 : CtOk Tryz.prog Gl 87 ct87 := rd_ok (E := E87) (sound_of Tz.tab_ok Tz.mixed (AllOk.cons ok77 AllOk.nil)) Tryz.func87 (by kernel_rfl) rfl fun s p xs hfit hd hxs => by
  obtain ⟨es, rfl, hes, hp0, hp1, hp2⟩ := dL_inv hd
  refine vcFn_intro rfl rfl (by kernel_rfl) rfl ?_
  obtain ⟨hes, hpos, hft⟩ := hes
  repeat (dsimp +instances only [go_sem, Nat.reduceBEq, Nat.reduceAdd, Nat.reduceSub, Nat.reduceLT, Nat.reduceLeDiff]; try simp only [b1, b2, b3, b4, b5, Nat.reduceAdd, Int.reduceToNat, Int.reduceLE, Int.reduceLT, sliceL, flatRows, allFlat, flatC, Nat.reduceLT, Nat.reduceMul, Nat.reduceLeDiff, implies_true, imp_self])
  try simp only [n1, n2, forall_const, reduceCtorEq, false_implies]
  refine ⟨⟨by omega, by omega, by omega⟩, ?_⟩
  rintro b q ⟨h1, h2, h3, h4⟩
  refine ⟨⟨by omega, by omega⟩, ?_⟩
  obtain ⟨a, ha, hl⟩ := intsIn_at hes (i := b.toNat) (by omega)
  have hall : ∀ lo hi, intsIn lo hi es → lo ≤ a ∧ a ≤ hi := fun lo hi h => by
    obtain ⟨a', ha', hl'⟩ := intsIn_at h (i := b.toNat) (by omega)
    rw [ha] at ha'
    injection ha' with h1 _
    injection h1 with _ h1
    rw [h1]; exact hl'
  try dsimp +instances only [go_sem, Nat.reduceBEq, Nat.reduceAdd, Nat.reduceSub, Nat.reduceLT, Nat.reduceLeDiff]
  repeat (simp only [ha, b1, b2, b3, b4, b5, Nat.reduceAdd, Int.reduceToNat, Int.reduceLE, Int.reduceLT, sliceL, flatRows, allFlat, flatC, Nat.reduceLT, Nat.reduceMul, Nat.reduceLeDiff, implies_true, imp_self]; try dsimp +instances only [go_sem, Nat.reduceBEq, Nat.reduceAdd, Nat.reduceSub, Nat.reduceLT, Nat.reduceLeDiff])
  try simp only [n1, n2, forall_const, reduceCtorEq, false_implies]
  exact ⟨_, rfl, by omega, by omega, hall⟩
end Go.Gx
end
section
set_option linter.unusedVariables false
set_option linter.unusedSimpArgs false
set_option maxRecDepth 100000
namespace Go.Gx
open Go.Proofs
def E118 : Env := { T := Tz.tab, G := Gl, C := [(86, ct86)], live := [(0, [0]), (1, [2])], pin := [0] }
def ct118 : Ct := .gen (rdPV (d0 1) (fun (b : Str) => [tStr.enc b]) (rQ 1 (q0 (fun b => b.length ≤ 64))))
attribute [go_sem] E118 ct118 Go.Proofs.Tryz.f118
theorem ok118 : CtOk Tryz.prog Gl 118 ct118 := rd_ok (E := E118) (sound_of Tz.tab_ok Tz.mixed (AllOk.cons ok86 AllOk.nil)) Tryz.func118 (by kernel_rfl) rfl fun s p xs hfit hd hxs => by
  obtain ⟨rfl, hp0, hp1, hp2⟩ := d0_inv hd
  refine vcFn_intro rfl rfl (by kernel_rfl) rfl ?_
  repeat (dsimp +instances only [go_sem, Nat.reduceBEq, Nat.reduceAdd, Nat.reduceSub, Nat.reduceLT, Nat.reduceLeDiff]; try simp only [b1, b2, b3, b4, b5, Nat.reduceAdd, Int.reduceToNat, Int.reduceLE, Int.reduceLT, sliceL, flatRows, allFlat, flatC, Nat.reduceLT, Nat.reduceMul, Nat.reduceLeDiff, implies_true, imp_self])
  try simp only [n1, n2, forall_const, reduceCtorEq, false_implies]
  exact ⟨⟨by omega, by omega, by omega, by omega⟩, fun b q h => ⟨b, rfl, h⟩⟩
def E153 : Env := { T := Tz.tab, G := Gl, C := [(86, ct86)], live := [(0, [0]), (1, [2])], pin := [0] }
def ct153 : Ct := .gen (rdPV (d0 1) (fun (b : Str) => [tStr.enc b]) (rQ 1 (q0 (fun b => b.length ≤ 64))))
attribute [go_sem] E153 ct153 Go.Proofs.Tryz.f153
theorem ok153 : CtOk Tryz.prog Gl 153 ct153 := rd_ok (E := E153) (sound_of Tz.tab_ok Tz.mixed (AllOk.cons ok86 AllOk.nil)) Tryz.func153 (by kernel_rfl) rfl fun s p xs hfit hd hxs => by
  obtain ⟨rfl, hp0, hp1, hp2⟩ := d0_inv hd
  refine vcFn_intro rfl rfl (by kernel_rfl) rfl ?_
  repeat (dsimp +instances only [go_sem, Nat.reduceBEq, Nat.reduceAdd, Nat.reduceSub, Nat.reduceLT, Nat.reduceLeDiff]; try simp only [b1, b2, b3, b4, b5, Nat.reduceAdd, Int.reduceToNat, Int.reduceLE, Int.reduceLT, sliceL, flatRows, allFlat, flatC, Nat.reduceLT, Nat.reduceMul, Nat.reduceLeDiff, implies_true, imp_self])
  try simp only [n1, n2, forall_const, reduceCtorEq, false_implies]
  exact ⟨⟨by omega, by omega, by omega, by omega⟩, fun b q h => ⟨b, rfl, h⟩⟩
def E151 : Env := { T := Tz.tab, G := Gl, C := [(87, ct87), (77, ct77)], live := [(0, [0, 1]), (1, [0, 1, 5]), (2, [0, 1, 5, 8]), (3, [0, 1, 5]), (4, [0, 1, 5]), (5, [4])], pin := [0] }
def ct151 : Ct := .gen (rdPV (dI 20 (fun n => 0 ≤ n ∧ n ≤ 9)) (fun (b : Str) => [tStr.enc b]) (rQ 20 (qN (fun n b => b.length ≤ 9))))
attribute [go_sem] E151 ct151 Go.Proofs.Tryz.f151
theorem ok151 : CtOk Tryz.prog Gl 151 ct151 := rd_ok (E := E151) (sound_of Tz.tab_ok Tz.mixed (AllOk.cons ok87 (AllOk.cons ok77 AllOk.nil))) Tryz.func151 (by kernel_rfl) rfl fun s p xs hfit hd hxs => by
  obtain ⟨n, rfl, hn, hp0, hp1, hp2⟩ := dI_inv hd
  refine vcFn_intro rfl rfl (by kernel_rfl) rfl ?_
  obtain ⟨m, rfl⟩ : ∃ m : Nat, n = m := ⟨n.toNat, by omega⟩
  repeat (dsimp +instances only [go_sem, Nat.reduceBEq, Nat.reduceAdd, Nat.reduceSub, Nat.reduceLT, Nat.reduceLeDiff]; try simp only [b1, b2, b3, b4, b5, Nat.reduceAdd, Int.reduceToNat, Int.reduceLE, Int.reduceLT, sliceL, flatRows, allFlat, flatC, Nat.reduceLT, Nat.reduceMul, Nat.reduceLeDiff, implies_true, imp_self])
  try simp only [n1, n2, forall_const, reduceCtorEq, false_implies]
  refine vcC_loop [0, 1, 5] (fun (x : Nat × Int × Str) => x.2.2.length + x.1 ≤ 9 ∧ p ≤ x.2.1 ∧ x.2.1 + 2 * x.1 ≤ p + 18) (fun x => [.ptr 0 2 0 0, .cv (.int .i64 x.1), .pth 1 1 0 x.2.2.length]) (fun x => [.boxT 0 [.cv (.byt s), .cv (.int .i64 x.2.1)], .byt x.2.2]) (fun x => x.1) (m, p, []) ⟨by simp only [List.length_nil]; omega, by simp only; omega, by simp only; omega⟩ ⟨rfl, rfl⟩ ?_
  rintro ⟨k, q, o⟩ ⟨h1, h2, h3⟩
  simp only at h1 h2 h3
  repeat (dsimp +instances only [go_sem, Nat.reduceBEq, Nat.reduceAdd, Nat.reduceSub, Nat.reduceLT, Nat.reduceLeDiff]; try simp only [b1, b2, b3, b4, b5, Nat.reduceAdd, Int.reduceToNat, Int.reduceLE, Int.reduceLT, sliceL, flatRows, allFlat, flatC, Nat.reduceLT, Nat.reduceMul, Nat.reduceLeDiff, implies_true, imp_self])
  try simp only [n1, n2, forall_const, reduceCtorEq, false_implies]
  refine ⟨fun hk => ⟨⟨by omega, by omega, by omega⟩, ?_⟩, fun _ => ⟨o, rfl, by omega, by omega, by omega⟩⟩
  rintro b q1 ⟨j1, j2, j3, j4⟩
  refine ⟨⟨⟨by omega, by omega⟩, by omega, by omega, by omega⟩, ?_⟩
  rintro b1 q2 ⟨i1, i2, i3⟩
  refine ⟨by omega, by omega, nextL_intro (k - 1, q2, o ++ [u8 (b1 % 256)]) ⟨?_, ?_, ?_⟩ (by simp only; omega) ?_ rfl⟩
  · simp only [List.length_append, List.length_cons, List.length_nil]; omega
  · simp only; omega
  · simp only; omega
  · simp only [List.length_append, List.length_cons, List.length_nil, show ((k - 1 : Nat) : Int) = (k : Int) - 1 by omega]
def E152 : Env := { T := Tz.tab, G := Gl, C := [(86, ct86), (77, ct77)], live := [(0, [0]), (1, [0, 3]), (2, [0, 3, 4]), (3, [0, 3, 4, 8]), (4, [0, 3, 4]), (5, [0, 3, 4]), (6, [2])], pin := [0] }
def ct152 : Ct := .gen (rdPV (d0 11) (fun (b : Str) => [tStr.enc b]) (rQ 11 (q0 (fun b => b.length ≤ 640))))
attribute [go_sem] E152 ct152 Go.Proofs.Tryz.f152
theorem ok152 : CtOk Tryz.prog Gl 152 ct152 := rd_ok (E := E152) (sound_of Tz.tab_ok Tz.mixed (AllOk.cons ok86 (AllOk.cons ok77 AllOk.nil))) Tryz.func152 (by kernel_rfl) rfl fun s p xs hfit hd hxs => by
  obtain ⟨rfl, hp0, hp1, hp2⟩ := d0_inv hd
  refine vcFn_intro rfl rfl (by kernel_rfl) rfl ?_
  repeat (dsimp +instances only [go_sem, Nat.reduceBEq, Nat.reduceAdd, Nat.reduceSub, Nat.reduceLT, Nat.reduceLeDiff]; try simp only [b1, b2, b3, b4, b5, Nat.reduceAdd, Int.reduceToNat, Int.reduceLE, Int.reduceLT, sliceL, flatRows, allFlat, flatC, Nat.reduceLT, Nat.reduceMul, Nat.reduceLeDiff, implies_true, imp_self])
  try simp only [n1, n2, forall_const, reduceCtorEq, false_implies]
  refine ⟨⟨by omega, by omega, by omega⟩, ?_⟩
  rintro b q0 ⟨g1, g2, g3, g4⟩
  obtain ⟨m, rfl⟩ : ∃ m : Nat, b = m := ⟨b.toNat, by omega⟩
  refine vcC_loop [0, 3, 4] (fun (x : Nat × Int × Str) => x.1 ≤ 5 ∧ x.2.2.length + 128 * x.1 ≤ 640 ∧ p ≤ x.2.1 ∧ x.2.1 + 2 * x.1 ≤ p + 11) (fun x => [.ptr 0 2 0 0, .cv (.str x.2.2), .cv (.int .i64 x.1)]) (fun x => [.boxT 0 [.cv (.byt s), .cv (.int .i64 x.2.1)]]) (fun x => x.1) (m, q0, []) ⟨by simp only; omega, by simp only [List.length_nil]; omega, by simp only; omega, by simp only; omega⟩ ⟨rfl, rfl⟩ ?_
  rintro ⟨k, q, o⟩ ⟨h0, h1, h2, h3⟩
  simp only at h0 h1 h2 h3
  repeat (dsimp +instances only [go_sem, Nat.reduceBEq, Nat.reduceAdd, Nat.reduceSub, Nat.reduceLT, Nat.reduceLeDiff]; try simp only [b1, b2, b3, b4, b5, Nat.reduceAdd, Int.reduceToNat, Int.reduceLE, Int.reduceLT, sliceL, flatRows, allFlat, flatC, Nat.reduceLT, Nat.reduceMul, Nat.reduceLeDiff, implies_true, imp_self])
  try simp only [n1, n2, forall_const, reduceCtorEq, false_implies]
  refine ⟨fun hk => ⟨⟨by omega, by omega, by omega, by omega⟩, ?_⟩, fun _ => ⟨o, rfl, by omega, by omega, by omega⟩⟩
  rintro b q1 ⟨j1, j2, j3⟩
  refine ⟨by omega, ⟨by omega, by omega, by omega, by omega⟩, ?_⟩
  rintro b1 q2 ⟨i1, i2, i3⟩
  refine ⟨by omega, by omega, nextL_intro (k - 1, q2, o ++ b ++ b1) ⟨?_, ?_, ?_, ?_⟩ (by simp only; omega) ?_ rfl⟩
  · simp only; omega
  · simp only [List.length_append]; omega
  · simp only; omega
  · simp only; omega
  · simp only [show ((k - 1 : Nat) : Int) = (k : Int) - 1 by omega]
def E116 : Env := { T := Tz.tab, G := Gl, C := [(86, ct86), (77, ct77), (151, ct151), (118, ct118), (152, ct152), (153, ct153)], live := [(0, [0]), (1, [0, 5]), (2, [0, 5, 6]), (3, [2]), (4, [0, 11]), (5, [2]), (6, [0, 3]), (7, [0, 3]), (8, [2])], pin := [0] }
def ct116 : Ct := .gen (rdPV (d0 24) (fun (b : Str) => [tStr.enc b]) (rQ 24 (q0 (fun b => b.length ≤ 1100))))
attribute [go_sem] E116 ct116 Go.Proofs.Tryz.f116
theorem ok116 : CtOk Tryz.prog Gl 116 ct116 := rd_ok (E := E116) (sound_of Tz.tab_ok Tz.mixed (AllOk.cons ok86 (AllOk.cons ok77 (AllOk.cons ok151 (AllOk.cons ok118 (AllOk.cons ok152 (AllOk.cons ok153 AllOk.nil))))))) Tryz.func116 (by kernel_rfl) rfl fun s p xs hfit hd hxs => by
  obtain ⟨rfl, hp0, hp1, hp2⟩ := d0_inv hd
  refine vcFn_intro rfl rfl (by kernel_rfl) rfl ?_
  repeat (dsimp +instances only [go_sem, Nat.reduceBEq, Nat.reduceAdd, Nat.reduceSub, Nat.reduceLT, Nat.reduceLeDiff]; try simp only [b1, b2, b3, b4, b5, Nat.reduceAdd, Int.reduceToNat, Int.reduceLE, Int.reduceLT, sliceL, flatRows, allFlat, flatC, Nat.reduceLT, Nat.reduceMul, Nat.reduceLeDiff, implies_true, imp_self])
  try simp only [n1, n2, forall_const, reduceCtorEq, false_implies]
  (repeat' (first | refine And.intro ?_ ?_ | intro _)) <;> try first | omega | trivial
  all_goals exact ⟨_, rfl, by omega, by omega, by first | omega | (simp only [List.length_append]; omega)⟩
end Go.Gx
end
section
set_option linter.unusedVariables false
set_option linter.unusedSimpArgs false
set_option maxRecDepth 100000
namespace Go.Gx
open Go.Proofs
theorem UrlGet_small (s : Str) : Small (UrlGet s).1 200 := by
  unfold UrlGet
  split
  · exact ⟨by simp [url0], by simp [url0], by simp [url0], by simp [url0], by simp [url0, PathPut], by simp [url0], by simp [url0], by simp [url0]⟩
  · rename_i h
    simp only
    split
    · have h1 := trimN_len s
      have h2 := schA_len (trimN s) []
      simp only [List.length_nil] at h2
      have h3 := readN_small (schA [] (trimN s)).1.1 (schA [] (trimN s)).1.2
      exact ⟨by have h4 := h3.scheme; simp only; omega, h3.user, h3.pass, h3.name, h3.path, h3.opq, h3.query, h3.frag⟩
    · exact ⟨by simp [url0], by simp [url0], by simp [url0], by simp [url0], by simp [url0, PathPut], by simp [url0], by simp [url0], by simp [url0]⟩
theorem Small.mono {u : Url} {m n : Nat} (h : Small u m) (hl : m ≤ n) : Small u n := ⟨by have := h.scheme; omega, h.user, h.pass, h.name, h.path, h.opq, h.query, h.frag⟩
theorem host_ex {k a : Int} {n : Str} {P : Host → Prop} (h : P ⟨k, n, a⟩) : ∃ b : Host, (k = b.Kind ∧ n = b.Name ∧ a = b.Addr) ∧ P b := ⟨⟨k, n, a⟩, ⟨rfl, rfl, rfl⟩, h⟩
def E46 : Env := { T := Tz.tab, G := Gl, C := [], live := [(0, [0]), (1, [0, 5]), (2, [0]), (3, [2])] }
def ct46 : Ct := inlK E46 Go.Proofs.Tryz.f46 #[ResultVar.tmp 2] 1
attribute [go_sem] E46 ct46 Go.Proofs.Tryz.f46
theorem ok46 : CtOk Tryz.prog Gl 46 ct46 := inl_ok (E := E46) (sound_of Tz.tab_ok Tz.mixed AllOk.nil) Tryz.func46 (by kernel_rfl) rfl rfl rfl (fun pin => by kernel_rfl)
def E88 : Env := { T := Tz.tab, G := Gl, C := [(86, ct86), (87, ct87), (77, ct77), (118, ct118), (117, ct117)], live := [(0, [0, 2]), (1, [0, 2, 3]), (2, [0, 2, 3, 12]), (3, [0, 2, 3, 12, 13]), (4, [2, 3]), (5, [0, 2, 3, 12, 18]), (6, [2, 3]), (7, [0, 2, 3, 24]), (8, [2, 3]), (9, [2])], pin := [0] }
def ct88 : Ct := .gen (rdPV (d0 8) (fun (h : Host) => [tHost.enc h]) (rQ 8 (q0 (fun h => h.Name.length ≤ 600))))
attribute [go_sem] E88 ct88 Go.Proofs.Tryz.f88
theorem ok88 : CtOk Tryz.prog Gl 88 ct88 := rd_ok (E := E88) (sound_of Tz.tab_ok Tz.mixed (AllOk.cons ok86 (AllOk.cons ok87 (AllOk.cons ok77 (AllOk.cons ok118 (AllOk.cons ok117 AllOk.nil)))))) Tryz.func88 (by kernel_rfl) rfl fun s p xs hfit hd hxs => by
  obtain ⟨rfl, hp0, hp1, hp2⟩ := d0_inv hd
  refine vcFn_intro rfl rfl (by kernel_rfl) rfl ?_
  repeat (dsimp +instances only [go_sem, Nat.reduceBEq, Nat.reduceAdd, Nat.reduceSub, Nat.reduceLT, Nat.reduceLeDiff]; try simp only [b1, b2, b3, b4, b5, Nat.reduceAdd, Int.reduceToNat, Int.reduceLE, Int.reduceLT, sliceL, flatRows, allFlat, flatC, Nat.reduceLT, Nat.reduceMul, Nat.reduceLeDiff, implies_true, imp_self])
  try simp only [n1, n2, forall_const, reduceCtorEq, false_implies]
  have hn := fun b : Str => HostGet_small b
  (repeat' (first | refine And.intro ?_ ?_ | intro _)) <;> try first | omega | trivial
  all_goals exact host_ex ⟨by omega, by omega, by first | exact hn _ | (simp only; omega)⟩
def E78 : Env := { T := Tz.tab, G := Gl, C := [(86, ct86), (93, ct93)], live := [(0, [0, 2]), (1, [2, 3]), (2, [2])], pin := [0] }
def ct78 : Ct := .gen (rdPV (d0 8) (fun (u : Url) => [tUrl.enc u]) (rQ 8 (q0 (fun u => Small u 600))))
attribute [go_sem] E78 ct78 Go.Proofs.Tryz.f78
theorem ok78 : CtOk Tryz.prog Gl 78 ct78 := rd_ok (E := E78) (sound_of Tz.tab_ok Tz.mixed (AllOk.cons ok86 (AllOk.cons ok93 AllOk.nil))) Tryz.func78 (by kernel_rfl) rfl fun s p xs hfit hd hxs => by
  obtain ⟨rfl, hp0, hp1, hp2⟩ := d0_inv hd
  refine vcFn_intro rfl rfl (by kernel_rfl) rfl ?_
  repeat (dsimp +instances only [go_sem, Nat.reduceBEq, Nat.reduceAdd, Nat.reduceSub, Nat.reduceLT, Nat.reduceLeDiff]; try simp only [b1, b2, b3, b4, b5, Nat.reduceAdd, Int.reduceToNat, Int.reduceLE, Int.reduceLT, sliceL, flatRows, allFlat, flatC, Nat.reduceLT, Nat.reduceMul, Nat.reduceLeDiff, implies_true, imp_self])
  repeat (dsimp +instances only [callIm_mk, killR, killA, killC, kill1, List.set_cons_zero, List.set_cons_succ]; repeat (dsimp +instances only [go_sem, Nat.reduceBEq, Nat.reduceAdd, Nat.reduceSub, Nat.reduceLT, Nat.reduceLeDiff]; try simp only [b1, b2, b3, b4, b5, Nat.reduceAdd, Int.reduceToNat, Int.reduceLE, Int.reduceLT, sliceL, flatRows, allFlat, flatC, Nat.reduceLT, Nat.reduceMul, Nat.reduceLeDiff, implies_true, imp_self]))
  try simp only [n1, n2, forall_const, reduceCtorEq, false_implies]
  exact ⟨⟨by omega, by omega, by omega, by omega⟩, fun b q h => ⟨(UrlGet b).1, ⟨rfl, rfl, rfl, rfl, rfl, rfl, rfl, rfl, rfl, rfl, rfl, rfl, rfl⟩, h.1, by omega, (UrlGet_small b).mono (by omega)⟩⟩
def E85 : Env := { T := Tz.tab, G := Gl, C := [(116, ct116), (86, ct86), (93, ct93), (58, ct58)], live := [(0, [0, 2]), (1, [0, 2, 3]), (2, [0, 2, 3, 9]), (3, [0, 2, 3]), (4, [0, 2, 3, 4, 5]), (5, [0, 2, 3, 4, 22]), (6, [2]), (7, [2, 6]), (8, [2])], pin := [0] }
def ct85 : Ct := .gen (rdPV (d0 100) (fun (u : Url) => [tUrl.enc u]) (rQ 100 (q0 (fun u => Small u 600))))
attribute [go_sem] E85 ct85 Go.Proofs.Tryz.f85
theorem ok85 : CtOk Tryz.prog Gl 85 ct85 := rd_ok (E := E85) (sound_of Tz.tab_ok Tz.mixed (AllOk.cons ok116 (AllOk.cons ok86 (AllOk.cons ok93 (AllOk.cons ok58 AllOk.nil))))) Tryz.func85 (by kernel_rfl) rfl fun s p xs hfit hd hxs => by
  obtain ⟨rfl, hp0, hp1, hp2⟩ := d0_inv hd
  refine vcFn_intro rfl rfl (by kernel_rfl) rfl ?_
  repeat (dsimp +instances only [go_sem, Nat.reduceBEq, Nat.reduceAdd, Nat.reduceSub, Nat.reduceLT, Nat.reduceLeDiff]; try simp only [b1, b2, b3, b4, b5, Nat.reduceAdd, Int.reduceToNat, Int.reduceLE, Int.reduceLT, sliceL, flatRows, allFlat, flatC, Nat.reduceLT, Nat.reduceMul, Nat.reduceLeDiff, implies_true, imp_self])
  repeat (dsimp +instances only [callIm_mk, killR, killA, killC, kill1, List.set_cons_zero, List.set_cons_succ]; repeat (dsimp +instances only [go_sem, Nat.reduceBEq, Nat.reduceAdd, Nat.reduceSub, Nat.reduceLT, Nat.reduceLeDiff]; try simp only [b1, b2, b3, b4, b5, Nat.reduceAdd, Int.reduceToNat, Int.reduceLE, Int.reduceLT, sliceL, flatRows, allFlat, flatC, Nat.reduceLT, Nat.reduceMul, Nat.reduceLeDiff, implies_true, imp_self]))
  try simp only [n1, n2, forall_const, reduceCtorEq, false_implies]
  refine vcC_loop [0, 2, 3] (fun (x : Nat × Int) => x.1 ≤ 4 ∧ p ≤ x.2 ∧ x.2 ≤ p + 24 * x.1) (fun x => [.ptr 0 2 0 0, .ptr 1 13 0 0, .cv (.int .i64 x.1)]) (fun x => [.boxT 0 [.cv (.byt s), .cv (.int .i64 x.2)], .boxT 0 [.cv (.str []), .cv (.str []), .cv (.str []), .cv (.int .i64 0), .cv (.str []), .cv (.int .i64 0), .cv (.int .i64 0), .nil 1, .cv (.str []), .cv (.bool false), .cv (.str []), .cv (.bool false), .cv (.str [])]]) (fun x => 4 - x.1) (0, p) ⟨by simp only; omega, by simp only; omega, by simp only; omega⟩ ⟨rfl, rfl⟩ ?_
  rintro ⟨k, q⟩ ⟨h0, h1, h2⟩
  simp only at h0 h1 h2
  have hn := fun b : Str => (UrlGet_small b).mono (n := 600) (by omega)
  have hz := fun b : Str => (UrlGet_small b).sz
  repeat (dsimp +instances only [go_sem, Nat.reduceBEq, Nat.reduceAdd, Nat.reduceSub, Nat.reduceLT, Nat.reduceLeDiff]; try simp only [b1, b2, b3, b4, b5, Nat.reduceAdd, Int.reduceToNat, Int.reduceLE, Int.reduceLT, sliceL, flatRows, allFlat, flatC, Nat.reduceLT, Nat.reduceMul, Nat.reduceLeDiff, implies_true, imp_self])
  repeat (dsimp +instances only [callIm_mk, killR, killA, killC, kill1, List.set_cons_zero, List.set_cons_succ]; repeat (dsimp +instances only [go_sem, Nat.reduceBEq, Nat.reduceAdd, Nat.reduceSub, Nat.reduceLT, Nat.reduceLeDiff]; try simp only [b1, b2, b3, b4, b5, Nat.reduceAdd, Int.reduceToNat, Int.reduceLE, Int.reduceLT, sliceL, flatRows, allFlat, flatC, Nat.reduceLT, Nat.reduceMul, Nat.reduceLeDiff, implies_true, imp_self]))
  try simp only [n1, n2, forall_const, reduceCtorEq, false_implies]
  have hu : ∀ (b : Str) (q1 : Int), p ≤ q1 → q1 ≤ p + 100 → ∃ b_1 : Url, ((UrlGet b).fst.Scheme = b_1.Scheme ∧ (UrlGet b).fst.User = b_1.User ∧ (UrlGet b).fst.Pass = b_1.Pass ∧ (UrlGet b).fst.Host.Kind = b_1.Host.Kind ∧ (UrlGet b).fst.Host.Name = b_1.Host.Name ∧ (UrlGet b).fst.Host.Addr = b_1.Host.Addr ∧ (UrlGet b).fst.Port = b_1.Port ∧ List.map rStr.enc (UrlGet b).fst.Path = List.map rStr.enc b_1.Path ∧ (UrlGet b).fst.Opaque = b_1.Opaque ∧ (UrlGet b).fst.HasQuery = b_1.HasQuery ∧ (UrlGet b).fst.Query = b_1.Query ∧ (UrlGet b).fst.HasFrag = b_1.HasFrag ∧ (UrlGet b).fst.Frag = b_1.Frag) ∧ p ≤ q1 ∧ q1 ≤ p + 100 ∧ Small b_1 600 := fun b q1 h1 h2 => ⟨(UrlGet b).1, ⟨rfl, rfl, rfl, rfl, rfl, rfl, rfl, rfl, rfl, rfl, rfl, rfl, rfl⟩, h1, h2, hn b⟩
  refine ⟨fun hk => ⟨⟨by omega, by omega, by omega⟩, ?_⟩, fun hk => ⟨⟨by omega, by omega, by omega, by omega⟩, fun b q1 h => hu b q1 (by omega) (by omega)⟩⟩
  rintro b q1 ⟨j1, j2, j3⟩
  refine ⟨fun _ => by have := hz b; omega, fun _ => hu b q1 (by omega) (by omega), fun _ => ⟨by omega, nextL_intro (k + 1, q1) ⟨?_, ?_, ?_⟩ (by simp only; omega) rfl rfl⟩⟩ <;> (simp only; omega)
end Go.Gx
end
section
set_option linter.unusedVariables false
set_option linter.unusedSimpArgs false
set_option maxRecDepth 100000
namespace Go.Gx
open Go.Proofs
theorem url_ex {sc us pa na op qu fr : Str} {k a po : Int} {pt : List (List CV)} {hq hf : Bool} {P : Url → Prop} (l : List Str) (hl : pt = l.map rStr.enc) (h : P ⟨sc, us, pa, ⟨k, na, a⟩, po, l, op, hq, qu, hf, fr⟩) :
    ∃ b : Url, (sc = b.Scheme ∧ us = b.User ∧ pa = b.Pass ∧ k = b.Host.Kind ∧ na = b.Host.Name ∧ a = b.Host.Addr ∧ po = b.Port ∧ pt = List.map rStr.enc b.Path ∧ op = b.Opaque ∧ hq = b.HasQuery ∧ qu = b.Query ∧ hf = b.HasFrag ∧ fr = b.Frag) ∧ P b :=
  ⟨⟨sc, us, pa, ⟨k, na, a⟩, po, l, op, hq, qu, hf, fr⟩, ⟨rfl, rfl, rfl, rfl, rfl, rfl, rfl, hl, rfl, rfl, rfl, rfl, rfl⟩, h⟩
theorem put_ge : ∀ l : List Str, l.length ≤ (PathPut l).length
  | [] => by simp [PathPut]
  | a :: l => by have := put_ge l; simp only [PathPut, List.length_append, List.length_cons]; omega
theorem take_app1 (l : List Str) (x : Str) : List.take (l.length + 1) (l.map rStr.enc ++ [[.str x]]) = (l ++ [x]).map rStr.enc := by
  rw [List.take_of_length_le (by simp), List.map_append]; rfl
def E55 : Env := { T := Tz.tab, G := Gl, C := [(86, ct86), (87, ct87), (77, ct77), (85, ct85), (88, ct88), (59, ct59)], alt := [(8, some (.op 2 (.alt (.op 0 (.alt (.op 1 (.op 3 (.op 4 (.op 5 (.op 6 (.op 7 (.op 8 .done))))))) (.op 3 (.alt (.op 1 (.op 4 (.op 5 (.op 6 (.op 7 (.op 8 .done)))))) (.op 4 (.op 1 (.op 5 (.op 6 (.op 7 (.op 8 .done)))))))))) (.op 3 (.alt (.op 0 (.alt (.op 1 (.op 4 (.op 5 (.op 6 (.op 7 (.op 8 .done)))))) (.op 4 (.op 1 (.op 5 (.op 6 (.op 7 (.op 8 .done)))))))) (.op 4 (.op 0 (.op 1 (.op 5 (.op 6 (.op 7 (.op 8 .done))))))))))))], live := [(0, [0, 2]), (1, [0, 2, 3]), (2, [0, 2, 3, 8]), (3, [0, 2, 3, 8, 9]), (4, [2, 3]), (5, [0, 2, 3, 8, 15]), (6, [2, 3]), (7, [0, 2, 3, 8, 21]), (8, [2, 3]), (9, [0, 2, 3, 8, 31]), (10, [2, 3]), (11, [0, 2, 3, 8, 37]), (12, [2, 3]), (13, [0, 2, 3, 8, 42]), (14, [2, 3]), (15, [0, 2, 3, 8, 48]), (16, [2, 3]), (17, [0, 2, 3, 54]), (18, [2, 3]), (19, [2])], pin := [0] }
def ct55 : Ct := .gen (rdPV (d0 120) (fun (u : Url) => [tUrl.enc u]) (rQ 120 (q0 (fun u => urlSz u ≤ 400000))))
attribute [go_sem] E55 ct55 Go.Proofs.Tryz.f55
set_option maxHeartbeats 4000000 in
theorem ok55 : CtOk Tryz.prog Gl 55 ct55 := rd_ok (E := E55) (sound_of Tz.tab_ok Tz.mixed (AllOk.cons ok86 (AllOk.cons ok87 (AllOk.cons ok77 (AllOk.cons ok85 (AllOk.cons ok88 (AllOk.cons ok59 AllOk.nil))))))) Tryz.func55 (by kernel_rfl) rfl fun s p xs hfit hd hxs => by
  obtain ⟨rfl, hp0, hp1, hp2⟩ := d0_inv hd
  refine vcFn_intro rfl rfl (by kernel_rfl) rfl ?_
  repeat (dsimp +instances only [go_sem, Nat.reduceBEq, Nat.reduceAdd, Nat.reduceSub, Nat.reduceLT, Nat.reduceLeDiff]; try simp only [b1, b2, b3, b4, b5, Nat.reduceAdd, Int.reduceToNat, Int.reduceLE, Int.reduceLT, sliceL, flatRows, allFlat, flatC, Nat.reduceLT, Nat.reduceMul, Nat.reduceLeDiff, implies_true, imp_self])
  try simp only [n1, n2, forall_const, reduceCtorEq, false_implies]
  refine ⟨⟨by omega, by omega, by omega⟩, ?_⟩
  rintro b q0 ⟨g1, g2, g3⟩
  have z1 := g3.scheme; have z2 := g3.user; have z3 := g3.pass; have z4 := g3.name; have z5 := g3.path; have z6 := g3.opq; have z7 := g3.query; have z8 := g3.frag
  have zp := put_ge b.Path
  have hap : ∀ x : Str, (PathPut (b.Path ++ [x])).length = (PathPut b.Path).length + (x.length + 1) := fun x => by
    rw [PathPut_append]
    simp only [PathPut, List.length_append, List.length_cons, List.append_nil]
  (repeat' (first | refine And.intro ?_ ?_ | intro _)) <;> try first | omega | trivial
  all_goals first | (refine url_ex b.Path rfl ⟨by omega, by omega, ?_⟩; unfold urlSz; simp only; omega) | (refine url_ex (b.Path ++ [_]) (take_app1 b.Path _) ⟨by omega, by omega, ?_⟩; unfold urlSz; simp only [hap]; omega) | skip
def E45 : Env := { T := Tz.tab, G := Gl, C := [(77, ct77), (55, ct55), (78, ct78)], live := [(0, [0, 2]), (1, [0, 2, 5]), (2, [2]), (3, [2])], pin := [0] }
def ct45 : Ct := .gen (rdPV (d0 130) (fun (u : Url) => [tUrl.enc u]) (rQ 130 (q0 (fun u => urlSz u ≤ 400000))))
attribute [go_sem] E45 ct45 Go.Proofs.Tryz.f45
theorem ok45 : CtOk Tryz.prog Gl 45 ct45 := rd_ok (E := E45) (sound_of Tz.tab_ok Tz.mixed (AllOk.cons ok77 (AllOk.cons ok55 (AllOk.cons ok78 AllOk.nil)))) Tryz.func45 (by kernel_rfl) rfl fun s p xs hfit hd hxs => by
  obtain ⟨rfl, hp0, hp1, hp2⟩ := d0_inv hd
  refine vcFn_intro rfl rfl (by kernel_rfl) rfl ?_
  repeat (dsimp +instances only [go_sem, Nat.reduceBEq, Nat.reduceAdd, Nat.reduceSub, Nat.reduceLT, Nat.reduceLeDiff]; try simp only [b1, b2, b3, b4, b5, Nat.reduceAdd, Int.reduceToNat, Int.reduceLE, Int.reduceLT, sliceL, flatRows, allFlat, flatC, Nat.reduceLT, Nat.reduceMul, Nat.reduceLeDiff, implies_true, imp_self])
  try simp only [n1, n2, forall_const, reduceCtorEq, false_implies]
  (repeat' (first | refine And.intro ?_ ?_ | intro _)) <;> try first | omega | trivial
  · rename_i h
    exact url_ex _ rfl ⟨by omega, by omega, h.2.2⟩
  · rename_i h
    have := h.2.2.sz
    exact url_ex _ rfl ⟨by omega, by omega, Nat.le_trans (Nat.le_of_eq rfl) (Nat.le_trans this (by omega))⟩
def E15 : Env := { T := Tz.tab, G := Gl, C := [(46, ct46), (45, ct45)], live := [(0, [0, 2]), (1, [2])] }
def ct15 : Ct := inlK E15 Go.Proofs.Tryz.f15 #[ResultVar.cell 2 40] 1
attribute [go_sem] E15 ct15 Go.Proofs.Tryz.f15
theorem ok15 : CtOk Tryz.prog Gl 15 ct15 := inl_ok (E := E15) (sound_of Tz.tab_ok Tz.mixed (AllOk.cons ok46 (AllOk.cons ok45 AllOk.nil))) Tryz.func15 (by kernel_rfl) rfl rfl rfl (fun pin => by kernel_rfl)
end Go.Gx
end
section
set_option linter.unusedVariables false
set_option linter.unusedSimpArgs false
set_option maxRecDepth 100000
namespace Go.Gx
open Go.Proofs
def win1 (u : Url) : Window := ⟨[⟨0, [], [⟨0, u, 1, 1, []⟩], false⟩], 0, 2, 2⟩
theorem comp0 : Lib.compact [(0 : Int)] = [0] := by decide
theorem steps_new (u : Url) : stepsF (win1 u) = [0] := by
  have : allSteps (win1 u).Frames = [0] := rfl
  unfold stepsF; rw [this]
  have : sortI [(0 : Int)] = [0] := by simp [sortI]
  rw [this]; exact comp0
theorem owner_new (u : Url) : ownerF (win1 u) 1 = 0 := by
  simp [ownerF, win1, fI, hasDoc, List.findIdx_cons]
theorem depth_new (u : Url) : depthF (win1 u) 0 = 1 := rfl
theorem hist_new (u : Url) (h : urlOk u = true) : histOk [⟨0, u, 1, 1, []⟩] = true := by
  simp [histOk, histGo, entOk, h]
theorem winOk_new (u : Url) (h : urlOk u = true) : winOk (win1 u) = true := by
  have h1 := hist_new u h
  have h2 := owner_new u
  have h3 := depth_new u
  have h4 := steps_new u
  have e1 : headOk (win1 u) = true := by simp [headOk, win1]
  have e2 : framesGo (win1 u) 0 [] (win1 u).Frames = true := by
    show ((frOk 0 ⟨0, [], [⟨0, u, 1, 1, []⟩], false⟩ && ((entOk2 (win1 u) 0 ⟨0, u, 1, 1, []⟩ && !decide ((1 : Int) ∈ ([] : List Int))) && true)) && true) = true
    have a1 : frOk 0 ⟨0, [], [⟨0, u, 1, 1, []⟩], false⟩ = true := by simp [frOk, h1, lowOk]
    have a2 : entOk2 (win1 u) 0 ⟨0, u, 1, 1, []⟩ = true := by
      unfold entOk2
      rw [show ownerF (win1 u) (⟨0, u, 1, 1, []⟩ : Entry).Doc = 0 from h2]
      simp [win1]
    rw [a1, a2]; simp
  have e3 : (List.range (win1 u).Frames.length).all (treeOk (win1 u)) = true := by
    show ((List.range 1).all (treeOk (win1 u))) = true
    have : treeOk (win1 u) 0 = true := by
      unfold treeOk
      rw [show depthF (win1 u) ((0 : Nat) : Int) = 1 from h3]
      simp
    simp [List.range_succ, this]
  unfold winOk
  rw [e1, e2, e3, h4]
  have e4 : (win1 u).Step = 0 := rfl
  have e5 : step0 (win1 u) = 0 := rfl
  rw [e4, e5]; simp
theorem now_new (u : Url) (h : urlOk u = true) : WindowNow0 (win1 u) = (⟨0, u, 1, 1, []⟩, true) := by
  have e1 : pageF (win1 u) 0 = 1 := rfl
  have e2 : nowF (win1 u) 0 = ⟨0, u, 1, 1, []⟩ := rfl
  unfold WindowNow0
  rw [winOk_new u h, e1, e2, if_pos]
  simp [win1]
theorem small_new (u : Url) (h : urlSz u ≤ 400000) : smallW (win1 u) := by
  intro f hf e he
  simp [win1] at hf
  subst hf
  simp at he
  subst he
  show urlSz u ≤ _
  omega
theorem browser_new (u : Url) (h : urlOk u = true) : BrowserNew u = (⟨win1 u, [], ⟨[]⟩, 0⟩, true) := by
  unfold BrowserNew WindowNew; rw [if_pos h]; rfl
theorem browser_no (u : Url) (h : ¬ urlOk u = true) : (BrowserNew u).2 = false := by
  unfold BrowserNew WindowNew; rw [if_neg h]; rfl
theorem browser_law (b : Url) (hb : urlSz b ≤ 400000) : urlSz b ≤ 16777216 ∧
    urlSz b ≤ 16777216 ∧
      (((BrowserNew b).snd != (BrowserNew b).snd) = true ∨ (!(BrowserNew b).snd) = true →
          ((BrowserNew b).snd == (BrowserNew b).snd) = true) ∧
        ((((BrowserNew b).snd != (BrowserNew b).snd) = false ∨ False) ∧ (BrowserNew b).snd = true →
          smallW (BrowserNew b).fst.Window ∧
            (smallW (BrowserNew b).fst.Window ∧
                (BrowserNew b).fst.Jar = [] ∧ (BrowserNew b).fst.Sure.Hosts = []) ∧
              ((winOk (BrowserNew b).fst.Window = true ∧
                      0 ≤ (BrowserNew b).fst.Now ∧ (BrowserNew b).fst.Now ≤ 1000000) ∧
                    (WindowNow0 (BrowserNew b).fst.Window).snd = true →
                  (WindowNow0 (BrowserNew b).fst.Window).fst.Url = b) ∧
                ((winOk (BrowserNew b).fst.Window = true ∧
                        0 ≤ (BrowserNew b).fst.Now ∧ (BrowserNew b).fst.Now ≤ 1000000) ∧
                      (WindowNow0 (BrowserNew b).fst.Window).snd = true →
                    Fit (BrowserNew b).fst.Jar.length) ∧
                  (((winOk (BrowserNew b).fst.Window = true ∧
                          0 ≤ (BrowserNew b).fst.Now ∧ (BrowserNew b).fst.Now ≤ 1000000) ∧
                        (WindowNow0 (BrowserNew b).fst.Window).snd = true) ∧
                      ((BrowserNew b).fst.Jar.length : Int) = 0) ∧
                    (BrowserNew b).fst.Now = 0) := by
  refine ⟨by omega, by omega, fun _ => by simp, fun h => ?_⟩
  have h := h.2
  by_cases ho : urlOk b = true
  · have h1 := small_new b hb
    have h2 := winOk_new b ho
    have h3 := now_new b ho
    rw [browser_new b ho]
    simp only [h2, h3]
    simp [h1, Fit]
  · rw [browser_no b ho] at h; cases h
def E4 : Env := { T := Tz.tab, G := Gl, C := [(15, ct15), (9, ct9), (7, ct7), (16, ct16), (17, ct17), (18, ct18), (19, ct19)], live := [(0, [0]), (1, [0, 12]), (2, [2]), (3, [3]), (4, [3, 4, 5]), (5, [3, 4, 5, 6, 7]), (6, [3, 4, 5, 6, 7, 37]), (7, [2]), (8, [3, 4, 8, 9]), (9, [2])] }
def ct4 : Ct := .scal (dom1 tBytes (fun code => True)) (fn1 tBytes fun code => [tBool.enc true])
attribute [go_sem] E4 ct4 Go.Proofs.Tryz.f4
set_option maxHeartbeats 8000000 in
theorem ok4 : CtOk Tryz.prog Gl 4 ct4 := okA1 (E := E4) (sound_of Tz.tab_ok Tz.mixed (AllOk.cons ok15 (AllOk.cons ok9 (AllOk.cons ok7 (AllOk.cons ok16 (AllOk.cons ok17 (AllOk.cons ok18 (AllOk.cons ok19 AllOk.nil)))))))) rfl Tryz.func4 (by kernel_rfl) fun code fcode hp => by
  have fcode := fit_bytes fcode
  refine vcFn_intro rfl rfl (by kernel_rfl) rfl ?_
  repeat (dsimp +instances only [go_sem, Nat.reduceBEq, Nat.reduceAdd, Nat.reduceSub, Nat.reduceLT, Nat.reduceLeDiff]; try simp only [b1, b2, b3, b4, b5, Nat.reduceAdd, Int.reduceToNat, Int.reduceLE, Int.reduceLT, sliceL, flatRows, allFlat, flatC, Nat.reduceLT, Nat.reduceMul, Nat.reduceLeDiff, implies_true, imp_self])
  try simp only [n1, n2, forall_const, reduceCtorEq, false_implies]
  refine fun _ => ⟨fun h => ⟨by omega, ⟨by omega, by rw [List.length_take]; omega⟩, fun b q hb => browser_law b hb.2.2⟩, fun h => ⟨⟨by omega, by omega⟩, fun b q hb => browser_law b hb.2.2⟩⟩
end Go.Gx
end
section
set_option linter.unusedSimpArgs false
set_option linter.unusedVariables false
namespace Go.Gx
def ShFs (S : Nat → List CV → Prop) : List Nat → List CV → Prop
  | [], cs => cs = []
  | t :: ts, cs => ∃ a b, cs = a ++ b ∧ S t a ∧ ShFs S ts b
def ShK (T : Tab) (S : Nat → List CV → Prop) (ft : List Nat) (cs : List CV) : TK → Prop
  | .int k => ∃ n, cs = [.int k n]
  | .bool => ∃ b, cs = [.bool b]
  | .str => ∃ s, cs = [.str s]
  | .slice e => ∃ es, cs = [.sl (T.size e) es] ∧ ∀ r ∈ es, S e r
  | .struct _ => ShFs S ft cs
  | .mapIB => False
  | .other => False
def Sh (T : Tab) : Nat → Nat → List CV → Prop
  | 0, _, _ => False
  | d + 1, t, cs => ShK T (Sh T d) (T.ti t).ft cs (T.tk t)
def okK (T : Tab) (O : Nat → Bool) (t : Nat) : TK → Bool
  | .int _ => true
  | .bool => true
  | .str => true
  | .slice e => Nat.blt 0 (T.size e) && O e
  | .struct fs => contig 0 fs (T.size t) && (fs.map (·.2) == (T.ti t).ft.map T.size) && (T.ti t).ft.all O
  | .mapIB => false
  | .other => false
def okT (T : Tab) : Nat → Nat → Bool
  | 0, _ => false
  | d + 1, t => okK T (okT T d) t (T.tk t)
def RepIL (St : Snap) : List CV → List Value → Prop
  | [], [] => True
  | c :: cs, v :: vs => RepI St c v ∧ RepIL St cs vs
  | _, _ => False
theorem RepIL.len {St : Snap} : ∀ {cs : List CV} {vs : List Value}, RepIL St cs vs → cs.length = vs.length
  | [], [], _ => rfl
  | _ :: _, _ :: _, h => by simp [h.2.len]
  | [], _ :: _, h => h.elim
  | _ :: _, [], h => h.elim
theorem RepIL.get {St : Snap} : ∀ {cs : List CV} {vs : List Value}, RepIL St cs vs → ∀ (i : Nat) (c : CV), cs[i]? = some c → ∃ v, vs[i]? = some v ∧ RepI St c v
  | [], [], _, i, c, h => by simp at h
  | c :: _, v :: _, h, 0, c', hc => by simp at hc; subst hc; exact ⟨v, rfl, h.1⟩
  | _ :: cs, _ :: vs, h, i + 1, c', hc => by simp at hc; simpa using h.2.get i c' hc
  | [], _ :: _, h, _, _, _ => h.elim
  | _ :: _, [], h, _, _, _ => h.elim
theorem RepIL.app {St : Snap} : ∀ {a b : List CV} {u v : List Value}, RepIL St a u → RepIL St b v → RepIL St (a ++ b) (u ++ v)
  | [], _, [], _, _, h => h
  | _ :: _, _, _ :: _, _, h, h' => ⟨h.1, h.2.app h'⟩
  | [], _, _ :: _, _, h, _ => h.elim
  | _ :: _, _, [], _, h, _ => h.elim
structure Bulk (H : Type) where
  b : DataW H → Nat
  ba : List (DataW H) → Nat
  str : ∀ l, b (.lit (.string l)) = l.length + 1
  slc : ∀ e s, b (.slice e s) = ba e + ba s + 1
  agg : ∀ p, b (.agg p) = ba p + 1
  nil : ba [] = 0
  cons : ∀ d r, ba (d :: r) = b d + ba r
  pos : ∀ d, 1 ≤ b d
theorem Bulk.len {H : Type} (B : Bulk H) : ∀ l : List (DataW H), l.length ≤ B.ba l
  | [] => by simp
  | d :: r => by have := B.len r; have := B.pos d; rw [B.cons, List.length_cons]; omega
theorem Bulk.mem {H : Type} (B : Bulk H) : ∀ (l : List (DataW H)) (i : Nat) (d : DataW H), l[i]? = some d → B.b d ≤ B.ba l
  | [], i, d, h => by simp at h
  | a :: r, 0, d, h => by simp at h; subst h; rw [B.cons]; omega
  | a :: r, i + 1, d, h => by have := B.mem r i d (by simpa using h); rw [B.cons]; omega
theorem wrap_wf {k : IntKind} {n : Int} (h : (Lit.int k n).wf = true) : InR k n := by
  unfold InR
  cases k <;> simp [Lit.wf, IntKind.wrap, IntKind.min, IntKind.max, IntKind.signed, IntKind.bits] at h ⊢ <;> (try split) <;> omega
section
variable {H : Type} {enc : TypeId × Value → H} {P : Program} {T : Tab} {w : World} {base : Nat} {sp : Nat → Bool} {held : Bool}
theorem fields_ok {St : Snap} {S : Nat → List CV → Prop} {n : Nat} {CS : List Value} (hCS : CS.length = n) : ∀ (fl : List Field) (fss : List (Nat × Nat)) (off : Nat), contig off fss n = true → fl.length = fss.length →
    (∀ (i : Nat) (x : Nat × Nat) (f : Field), fss[i]? = some x → fl[i]? = some f → f.offset = x.1 ∧ ∃ es, S f.type es ∧ RepIL St es ((CS.drop x.1).take x.2)) →
    ∃ es, ShFs S (fl.map (·.type)) es ∧ RepIL St es (CS.drop off)
  | [], [], off, hc, _, _ => by
    simp [contig] at hc
    refine ⟨[], rfl, ?_⟩
    rw [List.drop_eq_nil_of_le (by omega)]; trivial
  | f :: fl, (o, s) :: fss, off, hc, hl, h => by
    simp [contig] at hc
    obtain ⟨rfl, hc⟩ := hc
    obtain ⟨e1, es, h1, h2⟩ := h 0 (o, s) f rfl rfl
    obtain ⟨es', h3, h4⟩ := fields_ok hCS fl fss (o + s) hc (by simpa using hl) fun i x g hx hg => h (i + 1) x g (by simpa using hx) (by simpa using hg)
    refine ⟨es ++ es', ⟨es, es', rfl, h1, h3⟩, ?_⟩
    have e : CS.drop o = (CS.drop o).take s ++ CS.drop (o + s) := by rw [← List.drop_drop, List.take_append_drop]
    rw [e]
    exact h2.app h4
  | [], _ :: _, _, _, hl, _ => by simp at hl
  | _ :: _, [], _, _, hl, _ => by simp at hl
theorem read_ok (hT : TabOk P T) (B : Bulk H) : ∀ (d fuel t : Nat) (cs : List Value) (x : DataW H × List MemPlace), okT T d t = true → DataW.trod enc P w base sp held fuel t cs = some x → B.b x.1 ≤ 68719476736 →
    ∃ es, Sh T d t es ∧ RepIL (heapS w) es cs
  | 0, _, _, _, _, h, _, _ => by simp [okT] at h
  | d + 1, fuel, t, cs, x, hok, h, hb => by
    have hti : T.tk t ≠ .other := fun e => by simp [okT, e, okK] at hok
    obtain ⟨inf, hi, hsz, hby, hb2, hz, hk, hft⟩ := hT.tk hti
    have hk' : TkOk P t (T.tk t) := hk
    simp only [okT] at hok
    simp only [Sh]
    cases e : T.tk t with
    | mapIB => simp [e, okK] at hok
    | other => exact absurd e hti
    | int k =>
      rw [e] at hk'
      obtain ⟨n, rfl, rfl, hw⟩ := DataW.trod_int hk' h
      exact ⟨[.int k n], ⟨n, rfl⟩, .int (wrap_wf hw), trivial⟩
    | bool =>
      rw [e] at hk'
      obtain ⟨b, rfl, rfl⟩ := DataW.trod_bool hk' h
      exact ⟨[.bool b], ⟨b, rfl⟩, .bool, trivial⟩
    | str =>
      rw [e] at hk'
      obtain ⟨s, rfl, rfl, hs⟩ := DataW.trod_string hk' h
      refine ⟨[.str s.data.toList], ⟨_, rfl⟩, ?_, trivial⟩
      have := RepI.str (St := heapS w) (l := s.data.toList) (by simp only [B.str] at hb; unfold Fit; omega)
      simpa using this
    | slice el =>
      rw [e] at hk' hok
      simp only [okK, Bool.and_eq_true] at hok
      have hpos : 0 < T.size el := by simpa using hok.1
      obtain ⟨infe, hie, hsze, _⟩ := hT.ti hpos
      have hcell : P.cellsOf el = T.size el := by simp [Program.cellsOf, hie, hsze]; rfl
      rcases DataW.trod_slice hk' h with ⟨rfl, rfl⟩ | ⟨a, len, cap, elems, rest, n, rfl, rfl, rfl, hba, hlc, hcm, hel, hget, _, _⟩
      · exact ⟨[.sl (T.size el) []], ⟨[], rfl, fun r hr => by cases hr⟩, .nil, trivial⟩
      · rw [hcell] at hget
        have hlen : B.ba (elems.map (·.1)) ≤ 68719476736 := by simp only [B.slc] at hb; omega
        have hlen2 := B.len (elems.map (·.1))
        rw [List.length_map] at hlen2
        have each : ∀ i, i < len → ∃ es vs, Sh T d el es ∧ RepIL (heapS w) es vs ∧ w.cells? base (a.add (i * T.size el)) (T.size el) = some vs := fun i hi => by
          have hg := hget i hi
          rw [List.getElem?_eq_getElem (by omega : i < elems.length)] at hg
          obtain ⟨vs, h1, h2⟩ := Option.bind_eq_some_iff.1 hg
          obtain ⟨es, h3, h4⟩ := read_ok hT B d n el vs _ hok.2 h2 (Nat.le_trans (B.mem (elems.map (·.1)) i _ (by rw [List.getElem?_map, List.getElem?_eq_getElem (by omega : i < elems.length)]; rfl)) hlen)
          exact ⟨es, vs, h3, h4, h1⟩
        have pick : ∃ (f : Nat → List CV) (g : Nat → List Value), ∀ i, i < len → Sh T d el (f i) ∧ RepIL (heapS w) (f i) (g i) ∧ w.cells? base (a.add (i * T.size el)) (T.size el) = some (g i) := by
          refine ⟨fun i => if h : i < len then (each i h).choose else [], fun i => if h : i < len then (each i h).choose_spec.choose else [], fun i hi => ?_⟩
          simp only [dif_pos hi]
          exact (each i hi).choose_spec.choose_spec
        obtain ⟨f, g, hfg⟩ := pick
        have hcells : ∀ i, i < len → ∀ j, j < T.size el → ∃ v, (g i)[j]? = some v ∧ w.cell? ((a.add (i * T.size el)).add j) = some v := fun i hi j hj => by
          have h1 := (hfg i hi).2.2
          unfold World.cells? at h1
          split at h1
          · have h2 := mapM_some_get h1 j j (by simp [hj])
            have h3 := mapM_some_length h1
            rw [List.length_range] at h3
            rw [List.getElem?_eq_getElem (by omega : j < (g i).length)] at h2 ⊢
            exact ⟨_, rfl, h2⟩
          · cases h1
        have hglen : ∀ i, i < len → (f i).length = T.size el := fun i hi => by
          have h1 := (hfg i hi).2.2
          unfold World.cells? at h1
          split at h1
          · have h3 := mapM_some_length h1
            rw [List.length_range] at h3
            rw [(hfg i hi).2.1.len, h3]
          · cases h1
        refine ⟨[.sl (T.size el) ((List.range len).map f)], ⟨_, rfl, fun r hr => ?_⟩, ?_, trivial⟩
        · obtain ⟨i, hi, rfl⟩ := List.mem_map.1 hr
          exact (hfg i (by simpa using hi)).1
        · cases len with
          | zero => exact .nil
          | succ len =>
            obtain ⟨v0, hv0, hc0⟩ := hcells 0 (by omega) 0 hpos
            have hspot : a.spot = none := by
              have := World.cell?_spot hc0
              simpa [Addr.add] using this
            obtain ⟨b, o, spot⟩ := a
            simp only at hspot
            subst hspot
            have hadd : ∀ i j, ((⟨b, o, none⟩ : Addr).add (i * T.size el)).add j = ⟨b, o + i * T.size el + j, none⟩ := fun i j => by
              unfold Addr.add
              split <;> split <;> simp_all
            simp only [hadd] at hcells hc0
            have hblk : ∃ cur Ty fr, w.heap[b]? = some (.cells cur Ty fr) := by
              unfold World.cell? at hc0
              split at hc0
              · rename_i c t fr hh; exact ⟨c, t, fr, hh⟩
              · cases hc0
            obtain ⟨cur, Ty, fr, hblk⟩ := hblk
            have hcur : ∀ k v, w.cell? ⟨b, k, none⟩ = some v → cur[k]? = some v := fun k v hv => by
              unfold World.cell? at hv
              simp only [hblk] at hv
              simpa using hv
            have hrow : ∀ i, i < len + 1 → ((List.range (len + 1)).map f).getD i [] = f i := fun i hi => by
              simp [List.getD_eq_getElem?_getD, hi]
            have hl : ((List.range (len + 1)).map f).length = len + 1 := by simp
            have := RepI.sl (St := heapS w) (sz := T.size el) (es := (List.range (len + 1)).map f) (b := b) (o := o) (c := cap) (cur := cur) (T := Ty) (fr := fr) (fun i j => (g i).getD j undef)
              (by rw [hl]; unfold Fit; omega) (fun i hi => by rw [hl] at hi; rw [hrow i hi]; exact hglen i hi) hblk (by rw [hl]; exact hlc)
              (fun i j hi hj => by
                rw [hl] at hi
                obtain ⟨v, h1, h2⟩ := hcells i hi j hj
                rw [hcur _ _ h2, List.getD_eq_getElem?_getD, h1]; rfl)
              (fun i j hi hj => by
                rw [hl] at hi
                unfold getC
                rw [hrow i hi]
                have hj' : j < (f i).length := by rw [hglen i hi]; exact hj
                obtain ⟨v, h1, h2⟩ := (hfg i hi).2.1.get j _ (List.getElem?_eq_getElem hj')
                rw [List.getD_eq_getElem?_getD, List.getD_eq_getElem?_getD, h1, List.getElem?_eq_getElem hj']
                exact h2)
            rw [hl] at this
            exact this
    | struct fs =>
      rw [e] at hk' hok
      simp only [okK, Bool.and_eq_true] at hok
      obtain ⟨⟨hcon, hsizes⟩, hall⟩ := hok
      obtain ⟨fields, hu, hfl, hfi⟩ := hk'
      obtain ⟨_, _, hty, _⟩ := hft fields hu
      obtain ⟨xs, n, rfl, rfl, hcl, hxl, hxi⟩ := DataW.trod_struct hu h
      have hcell : P.cellsOf t = T.size t := by simp [Program.cellsOf, hi, hsz]; rfl
      have hba : B.ba (xs.map (·.1)) ≤ 68719476736 := by simp only [B.agg] at hb; omega
      have := fields_ok (St := heapS w) (S := Sh T d) (CS := cs) (n := T.size t) (by rw [hcl, hcell]) fields.toList fs 0 hcon (by simpa using hfl) fun i x f hx hf => by
        obtain ⟨f', hf', ho, hs, _⟩ := hfi i x hx
        rw [Array.getElem?_toList] at hf
        rw [hf] at hf'; injection hf' with hf'; subst hf'
        refine ⟨ho, ?_⟩
        have hg := hxi i f hf
        have hci : P.cellsOf f.type = x.2 := by simp [Program.cellsOf, hs]
        have hil : i < xs.length := by rw [hxl]; exact (Array.getElem?_eq_some_iff.1 hf).1
        rw [ho, hci, List.getElem?_eq_getElem hil] at hg
        have hokf : okT T d f.type = true := by
          refine List.all_eq_true.1 hall f.type ?_
          rw [← hty]
          exact List.mem_map.2 ⟨f, Array.mem_toList_iff.2 (Array.mem_of_getElem? hf), rfl⟩
        exact read_ok hT B d n f.type _ _ hokf hg (Nat.le_trans (B.mem (xs.map (·.1)) i _ (by rw [List.getElem?_map, List.getElem?_eq_getElem hil]; rfl)) hba)
      obtain ⟨es, h1, h2⟩ := this
      refine ⟨es, ?_, by simpa using h2⟩
      simp only [ShK]
      rw [hty] at h1
      exact h1
end
end Go.Gx
end
section
set_option linter.unusedVariables false
namespace Go.Gx
open Go.ChangeShapes Go.WideShapes Go.RowKit
def ShAll (T : Tab) (d : Nat) : List Nat → RV → Prop
  | [], [] => True
  | t :: ts, c :: cs => c.1 = isStruct (T.tk t) ∧ Sh T d t c.2 ∧ ShAll T d ts cs
  | _, _ => False
section
variable {H : Type} {enc : TypeId × Value → H} {P : Program} {T : Tab} {w : World} {base : Nat} {sp : Nat → Bool} {held : Bool}
theorem arg_ok (hT : TabOk P T) (B : Bulk H) {d t b0 : Nat} {r : Reach} {v : Value} {x : DataW H} {ps : List MemPlace} (hok : okT T d t = true) (hval : Value.okWide P w r b0 t v) (h : DataW.Trod enc P w base sp held t v x ps) (hb : B.b x ≤ 68719476736) :
    ∃ es, Sh T d t es ∧ RepIA (heapS w) (isStruct (T.tk t), es) v := by
  obtain ⟨fuel, h⟩ := h
  obtain ⟨es, h1, h2⟩ := read_ok hT B d fuel t _ _ hok h hb
  refine ⟨es, h1, ?_⟩
  have hti : T.tk t ≠ .other := fun e => by cases d <;> simp [okT, e, okK] at hok
  obtain ⟨inf, hi, hsz, hby, hb2, hz, hk, hft⟩ := hT.tk hti
  have hk' : TkOk P t (T.tk t) := hk
  have one : ∀ u : Value, v = u → u.cells = #[u] → RepIA (heapS w) (false, es) v := fun u hu hc => by
    subst hu
    rw [hc] at h2
    have hl := h2.len
    match es, hl, h2 with
    | [c], _, h2 => exact ⟨c, rfl, h2.1⟩
  cases e : T.tk t with
  | mapIB => cases d <;> simp [okT, e, okK] at hok
  | other => exact absurd e hti
  | int k => rw [e] at hk'; obtain ⟨n, hv⟩ := okWide_int hk' hval; exact one _ hv rfl
  | bool => rw [e] at hk'; obtain ⟨n, hv⟩ := okWide_bool hk' hval; exact one _ hv rfl
  | str => rw [e] at hk'; obtain ⟨n, hv⟩ := okWide_string hk' hval; exact one _ hv rfl
  | slice el => rw [e] at hk'; obtain ⟨a, l, c, hv⟩ := okWide_slice hk' hval; exact one _ hv rfl
  | struct fs =>
    rw [e] at hk'
    obtain ⟨fields, hu, _⟩ := hk'
    obtain ⟨cs, rfl, _⟩ := okWide_struct hu hval
    exact ⟨cs.toList, by simp, h2.len.symm, h2.get⟩
theorem args_ok (hT : TabOk P T) (B : Bulk H) {d b0 : Nat} {r : Reach} : ∀ (ts : List Nat) (vs : List Value) (ds : List (DataW H)) (ps : List MemPlace), ts.all (okT T d) = true → DataW.TrodAll enc P w base sp held ts vs ds ps →
    (∀ (j : Nat) t v, ts[j]? = some t → vs[j]? = some v → Value.okWide P w r b0 t v) → B.ba ds ≤ 68719476736 → ∃ cs : RV, ShAll T d ts cs ∧ RepIAs (heapS w) cs vs
  | [], [], [], _, _, _, _, _ => ⟨[], trivial, rfl, fun i c hc => by simp at hc⟩
  | t :: ts, v :: vs, x :: ds, ps, hok, h, hval, hb => by
    obtain ⟨p, q, h1, h2, rfl⟩ := h
    rw [B.cons] at hb
    simp only [List.all_cons, Bool.and_eq_true] at hok
    obtain ⟨es, a1, a2⟩ := arg_ok hT B hok.1 (hval 0 t v rfl rfl) h1 (by omega)
    obtain ⟨cs, b1, b2⟩ := args_ok hT B ts vs ds q hok.2 h2 (fun j t v ht hv => hval (j + 1) t v (by simpa using ht) (by simpa using hv)) (by omega)
    refine ⟨(isStruct (T.tk t), es) :: cs, ⟨rfl, a1, b1⟩, by simp [b2.1], fun i c hc => ?_⟩
    cases i with
    | zero => simp at hc; subst hc; exact ⟨v, rfl, a2⟩
    | succ i => simp at hc; simpa using b2.2 i c hc
  | [], _ :: _, _, _, _, h, _, _ => h.elim
  | [], [], _ :: _, _, _, h, _, _ => h.elim
  | _ :: _, [], _, _, _, h, _, _ => h.elim
  | _ :: _, _ :: _, [], _, _, h, _, _ => h.elim
theorem Later.below {w w' : World} (h : Later w w') : Below w.heap.size w w' := ⟨h.os, h.tape, h.output, h.size, h.ext⟩
def rowed (P : Program) (ts : List Nat) : Bool := ts.all fun t => P.readableRec t && decide (t < P.types.size)
theorem later_all (hl : laidOutB P = true) {w' : World} (hb : Below w.heap.size w w') {sp' : Nat → Bool} : ∀ (ts : List Nat) (vs : List Value) (ds : List (DataW H)) (ps : List MemPlace), rowed P ts = true → DataW.TrodAll enc P w 0 (fun _ => true) true ts vs ds ps →
    (∀ p ∈ ps, p.block < w.heap.size) → (∀ p ∈ ps, sp' p.block = true) → DataW.TrodAll enc P w' 0 sp' true ts vs ds ps
  | [], [], [], _, _, h, _, _ => h
  | t :: ts, v :: vs, x :: ds, ps, hr, h, hlt, hs => by
    obtain ⟨p, q, h1, h2, rfl⟩ := h
    simp only [rowed, List.all_cons, Bool.and_eq_true, decide_eq_true_eq] at hr
    refine ⟨p, q, Go.WideElems.Trod_stays hl hr.1.1 hr.1.2 h1 (fun x hx => hb.same (hlt x (by simp [hx]))) (fun x hx => hs x (by simp [hx])), ?_, rfl⟩
    exact later_all hl hb ts vs ds q (by simpa [rowed] using hr.2) h2 (fun x hx => hlt x (by simp [hx])) (fun x hx => hs x (by simp [hx]))
  | [], _ :: _, _, _, _, h, _, _ => h.elim
  | [], [], _ :: _, _, _, h, _, _ => h.elim
  | _ :: _, [], _, _, _, h, _, _ => h.elim
  | _ :: _, _ :: _, [], _, _, h, _, _ => h.elim
theorem later_vars (hl : laidOutB P = true) {w' : World} (hb : Below w.heap.size w w') {sp' : Nat → Bool} : ∀ (ns : List String) (gs : List (DataW H)) (ps : List MemPlace), varsRowed P ns = true → DataW.TrodVars enc P w (fun _ => true) ns gs ps →
    (∀ p ∈ ps, sp' p.block = true) → DataW.TrodVars enc P w' sp' ns gs ps
  | [], [], _, _, h, _ => h
  | [], _ :: _, _, _, h, _ => h.elim
  | _ :: _, [], _, _, h, _ => h.elim
  | n :: ns, d :: ds, ps, hv, h, hs0 => by
    have hlt := h.lt
    obtain ⟨g, t, cs, fuel, p, q, h1, h2, h3, h4, hs, e⟩ := h
    simp only [varsRowed, List.all_cons, Bool.and_eq_true] at hv
    have ht : P.readableRec t = true ∧ t < P.types.size := by
      have := hv.1
      rw [h1] at this
      cases hg : P.globals[g]? with
      | none => rw [hg] at h2; cases h2
      | some gl =>
        rw [hg] at h2
        obtain rfl : gl.type = t := Option.some.inj h2
        simpa [hg] using this
    have hp : ∀ x ∈ p, x.block < w.heap.size := fun x hx => hlt x (by rw [e]; simp [hx])
    have h3' : w'.var? P n = some cs := by
      unfold World.var? at h3 ⊢
      rw [h1] at h3 ⊢
      simp only [Option.bind_some] at h3 ⊢
      have hg : g < w.heap.size := by
        cases hh : w.heap[g]? with
        | none => rw [hh] at h3; cases h3
        | some o => exact (Array.getElem?_eq_some_iff.1 hh).1
      rw [hb.block g hg]; exact h3
    exact ⟨g, t, cs, fuel, p, q, h1, h2, h3', DataW.trod_stays (kids_book hl ht.1) (book_sized ht.1) (fun h => by cases h) ⟨ht.2, book_self t⟩ h4 (fun x hx => hb.same (hp x hx)) (fun x hx => hs0 x (by rw [e]; simp [hx])),
      later_vars hl hb ns ds q (by simpa [varsRowed] using hv.2) hs (fun x hx => hs0 x (by rw [e]; simp [hx])), e⟩
theorem law_ok2 (hT : TabOk P T) (B : Bulk H) {G : Globs} {f : FuncId} {fn : Func} {dom : RV → Prop} {g : RV → RV} (hct : CtOk P G f (.scal dom g)) (hl : laidOutB P = true) {d tb b0 : Nat} {r : Reach}
    (hok : fn.params.toList.all (okT T d) = true) (hread : rowed P fn.params.toList = true) {s : ChangeSpec} (hvars : varsRowed P s.vars = true) (hres : fn.resultTypes = #[tb]) (htb : P.underlying tb = some .bool)
    {args : Array Value} (hdom : ∀ cs, ShAll T d fn.params.toList cs → RepIAs (heapS w) cs args.toList → ∃ cs', RepIAs (heapS w) cs' args.toList ∧ dom cs' ∧ g cs' = [(false, [.bool true])])
    {ds gs : List (DataW H)} {before : List MemPlace} (hG : GOk G (heapS w))
    (hval : ∀ (j : Nat) t v, fn.params[j]? = some t → args[j]? = some v → Value.okWide P w r b0 t v)
    (hW : DataW.Whole enc P fn.params.toList s.vars false w args.toList ds gs before)
    (hs : s.fn H (ds ++ gs) = { results := [.lit (.bool true)], args := ds, vars := gs }) (hbulk : B.ba ds ≤ 68719476736) :
    Calls P f args w fun e w' => ∃ v, e = .returned v ∧ s.post enc P fn false true false false w args v w' := by
  have hW' := hW
  obtain ⟨p, q, hA, hV, rfl, hfz, hnd⟩ := hW
  obtain ⟨cs, h1, h2⟩ := args_ok hT B fn.params.toList args.toList ds p hok hA (fun j t v ht hv => hval j t v (by simpa using ht) (by simpa using hv)) hbulk
  obtain ⟨cs, h2, h3, h4⟩ := hdom cs h1 h2
  have hc := (hct w cs args.toList hG h2 h3).2
  have ea : args.toList.toArray = args := rfl
  refine hc.mono fun e w' he => ?_
  obtain ⟨v, rfl, hlat, fp, hrv, hfp⟩ := he
  rw [h4] at hrv
  obtain ⟨c, hc1, hc2⟩ : RepOA w' (false, [.bool true]) v fp := hrv
  have hv : v = .bool true := by
    injection hc1 with hc1 _
    subst hc1
    cases hc2; rfl
  subst hv
  have hb := hlat.below
  have hlt := hW'.lt
  refine ⟨_, rfl, ds, gs, p ++ q, [], p, q, hW', ?_, ?_, ?_, hb.frame _, fun h => by cases h⟩
  · rw [hs, hres]
    exact ⟨[], [], shut_bool htb _, rfl, rfl⟩
  · rw [hs]
    exact later_all hl hb _ _ _ _ hread hA (fun x hx => hlt x (by simp [hx])) (fun x hx => by simpa using hlt x (by simp [hx]))
  · rw [hs]
    exact later_vars hl hb _ _ _ hvars hV (fun x hx => by simpa using hlt x (by simp [hx]))
theorem law_ok (hT : TabOk P T) (B : Bulk H) {G : Globs} {f : FuncId} {fn : Func} {dom : RV → Prop} {g : RV → RV} (hct : CtOk P G f (.scal dom g)) (hl : laidOutB P = true) {d tb b0 : Nat} {r : Reach}
    (hok : fn.params.toList.all (okT T d) = true) (hread : rowed P fn.params.toList = true) {s : ChangeSpec} (hvars : varsRowed P s.vars = true) (hres : fn.resultTypes = #[tb]) (htb : P.underlying tb = some .bool)
    (hdom : ∀ cs, ShAll T d fn.params.toList cs → dom cs ∧ g cs = [(false, [.bool true])])
    {args : Array Value} {ds gs : List (DataW H)} {before : List MemPlace} (hG : GOk G (heapS w))
    (hval : ∀ (j : Nat) t v, fn.params[j]? = some t → args[j]? = some v → Value.okWide P w r b0 t v)
    (hW : DataW.Whole enc P fn.params.toList s.vars false w args.toList ds gs before)
    (hs : s.fn H (ds ++ gs) = { results := [.lit (.bool true)], args := ds, vars := gs }) (hbulk : B.ba ds ≤ 68719476736) :
    Calls P f args w fun e w' => ∃ v, e = .returned v ∧ s.post enc P fn false true false false w args v w' := by
  exact law_ok2 hT B hct hl hok hread hvars hres htb (fun cs h1 h2 => ⟨cs, h2, hdom cs h1⟩) hG hval hW hs hbulk
theorem bytes_rows {St : Snap} {rows : List (List CV)} {v : Value} (hr : ∀ r ∈ rows, ∃ n : Int, r = [.int .u8 n]) (h : RepI St (.sl 1 rows) v) : ∃ l : List UInt8, RepI St (.byt l) v := by
  have key : (∀ r ∈ rows, ∃ c : UInt8, r = [CV.int .u8 c.toNat]) → ∃ l : List UInt8, rows = bcv l := by
    clear h hr
    induction rows with
    | nil => exact fun _ => ⟨[], rfl⟩
    | cons r rows ih =>
      intro h
      obtain ⟨c, rfl⟩ := h r (.head _)
      obtain ⟨l, rfl⟩ := ih fun r hr => h r (.tail _ hr)
      exact ⟨c :: l, rfl⟩
  have hb : ∀ r ∈ rows, ∃ c : UInt8, r = [CV.int .u8 c.toNat] := by
    intro r hr'
    obtain ⟨n, rfl⟩ := hr r hr'
    obtain ⟨i, hi, hie⟩ := List.mem_iff_getElem.1 hr'
    cases h with
    | nil => simp at hi
    | sl vals h1 h2 h3 h4 h5 h6 =>
      have h7 := h6 i 0 hi (by omega)
      have e : getC rows i 0 = .int .u8 n := by
        unfold getC
        rw [show rows.getD i [] = rows[i] from by simp [hi], hie]; rfl
      rw [e] at h7
      have h8 : InR .u8 n := by
        generalize vals i 0 = z at h7
        cases h7 with | int h => exact h
      have h9 : 0 ≤ n ∧ n < 256 := by
        unfold InR IntKind.wrap at h8
        simp [IntKind.bits, IntKind.signed] at h8
        omega
      refine ⟨u8 n, ?_⟩
      have : ((u8 n).toNat : Int) = n := by simp [u8]; omega
      rw [this]
  obtain ⟨l, rfl⟩ := key hb
  exact ⟨l, .byt h⟩
theorem shAll_bytes {St : Snap} {T : Tab} {d t e : Nat} (ht : T.tk t = .slice e) (he : T.tk e = .int .u8) (hs : T.size e = 1) {cs : RV} {vs : List Value} (h : ShAll T d [t] cs) (hr : RepIAs St cs vs) : ∃ l : List UInt8, RepIAs St [(false, [.byt l])] vs := by
  match cs, h with
  | [(b, es)], h =>
    obtain ⟨h1, h2, _⟩ := h
    simp only [ht] at h1 h2
    have hb : b = false := by rw [h1]; rfl
    subst hb
    obtain ⟨hl, hv⟩ := hr
    obtain ⟨v, hv1, hv2⟩ := hv 0 _ rfl
    obtain ⟨c, hc, hrep⟩ := hv2
    have hc : es = [c] := hc
    subst hc
    cases d with
    | zero => exact h2.elim
    | succ d =>
      simp only [Sh, ht, ShK, hs] at h2
      obtain ⟨rows, e1, h3⟩ := h2
      injection e1 with e1 _
      subst e1
      obtain ⟨l, hl2⟩ := bytes_rows (fun r hr => by
        have h4 := h3 r hr
        cases d with
        | zero => exact h4.elim
        | succ d => simpa only [Sh, he, ShK] using h4) hrep
      refine ⟨l, by simpa using hl, fun i c hc => ?_⟩
      cases i with
      | zero => simp at hc; subst hc; exact ⟨v, hv1, _, rfl, hl2⟩
      | succ i => simp at hc
  | [], h => exact h.elim
  | _ :: _ :: _, h => exact h.2.2.elim
end
section
variable {T : Tab} {d t : Nat} {cs : List CV}
theorem shI (h : Sh T d t cs) (ht : T.tk t = .int .i64) : ∃ n : Int, cs = [.int .i64 n] := by
  cases d with
  | zero => exact h.elim
  | succ d => simp only [Sh, ht] at h; exact h
theorem shB (h : Sh T d t cs) (ht : T.tk t = .bool) : ∃ b : Bool, cs = [.bool b] := by
  cases d with
  | zero => exact h.elim
  | succ d => simp only [Sh, ht] at h; exact h
theorem shS (h : Sh T d t cs) (ht : T.tk t = .str) : ∃ s : Str, cs = [.str s] := by
  cases d with
  | zero => exact h.elim
  | succ d => simp only [Sh, ht] at h; exact h
theorem shT (h : Sh T d t cs) {fs : List (Nat × Nat)} {ft : List Nat} (ht : T.tk t = .struct fs) (hf : (T.ti t).ft = ft) : ∃ e, ShFs (Sh T e) ft cs := by
  cases d with
  | zero => exact h.elim
  | succ d => simp only [Sh, ht, hf] at h; exact ⟨d, h⟩
theorem ex_rows {α : Type} (R : Rw α) : ∀ (es : List (List CV)), (∀ r ∈ es, ∃ x, r = R.enc x) → ∃ l : List α, es = l.map R.enc
  | [], _ => ⟨[], rfl⟩
  | r :: es, h => by
    obtain ⟨x, rfl⟩ := h r (.head _)
    obtain ⟨l, rfl⟩ := ex_rows R es fun r hr => h r (.tail _ hr)
    exact ⟨x :: l, rfl⟩
theorem shL (h : Sh T d t cs) {α : Type} (R : Rw α) {e : Nat} (ht : T.tk t = .slice e) (hs : T.size e = R.sz) (he : ∀ d r, Sh T d e r → ∃ x, r = R.enc x) : ∃ l : List α, cs = [.sl R.sz (l.map R.enc)] := by
  cases d with
  | zero => exact h.elim
  | succ d =>
    simp only [Sh, ht] at h
    obtain ⟨es, rfl, hr⟩ := h
    obtain ⟨l, rfl⟩ := ex_rows R es fun r hr' => he _ _ (hr r hr')
    exact ⟨l, by rw [hs]⟩
theorem shAll_cons {ts : List Nat} {cs : RV} (h : ShAll T d (t :: ts) cs) : ∃ es cs', cs = (isStruct (T.tk t), es) :: cs' ∧ Sh T d t es ∧ ShAll T d ts cs' := by
  cases cs with
  | nil => exact h.elim
  | cons c cs => obtain ⟨b, es⟩ := c; obtain ⟨h1, h2, h3⟩ := h; simp only at h1 h2; subst h1; exact ⟨es, cs, rfl, h2, h3⟩
theorem shAll_nil {cs : RV} (h : ShAll T d [] cs) : cs = [] := by
  cases cs with
  | nil => rfl
  | cons c cs => exact h.elim
end
end Go.Gx
end

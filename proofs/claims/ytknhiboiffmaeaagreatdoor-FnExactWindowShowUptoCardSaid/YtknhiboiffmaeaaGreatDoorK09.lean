/- Part 9 of the proof of the card of laws.Rows.FnExactWindowShow: lemmas. No condition. -/
import Derived.Test.YtknhiboiffmaeaaGreatDoorK08
import Derived.KernelRfl
import Derived.Test.YtknhiboiffmaeaaGreatDoorK01
import Derived.Test.YtknhiboiffmaeaaGreatDoorK02
import Derived.Test.YtknhiboiffmaeaaGreatDoorK03
import Derived.Test.YtknhiboiffmaeaaGreatDoorK04
import Derived.Test.YtknhiboiffmaeaaGreatDoorK05
import Derived.Test.YtknhiboiffmaeaaGreatDoorK06
import Derived.Test.YtknhiboiffmaeaaGreatDoorK07
set_option linter.unusedVariables false
set_option linter.unusedSimpArgs false
set_option maxRecDepth 100000
section
namespace Go.Gx
open Go.Proofs
def allSteps : List Frame → List Int
  | [] => []
  | f :: r => f.Hist.map (·.Step) ++ allSteps r
theorem allSteps_app : ∀ a b : List Frame, allSteps (a ++ b) = allSteps a ++ allSteps b
  | [], b => rfl
  | f :: a, b => by simp [allSteps, allSteps_app a b]
def cntE : List Frame → Nat
  | [] => 0
  | f :: r => f.Hist.length + cntE r
theorem allSteps_len : ∀ l : List Frame, (allSteps l).length = cntE l
  | [] => rfl
  | f :: r => by simp [allSteps, cntE, allSteps_len r]
theorem cntE_app : ∀ a b : List Frame, cntE (a ++ b) = cntE a + cntE b
  | [], b => by simp [cntE]
  | f :: a, b => by simp [cntE, cntE_app a b]; omega
theorem cntE_take (l : List Frame) (i : Nat) (h : i < l.length) : cntE (l.take i) + l[i].Hist.length ≤ cntE l := by
  have : l = l.take i ++ (l[i] :: l.drop (i + 1)) := by rw [← List.drop_eq_getElem_cons h, List.take_append_drop]
  have e := congrArg cntE this
  rw [cntE_app] at e
  simp only [cntE] at e
  omega
def stepsF (w : Window) : List Int := Lib.compact (sortI (allSteps w.Frames))
def E36 : Env := { T := Tz.tab, G := Gl, C := [(83, ct83), (85, ct85), (84, ct84)], live := [(0, [1]), (1, [1, 3]), (2, [3, 9, 10, 11]), (3, [3, 9, 10, 11, 12]), (4, [3, 5, 9, 10, 11]), (5, [3, 9, 10, 11, 16, 17, 18]), (6, [3, 9, 10, 11, 16, 17, 18, 19]), (7, [3, 7, 9, 10, 11, 16, 17, 18]), (8, [3, 9, 10, 11, 16, 17, 18]), (9, [3, 9, 10, 11, 16, 17, 18]), (10, [3, 9, 10, 11]), (11, [3]), (12, [2])] }
def ct36 : Ct := .pure (dom1 tWindow (fun w => cntE w.Frames ≤ 1048576)) (fn1 tWindow fun w => [tInts.enc (stepsF w)])
attribute [go_sem] E36 ct36 Go.Proofs.Tryz.f36
set_option maxHeartbeats 2000000 in
theorem ok36 : CtOk Tryz.prog Gl 36 ct36 := okA1 (E := E36) (sound_of Tz.tab_ok Tz.mixed (AllOk.cons ok83 (AllOk.cons ok85 (AllOk.cons ok84 AllOk.nil)))) rfl Tryz.func36 (by kernel_rfl) fun w fw hp => by
  have gw := fw
  have fw := fit_window fw
  refine vcFn_intro rfl rfl (by kernel_rfl) rfl ?_
  have fH : ∀ f ∈ w.Frames, Fit f.Hist.length := fun f hf => (FrameFit_el (WindowFit.Frames (fit_window gw)).2 hf).Hist.1
  have fF := (WindowFit.Frames (fit_window gw)).1
  repeat (dsimp +instances only [go_sem, Nat.reduceBEq, Nat.reduceAdd, Nat.reduceSub, Nat.reduceLT, Nat.reduceLeDiff]; try simp only [bb, Nat.reduceAdd, Int.reduceToNat, Int.reduceLE, Int.reduceLT, Nat.reduceLT, Nat.reduceMul, Nat.reduceLeDiff])
  refine vcC_loopN [3, 9, 10, 11] (fun (i : Nat) => i ≤ w.Frames.length) (fun i => [.pth 0 1 0 (allSteps (w.Frames.take i)).length, .cv (.sl 4 (w.Frames.map rFrame.enc)), .cv (.int .i64 w.Frames.length), .cv (.int .i64 i)]) (fun i => [.row 1 ((allSteps (w.Frames.take i)).map rInt.enc) []]) (fun i => w.Frames.length - i) 0 [(3, false)] (by simp) ⟨rfl, rfl⟩ ?_
  intro i hi
  rcases Nat.lt_or_ge i w.Frames.length with hlt | hge
  · have hg := getD_at rFrame hlt
    have hfit := fH _ (List.getElem_mem hlt)
    have hcn := cntE_take w.Frames i hlt
    have htk := take_snoc hlt
    generalize hf : w.Frames[i] = f at *
    generalize hS : allSteps (w.Frames.take i) = S at *
    have hSl : S.length = cntE (w.Frames.take i) := by rw [← hS, allSteps_len]
    try dsimp +instances only [go_sem, Nat.reduceBEq, Nat.reduceAdd, Nat.reduceSub, Nat.reduceLT, Nat.reduceLeDiff]
    repeat (simp only [hg, rFrame_enc, Int.toNat_natCast, bb, Nat.reduceAdd, Int.reduceToNat, Int.reduceLE, Int.reduceLT, Nat.reduceLT, Nat.reduceMul, Nat.reduceLeDiff]; try dsimp +instances only [go_sem, Nat.reduceBEq, Nat.reduceAdd, Nat.reduceSub, Nat.reduceLT, Nat.reduceLeDiff])
    try simp only [nn, reduceCtorEq, hlt, decide_true]
    refine vcC_loop [3, 9, 10, 11, 16, 17, 18] (fun (j : Nat) => j ≤ f.Hist.length) (fun j => [.pth 0 1 0 (S ++ (f.Hist.take j).map (·.Step)).length, .cv (.sl 4 (w.Frames.map rFrame.enc)), .cv (.int .i64 w.Frames.length), .cv (.int .i64 i), .cv (.sl 17 (f.Hist.map rEntry.enc)), .cv (.int .i64 f.Hist.length), .cv (.int .i64 j)]) (fun j => [.row 1 ((S ++ (f.Hist.take j).map (·.Step)).map rInt.enc) []]) (fun j => f.Hist.length - j) 0 (by simp) ⟨by simp; rfl, by simp; rfl⟩ ?_
    intro j hj
    rcases Nat.lt_or_ge j f.Hist.length with hjlt | hjge
    · have hg2 := getD_at rEntry hjlt
      try dsimp +instances only [go_sem, Nat.reduceBEq, Nat.reduceAdd, Nat.reduceSub, Nat.reduceLT, Nat.reduceLeDiff]
      repeat (simp only [hg2, rEntry_enc, Int.toNat_natCast, bb, Nat.reduceAdd, Int.reduceToNat, Int.reduceLE, Int.reduceLT, Nat.reduceLT, Nat.reduceMul, Nat.reduceLeDiff]; try dsimp +instances only [go_sem, Nat.reduceBEq, Nat.reduceAdd, Nat.reduceSub, Nat.reduceLT, Nat.reduceLeDiff])
      try simp only [nn, reduceCtorEq, hjlt, decide_true]
      have htl : (f.Hist.take j).length = j := by simp; omega
      rw [htl]
      have htj := take_snoc hjlt
      refine ⟨by omega, by omega, nextL_intro (j + 1) (by omega) (by omega) ?_ ?_⟩
      · simp only [htj, List.length_append, List.length_map, htl, List.length_cons, List.length_nil]; rfl
      · have hln : ((S ++ (f.Hist.take j).map (·.Step)).map rInt.enc).length = S.length + j := by simp; omega
        rw [← hln, List.take_length, htj]
        simp only [List.map_append, List.map_cons, List.map_nil, List.append_assoc]
        rfl
    · have : j = f.Hist.length := by omega
      subst this
      repeat (dsimp +instances only [go_sem, Nat.reduceBEq, Nat.reduceAdd, Nat.reduceSub, Nat.reduceLT, Nat.reduceLeDiff]; try simp only [bb, Nat.reduceAdd, Int.reduceToNat, Int.reduceLE, Int.reduceLT, Nat.reduceLT, Nat.reduceMul, Nat.reduceLeDiff])
      try simp only [nn, reduceCtorEq, Nat.lt_irrefl]
      have hS1 : allSteps (w.Frames.take (i + 1)) = S ++ f.Hist.map (·.Step) := by rw [htk, allSteps_app, hS]; simp [allSteps]
      refine fun _ => ⟨by omega, nextL_intro (i + 1) (by omega) (by omega) ?_ ?_⟩
      · simp only [hS1, List.length_append, List.length_map]; rfl
      · simp only [hS1]
  · have : i = w.Frames.length := by omega
    subst this
    repeat (dsimp +instances only [go_sem, Nat.reduceBEq, Nat.reduceAdd, Nat.reduceSub, Nat.reduceLT, Nat.reduceLeDiff]; try simp only [bb, Nat.reduceAdd, Int.reduceToNat, Int.reduceLE, Int.reduceLT, Nat.reduceLT, Nat.reduceMul, Nat.reduceLeDiff])
    try simp only [nn, reduceCtorEq, Nat.lt_irrefl]
    have hl := allSteps_len w.Frames
    have hl1 : (sortI (allSteps w.Frames)).length = (allSteps w.Frames).length := by simp [sortI]
    have hl2 := compact_len (sortI (allSteps w.Frames))
    exact fun _ => ⟨hl1.symm, by omega, by omega, rfl⟩
end Go.Gx
end
section
namespace Go.Gx
open Go.Proofs
def allKeys : List Frame → List Int
  | [] => []
  | f :: r => f.Hist.map (·.Key) ++ allKeys r
theorem allKeys_app : ∀ a b : List Frame, allKeys (a ++ b) = allKeys a ++ allKeys b
  | [], b => rfl
  | f :: a, b => by simp [allKeys, allKeys_app a b]
def entOk2 (w : Window) (i : Int) (e : Entry) : Bool := decide (1 ≤ e.Doc ∧ e.Doc ≤ w.NextDoc - 1) && decide (1 ≤ e.Key ∧ e.Key ≤ w.NextKey - 1) && decide (ownerF w e.Doc = i)
def entsGo (w : Window) (i : Int) : List Int → List Entry → Bool
  | _, [] => true
  | ks, e :: r => (entOk2 w i e && !decide (e.Key ∈ ks)) && entsGo w i (ks ++ [e.Key]) r
def lowOk (s : Str) : Bool := decide (s.length ≤ 8 ∧ ∀ c ∈ s, 97 ≤ c.toNat ∧ c.toNat ≤ 122)
def frOk (i : Nat) (f : Frame) : Bool := histOk f.Hist && decide (f.Hist ≠ []) && lowOk f.Name && decide (i = 0 ↔ f.Within = 0)
def framesGo (w : Window) : Nat → List Int → List Frame → Bool
  | _, _, [] => true
  | i, ks, f :: r => (frOk i f && entsGo w i ks f.Hist) && framesGo w (i + 1) (ks ++ f.Hist.map (·.Key)) r
def treeOk (w : Window) (i : Nat) : Bool := decide (0 < i → 0 ≤ ownerF w (w.Frames.getD i default).Within) && decide (depthF w i ≤ 3)
def headOk (w : Window) : Bool := decide (1 ≤ w.Frames.length ∧ w.Frames.length ≤ 8) && decide (0 ≤ w.Step ∧ w.Step ≤ 60) && decide (2 ≤ w.NextDoc ∧ w.NextDoc ≤ 9999) && decide (2 ≤ w.NextKey ∧ w.NextKey ≤ 9999)
def step0 (w : Window) : Int := ((w.Frames.getD 0 default).Hist.getD 0 default).Step
def winOk (w : Window) : Bool := headOk w && framesGo w 0 [] w.Frames && (List.range w.Frames.length).all (treeOk w) && decide (w.Step ∈ stepsF w) && decide (step0 w = 0)
def smallW (w : Window) : Prop := ∀ f ∈ w.Frames, smallH f.Hist
theorem mapB_mem (k : Int) : ∀ ks : List Int, assocB (ks.map (·, true)) k = decide (k ∈ ks)
  | [] => by simp [assocB]
  | a :: r => by
    rw [List.map_cons, assocB, mapB_mem k r]
    by_cases h : a = k
    · subst h; simp
    · have : (a == k) = false := by simpa using h
      rw [this, cond_false]; simp; intro h2; exact absurd h2.symm h
theorem mapB_new (k : Int) : ∀ ks : List Int, k ∉ ks → updB (ks.map (·, true)) k true = (ks ++ [k]).map (·, true)
  | [], _ => rfl
  | a :: r, h => by
    have h1 : (a == k) = false := by simpa using fun h2 => h (by simp [h2])
    rw [List.map_cons, updB, h1, cond_false, mapB_new k r (fun h2 => h (List.mem_cons_of_mem _ h2))]
    rfl
theorem histOk_len {l : List Entry} (h : histOk l = true) : l.length ≤ 20 := by
  unfold histOk at h
  rw [Bool.and_eq_true] at h
  simpa using h.2
theorem cntE_le : ∀ l : List Frame, (∀ f ∈ l, f.Hist.length ≤ 20) → cntE l ≤ 20 * l.length
  | [], _ => by simp [cntE]
  | f :: r, h => by
    have h1 := h f (by simp)
    have h2 := cntE_le r fun g hg => h g (by simp [hg])
    simp only [cntE, List.length_cons]; omega
theorem frOk_no {i : Nat} {f : Frame} (h : (((!histOk f.Hist) = true ∨ (f.Hist.length : Int) = 0) ∨ (!decide (f.Name.length ≤ 8 ∧ ∀ (c : UInt8), c ∈ f.Name → 97 ≤ c.toNat ∧ c.toNat ≤ 122)) = true) ∨ (decide ((i : Int) = 0) != decide (f.Within = 0)) = true) : frOk i f = false := by
  unfold frOk
  change (histOk f.Hist && _ && decide _ && _) = _
  rcases h with ((h | h) | h) | h
  · have : histOk f.Hist = false := by simpa using h
    rw [this]; rfl
  · have : f.Hist = [] := List.eq_nil_of_length_eq_zero (by omega)
    first | (rw [this]; simp) | (change (_ && _ && lowOk f.Name && _) = _; rw [this]; simp)
  · have : lowOk f.Name = false := by rw [← Bool.not_eq_true']; exact h
    first | (rw [this]; simp) | (change (_ && _ && lowOk f.Name && _) = _; rw [this]; simp)
  · grind
theorem frOk_yes {i : Nat} {f : Frame} (h : ((histOk f.Hist = true ∧ ¬(f.Hist.length : Int) = 0) ∧ f.Name.length ≤ 8 ∧ ∀ (c : UInt8), c ∈ f.Name → 97 ≤ c.toNat ∧ c.toNat ≤ 122) ∧ (decide ((i : Int) = 0) != decide (f.Within = 0)) = false) : frOk i f = true := by
  obtain ⟨⟨⟨h1, h2⟩, h3⟩, h4⟩ := h
  have h5 : lowOk f.Name = true := by unfold lowOk; exact decide_eq_true h3
  have h6 : f.Hist ≠ [] := by intro h; rw [h] at h2; simp at h2
  unfold frOk
  rw [h1, h5, decide_eq_true h6]
  grind
def E29 : Env := { T := Tz.tab, G := Gl, C := [(49, ct49), (71, ct71), (72, ct72), (73, ct73), (74, ct74), (36, ct36), (75, ct75)], ord := [(23, [0, 2, 3, 1, 4, 5, 6, 7, 8, 9, 10, 11, 12, 13, 14, 15, 16])], live := [(0, [1]), (1, [1, 32]), (2, [2]), (3, [1, 3]), (4, [1, 3, 35, 36, 37]), (5, [1, 3, 35, 36, 37, 38]), (6, [1, 3, 4, 5, 35, 36, 37]), (7, [1, 3, 4, 5, 35, 36, 37, 65]), (8, [2]), (9, [1, 3, 4, 35, 36, 37, 67, 68, 69]), (10, [1, 3, 4, 35, 36, 37, 67, 68, 69, 70]), (11, [1, 3, 4, 7, 35, 36, 37, 67, 68, 69]), (12, [1, 3, 4, 7, 35, 36, 37, 67, 68, 69, 102]), (13, [2]), (14, [1, 3, 4, 35, 36, 37, 67, 68, 69]), (15, [1, 3, 4, 35, 36, 37, 67, 68, 69]), (16, [1, 3, 35, 36, 37]), (17, [1, 109, 110, 111]), (18, [1, 109, 110, 111, 112]), (19, [1, 8, 9, 109, 110, 111]), (20, [1, 109, 110, 111, 130]), (21, [2]), (22, [1, 109, 110, 111]), (23, [2])] }
def ct29 : Ct := .scal (dom1 tWindow (fun w => smallW w)) (fn1 tWindow fun w => [tBool.enc (winOk w)])
attribute [go_sem] E29 ct29 Go.Proofs.Tryz.f29
set_option maxHeartbeats 8000000 in
theorem ok29 : CtOk Tryz.prog Gl 29 ct29 := okA1 (E := E29) (sound_of Tz.tab_ok Tz.mixed (AllOk.cons ok49 (AllOk.cons ok71 (AllOk.cons ok72 (AllOk.cons ok73 (AllOk.cons ok74 (AllOk.cons ok36 (AllOk.cons ok75 AllOk.nil)))))))) rfl Tryz.func29 (by kernel_rfl) fun w fw hp => by
  have gw := fw
  have fw := fit_window fw
  refine vcFn_intro rfl rfl (by kernel_rfl) rfl ?_
  have fH : ∀ f ∈ w.Frames, Fit f.Hist.length := fun f hf => (FrameFit_el (WindowFit.Frames (fit_window gw)).2 hf).Hist.1
  have fF := (WindowFit.Frames (fit_window gw)).1
  repeat (dsimp +instances only [go_sem, Nat.reduceBEq, Nat.reduceAdd, Nat.reduceSub, Nat.reduceLT, Nat.reduceLeDiff]; try simp only [bb, Nat.reduceAdd, Int.reduceToNat, Int.reduceLE, Int.reduceLT, Nat.reduceLT, Nat.reduceMul, Nat.reduceLeDiff])
  try simp only [nn, reduceCtorEq]
  have hhd : winOk w = (headOk w && framesGo w 0 [] w.Frames && (List.range w.Frames.length).all (treeOk w) && decide (w.Step ∈ stepsF w) && decide (step0 w = 0)) := rfl
  refine ⟨fun h => ?_, fun ho => ?_⟩
  · have : headOk w = false := by unfold headOk; grind
    rw [hhd, this]; rfl
  have hh : headOk w = true := by unfold headOk; grind
  rw [hh, Bool.true_and] at hhd
  refine vcC_loop [1, 3, 35, 36, 37] (fun (i : Nat) => i ≤ w.Frames.length ∧ framesGo w i (allKeys (w.Frames.take i)) (w.Frames.drop i) = framesGo w 0 [] w.Frames ∧ ∀ f ∈ w.Frames.take i, f.Hist.length ≤ 20 ∧ f.Hist ≠ []) (fun i => [.ptr 0 4 0 0, .mp 1, .cv (.sl 4 (w.Frames.map rFrame.enc)), .cv (.int .i64 w.Frames.length), .cv (.int .i64 i)]) (fun i => [.boxT 0 [.cv (.sl 4 (w.Frames.map rFrame.enc)), .cv (.int .i64 w.Step), .cv (.int .i64 w.NextDoc), .cv (.int .i64 w.NextKey)], .mapI ((allKeys (w.Frames.take i)).map (·, true))]) (fun i => w.Frames.length - i) 0 (by simp [allKeys]) ⟨rfl, rfl⟩ ?_
  rintro i ⟨hi, he, hs⟩
  rcases Nat.lt_or_ge i w.Frames.length with hlt | hge
  · have hg := getD_at rFrame hlt
    have hmem := List.getElem_mem hlt
    have hfit := fH _ hmem
    have hsm := hp _ hmem
    have htk := take_snoc hlt
    rw [List.drop_eq_getElem_cons hlt, framesGo] at he
    generalize hf : w.Frames[i] = f at *
    try dsimp +instances only [go_sem, Nat.reduceBEq, Nat.reduceAdd, Nat.reduceSub, Nat.reduceLT, Nat.reduceLeDiff]
    repeat (simp only [hg, rFrame_enc, Int.toNat_natCast, bb, Nat.reduceAdd, Int.reduceToNat, Int.reduceLE, Int.reduceLT, Nat.reduceLT, Nat.reduceMul, Nat.reduceLeDiff]; try dsimp +instances only [go_sem, Nat.reduceBEq, Nat.reduceAdd, Nat.reduceSub, Nat.reduceLT, Nat.reduceLeDiff])
    try simp only [nn, reduceCtorEq, hlt, decide_true]
    generalize hK : allKeys (w.Frames.take i) = ks at *
    refine ⟨hsm, fun h => ?_, fun hfo => ?_⟩
    · rw [hhd, ← he, frOk_no h]; simp only [Bool.false_and]
    have hfy := frOk_yes hfo
    have h20 := histOk_len hfo.1.1.1
    rw [hfy, Bool.true_and] at he
    refine vcC_loop [1, 3, 4, 35, 36, 37, 67, 68, 69] (fun (j : Nat) => j ≤ f.Hist.length ∧ entsGo w i (ks ++ (f.Hist.take j).map (·.Key)) (f.Hist.drop j) = entsGo w i ks f.Hist) (fun j => [.ptr 0 4 0 0, .mp 1, .cv (.int .i64 i), .cv (.sl 4 (w.Frames.map rFrame.enc)), .cv (.int .i64 w.Frames.length), .cv (.int .i64 i), .cv (.sl 17 (f.Hist.map rEntry.enc)), .cv (.int .i64 f.Hist.length), .cv (.int .i64 j)]) (fun j => [.boxT 0 [.cv (.sl 4 (w.Frames.map rFrame.enc)), .cv (.int .i64 w.Step), .cv (.int .i64 w.NextDoc), .cv (.int .i64 w.NextKey)], .mapI ((ks ++ (f.Hist.take j).map (·.Key)).map (·, true))]) (fun j => f.Hist.length - j) 0 (by simp) ⟨rfl, by simp; rfl⟩ ?_
    rintro j ⟨hj, hje⟩
    rcases Nat.lt_or_ge j f.Hist.length with hjlt | hjge
    · have hg2 := getD_at rEntry hjlt
      have htj := take_snoc hjlt
      rw [List.drop_eq_getElem_cons hjlt, entsGo] at hje
      have hkj : ks ++ (f.Hist.take (j + 1)).map (·.Key) = ks ++ (f.Hist.take j).map (·.Key) ++ [f.Hist[j].Key] := by rw [htj, List.map_append, List.append_assoc]; rfl
      rw [← hkj] at hje
      generalize hk1 : ks ++ (f.Hist.take j).map (·.Key) = k1 at *
      generalize f.Hist[j] = e at *
      have hmb := mapB_mem e.Key k1
      try dsimp +instances only [go_sem, Nat.reduceBEq, Nat.reduceAdd, Nat.reduceSub, Nat.reduceLT, Nat.reduceLeDiff]
      repeat (simp only [hg2, rEntry_enc, Int.toNat_natCast, bb, Nat.reduceAdd, Int.reduceToNat, Int.reduceLE, Int.reduceLT, Nat.reduceLT, Nat.reduceMul, Nat.reduceLeDiff]; try dsimp +instances only [go_sem, Nat.reduceBEq, Nat.reduceAdd, Nat.reduceSub, Nat.reduceLT, Nat.reduceLeDiff])
      try simp only [nn, reduceCtorEq, hjlt, decide_true]
      try rw [hmb]
      have heo : entOk2 w i e = (decide (1 ≤ e.Doc ∧ e.Doc ≤ w.NextDoc - 1) && decide (1 ≤ e.Key ∧ e.Key ≤ w.NextKey - 1) && decide (ownerF w e.Doc = i)) := rfl
      refine ⟨by omega, fun _ => by omega, fun h => ?_, fun h => ⟨by omega, nextL_intro (j + 1) ⟨by omega, ?_⟩ (by omega) rfl ?_⟩⟩
      · have : (entOk2 w i e && !decide (e.Key ∈ k1)) = false := by rw [heo]; grind
        rw [this, Bool.false_and] at hje
        rw [hhd, ← he, ← hje]; simp only [Bool.false_and]
      · have : (entOk2 w i e && !decide (e.Key ∈ k1)) = true := by rw [heo]; grind
        rw [this, Bool.true_and] at hje
        exact hje
      · have hn : e.Key ∉ k1 := by simpa using h.1.2
        simp only [hkj, mapB_new _ _ hn]
    · have : j = f.Hist.length := by omega
      subst this
      rw [List.drop_length, entsGo] at hje
      rw [← hje, Bool.true_and] at he
      repeat (dsimp +instances only [go_sem, Nat.reduceBEq, Nat.reduceAdd, Nat.reduceSub, Nat.reduceLT, Nat.reduceLeDiff]; try simp only [bb, Nat.reduceAdd, Int.reduceToNat, Int.reduceLE, Int.reduceLT, Nat.reduceLT, Nat.reduceMul, Nat.reduceLeDiff])
      try simp only [nn, reduceCtorEq, Nat.lt_irrefl]
      have hK1 : allKeys (w.Frames.take (i + 1)) = ks ++ f.Hist.map (·.Key) := by rw [htk, allKeys_app, hK]; simp [allKeys]
      exact fun _ => ⟨by omega, nextL_intro (i + 1) ⟨by omega, by rw [hK1]; exact he, fun g hg => by
        rw [htk, List.mem_append, List.mem_singleton] at hg
        rcases hg with hg | rfl
        · exact hs g hg
        · exact ⟨h20, by intro h; have := hfo.1.1.2; rw [h] at this; simp at this⟩⟩ (by omega) rfl (by simp only [hK1])⟩
  · have : i = w.Frames.length := by omega
    subst this
    rw [List.drop_length, framesGo] at he
    rw [List.take_length] at hs
    repeat (dsimp +instances only [go_sem, Nat.reduceBEq, Nat.reduceAdd, Nat.reduceSub, Nat.reduceLT, Nat.reduceLeDiff]; try simp only [bb, Nat.reduceAdd, Int.reduceToNat, Int.reduceLE, Int.reduceLT, Nat.reduceLT, Nat.reduceMul, Nat.reduceLeDiff])
    try simp only [nn, reduceCtorEq, Nat.lt_irrefl]
    rw [← he, Bool.true_and] at hhd
    refine fun _ => vcC_loop [1, 109, 110, 111] (fun (i : Nat) => i ≤ w.Frames.length ∧ ∀ k < i, treeOk w k = true) (fun i => [.ptr 0 4 0 0, .cv (.sl 4 (w.Frames.map rFrame.enc)), .cv (.int .i64 w.Frames.length), .cv (.int .i64 i)]) (fun i => [.boxT 0 [.cv (.sl 4 (w.Frames.map rFrame.enc)), .cv (.int .i64 w.Step), .cv (.int .i64 w.NextDoc), .cv (.int .i64 w.NextKey)]]) (fun i => w.Frames.length - i) 0 (by simp) ⟨rfl, rfl⟩ ?_
    rintro i ⟨hi, he2⟩
    rcases Nat.lt_or_ge i w.Frames.length with hlt | hge2
    · have hg := getD_at rFrame hlt
      have htr : treeOk w i = (decide (0 < i → 0 ≤ ownerF w (w.Frames.getD i default).Within) && decide (depthF w i ≤ 3)) := rfl
      rw [getD_lt hlt] at htr
      generalize w.Frames[i] = f at *
      try dsimp +instances only [go_sem, Nat.reduceBEq, Nat.reduceAdd, Nat.reduceSub, Nat.reduceLT, Nat.reduceLeDiff]
      repeat (simp only [hg, rFrame_enc, Int.toNat_natCast, bb, Nat.reduceAdd, Int.reduceToNat, Int.reduceLE, Int.reduceLT, Nat.reduceLT, Nat.reduceMul, Nat.reduceLeDiff]; try dsimp +instances only [go_sem, Nat.reduceBEq, Nat.reduceAdd, Nat.reduceSub, Nat.reduceLT, Nat.reduceLeDiff])
      try simp only [nn, reduceCtorEq, hlt, decide_true]
      refine ⟨fun _ => trivial, fun h => ?_, fun h => ⟨by omega, nextL_intro (i + 1) ⟨by omega, fun k hk => ?_⟩ (by omega) rfl rfl⟩⟩
      · have h0 : treeOk w i = false := by rw [htr]; grind
        have : (List.range w.Frames.length).all (treeOk w) = false := by
          rw [List.all_eq_false]; exact ⟨i, List.mem_range.2 hlt, by rw [h0]; simp⟩
        rw [hhd, this]; simp only [Bool.false_and]
      · rcases Nat.lt_or_ge k i with h1 | h1
        · exact he2 k h1
        · obtain rfl : k = i := by omega
          rw [htr]; grind
    · have : i = w.Frames.length := by omega
      subst this
      have hall : (List.range w.Frames.length).all (treeOk w) = true := by
        rw [List.all_eq_true]; intro x hx; exact he2 x (List.mem_range.1 hx)
      rw [hall, Bool.true_and] at hhd
      have h0 : 0 < w.Frames.length := by omega
      have hg0 := getD_at rFrame h0
      have hs0 : step0 w = ((w.Frames.getD 0 default).Hist.getD 0 default).Step := rfl
      rw [getD_lt h0] at hs0
      have hh0 := (hs _ (List.getElem_mem h0)).2
      have hcn := cntE_le w.Frames fun f hf => (hs f hf).1
      generalize w.Frames[0] = f at *
      have h1 : 0 < f.Hist.length := List.length_pos_iff.2 hh0
      have hg1 := getD_at rEntry h1
      rw [getD_lt h1] at hs0
      generalize f.Hist[0] = e at *
      try dsimp +instances only [go_sem, Nat.reduceBEq, Nat.reduceAdd, Nat.reduceSub, Nat.reduceLT, Nat.reduceLeDiff]
      repeat (simp only [hg0, rFrame_enc, hg1, rEntry_enc, bb, Nat.reduceAdd, Int.reduceToNat, Int.reduceLE, Int.reduceLT, Nat.reduceLT, Nat.reduceMul, Nat.reduceLeDiff]; try dsimp +instances only [go_sem, Nat.reduceBEq, Nat.reduceAdd, Nat.reduceSub, Nat.reduceLT, Nat.reduceLeDiff])
      try simp only [nn, reduceCtorEq, Nat.lt_irrefl]
      exact fun _ => ⟨by omega, fun _ => by omega, fun _ => by omega, by rw [hhd, hs0]⟩
end Go.Gx
end
section
namespace Go.Gx
open Go.Proofs
def hatGo (step : Int) : Nat → Int → List Entry → Int
  | _, at_, [] => at_
  | i, at_, e :: r => hatGo step (i + 1) (if e.Step ≤ step then (i : Int) else at_) r
def hatF (l : List Entry) (step : Int) : Int := hatGo step 0 (-1) l
theorem hatGo_lt (step : Int) : ∀ (l : List Entry) (i : Nat) (a : Int), -1 ≤ a → a < i → -1 ≤ hatGo step i a l ∧ hatGo step i a l < i + l.length
  | [], i, a, h1, h2 => by simp [hatGo]; omega
  | e :: r, i, a, h1, h2 => by
    have h := hatGo_lt step r (i + 1) (if e.Step ≤ step then (i : Int) else a) (by split <;> omega) (by split <;> omega)
    simp only [hatGo, List.length_cons]; omega
theorem hatF_lt (l : List Entry) (step : Int) : -1 ≤ hatF l step ∧ hatF l step < l.length := by
  have := hatGo_lt step l 0 (-1) (by omega) (by omega)
  unfold hatF; omega
def E106 : Env := { T := Tz.tab, G := Gl, C := [], live := [(0, [0, 1]), (1, [0, 1, 5]), (2, [1, 5, 8, 9, 10]), (3, [1, 5, 8, 9, 10, 11]), (4, [1, 5, 6, 7, 8, 9, 10]), (5, [1, 5, 6, 8, 9, 10, 18]), (6, [1, 5, 8, 9, 10]), (7, [1, 5, 8, 9, 10]), (8, [4])] }
def ct106 : Ct := .scal (dom2 tEntryS tInt (fun l step => True)) (fn2 tEntryS tInt fun l step => [tInt.enc (hatF l step)])
attribute [go_sem] E106 ct106 Go.Proofs.Tryz.f106
theorem ok106 : CtOk Tryz.prog Gl 106 ct106 := okA2 (E := E106) (sound_of Tz.tab_ok Tz.mixed AllOk.nil) rfl Tryz.func106 (by kernel_rfl) fun l step fl fstep hp => by
  have gl := fl
  have fl := fit_list fl
  have fstep := fit_int fstep
  refine vcFn_intro rfl rfl (by kernel_rfl) rfl ?_
  repeat (dsimp +instances only [go_sem, Nat.reduceBEq, Nat.reduceAdd, Nat.reduceSub, Nat.reduceLT, Nat.reduceLeDiff]; try simp only [bb, Nat.reduceAdd, Int.reduceToNat, Int.reduceLE, Int.reduceLT, Nat.reduceLT, Nat.reduceMul, Nat.reduceLeDiff])
  try simp only [nn, reduceCtorEq]
  refine vcC_loop [1, 5, 8, 9, 10] (fun (x : Nat × Int) => x.1 ≤ l.length ∧ hatGo step x.1 x.2 (l.drop x.1) = hatF l step) (fun x => [.cv (.int .i64 step), .cv (.int .i64 x.2), .cv (.sl 17 (l.map rEntry.enc)), .cv (.int .i64 l.length), .cv (.int .i64 x.1)]) (fun _ => []) (fun x => l.length - x.1) (0, -1) ⟨by simp, rfl⟩ ⟨rfl, rfl⟩ ?_
  rintro ⟨i, a⟩ ⟨hi, he⟩
  simp only at hi he
  rcases Nat.lt_or_ge i l.length with hlt | hge
  · have hg := getD_at rEntry hlt
    rw [List.drop_eq_getElem_cons hlt, hatGo] at he
    try dsimp +instances only [go_sem, Nat.reduceBEq, Nat.reduceAdd, Nat.reduceSub, Nat.reduceLT, Nat.reduceLeDiff]
    repeat (simp only [hg, rEntry_enc, Int.toNat_natCast, bb, Nat.reduceAdd, Int.reduceToNat, Int.reduceLE, Int.reduceLT, Nat.reduceLT, Nat.reduceMul, Nat.reduceLeDiff]; try dsimp +instances only [go_sem, Nat.reduceBEq, Nat.reduceAdd, Nat.reduceSub, Nat.reduceLT, Nat.reduceLeDiff])
    try simp only [nn, reduceCtorEq, hlt, decide_true]
    refine ⟨fun h => ⟨by omega, nextL_intro (i + 1, (i : Int)) ⟨by simp only; omega, ?_⟩ (by simp only; omega) rfl rfl⟩, fun h => ⟨by omega, nextL_intro (i + 1, a) ⟨by simp only; omega, ?_⟩ (by simp only; omega) rfl rfl⟩⟩
    · rw [if_pos h] at he; exact he
    · rw [if_neg h] at he; exact he
  · have : i = l.length := by omega
    subst this
    rw [List.drop_length, hatGo] at he
    repeat (dsimp +instances only [go_sem, Nat.reduceBEq, Nat.reduceAdd, Nat.reduceSub, Nat.reduceLT, Nat.reduceLeDiff]; try simp only [bb, Nat.reduceAdd, Int.reduceToNat, Int.reduceLE, Int.reduceLT, Nat.reduceLT, Nat.reduceMul, Nat.reduceLeDiff])
    try simp only [nn, reduceCtorEq, Nat.lt_irrefl]
    exact fun _ => he
def pageF (w : Window) (f : Int) : Int := if hatF (w.Frames.getD f.toNat default).Hist w.Step < 0 then 0 else ((w.Frames.getD f.toNat default).Hist.getD (hatF (w.Frames.getD f.toNat default).Hist w.Step).toNat default).Doc
def nowF (w : Window) (f : Int) : Entry := (w.Frames.getD f.toNat default).Hist.getD (hatF (w.Frames.getD f.toNat default).Hist w.Step).toNat default
def E105 : Env := { T := Tz.tab, G := Gl, C := [(106, ct106)], live := [(0, [1, 2]), (1, [1, 2, 5]), (2, [1, 2, 5, 16]), (3, [4]), (4, [4])] }
def ct105 : Ct := .scal (dom2 tWindow tInt (fun w f => 0 ≤ f ∧ f < w.Frames.length)) (fn2 tWindow tInt fun w f => [tInt.enc (pageF w f)])
attribute [go_sem] E105 ct105 Go.Proofs.Tryz.f105
theorem ok105 : CtOk Tryz.prog Gl 105 ct105 := okA2 (E := E105) (sound_of Tz.tab_ok Tz.mixed (AllOk.cons ok106 AllOk.nil)) rfl Tryz.func105 (by kernel_rfl) fun w f fw ff hp => by
  have gw := fw
  have fw := fit_window fw
  have ff := fit_int ff
  refine vcFn_intro rfl rfl (by kernel_rfl) rfl ?_
  have fF := (WindowFit.Frames (fit_window gw)).1
  have fH : ∀ f ∈ w.Frames, Fit f.Hist.length := fun f hf => (FrameFit_el (WindowFit.Frames (fit_window gw)).2 hf).Hist.1
  obtain ⟨m, rfl⟩ : ∃ m : Nat, f = m := ⟨f.toNat, by omega⟩
  have hlt : m < w.Frames.length := by omega
  have hg := getD_at rFrame hlt
  have hd : pageF w m = if hatF (w.Frames.getD (m : Int).toNat default).Hist w.Step < 0 then 0 else ((w.Frames.getD (m : Int).toNat default).Hist.getD (hatF (w.Frames.getD (m : Int).toNat default).Hist w.Step).toNat default).Doc := rfl
  rw [Int.toNat_natCast, getD_lt hlt] at hd
  have hfit := fH _ (List.getElem_mem hlt)
  generalize w.Frames[m] = g at *
  have hh := hatF_lt g.Hist w.Step
  generalize hz : hatF g.Hist w.Step = z at *
  rcases Int.lt_or_le z 0 with h | h
  · rw [if_pos h] at hd
    try dsimp +instances only [go_sem, Nat.reduceBEq, Nat.reduceAdd, Nat.reduceSub, Nat.reduceLT, Nat.reduceLeDiff]
    repeat (simp only [hg, rFrame_enc, Int.toNat_natCast, hz, bb, Nat.reduceAdd, Int.reduceToNat, Int.reduceLE, Int.reduceLT, Nat.reduceLT, Nat.reduceMul, Nat.reduceLeDiff]; try dsimp +instances only [go_sem, Nat.reduceBEq, Nat.reduceAdd, Nat.reduceSub, Nat.reduceLT, Nat.reduceLeDiff])
    try simp only [nn, reduceCtorEq, hlt, decide_true, h]
    exact hd.symm
  · obtain ⟨k, rfl⟩ : ∃ k : Nat, z = k := ⟨z.toNat, by omega⟩
    have hk : k < g.Hist.length := by omega
    have hg2 := getD_at rEntry hk
    rw [if_neg (by omega), Int.toNat_natCast, getD_lt hk] at hd
    try dsimp +instances only [go_sem, Nat.reduceBEq, Nat.reduceAdd, Nat.reduceSub, Nat.reduceLT, Nat.reduceLeDiff]
    repeat (simp only [hg, rFrame_enc, hz, hg2, rEntry_enc, Int.toNat_natCast, bb, Nat.reduceAdd, Int.reduceToNat, Int.reduceLE, Int.reduceLT, Nat.reduceLT, Nat.reduceMul, Nat.reduceLeDiff]; try dsimp +instances only [go_sem, Nat.reduceBEq, Nat.reduceAdd, Nat.reduceSub, Nat.reduceLT, Nat.reduceLeDiff])
    try simp only [nn, reduceCtorEq, hlt, decide_true]
    exact ⟨fun h' => absurd h' (by omega), fun _ => ⟨hk, hd.symm⟩⟩
def E81 : Env := { T := Tz.tab, G := Gl, C := [(106, ct106)], live := [(0, [1, 2, 4]), (1, [4])] }
def ct81 : Ct := .im (dom2 tWindow tInt (fun w f => 0 ≤ f ∧ f < w.Frames.length ∧ 0 ≤ hatF (w.Frames.getD f.toNat default).Hist w.Step)) (fn2 tWindow tInt fun w f => [tEntry.enc (nowF w f)])
attribute [go_sem] E81 ct81 Go.Proofs.Tryz.f81
theorem ok81 : CtOk Tryz.prog Gl 81 ct81 := okI2 (E := E81) (sound_of Tz.tab_ok Tz.mixed (AllOk.cons ok106 AllOk.nil)) rfl Tryz.func81 (by kernel_rfl) fun w f fw ff hp => by
  have gw := fw
  have fw := fit_window fw
  have ff := fit_int ff
  refine vcFn_intro rfl rfl (by kernel_rfl) rfl ?_
  have fF := (WindowFit.Frames (fit_window gw)).1
  have fH : ∀ f ∈ w.Frames, Fit f.Hist.length := fun f hf => (FrameFit_el (WindowFit.Frames (fit_window gw)).2 hf).Hist.1
  obtain ⟨m, rfl⟩ : ∃ m : Nat, f = m := ⟨f.toNat, by omega⟩
  have hlt : m < w.Frames.length := by omega
  have hg := getD_at rFrame hlt
  have hd : nowF w m = (w.Frames.getD (m : Int).toNat default).Hist.getD (hatF (w.Frames.getD (m : Int).toNat default).Hist w.Step).toNat default := rfl
  have hp2 := hp.2.2
  rw [Int.toNat_natCast, getD_lt hlt] at hd hp2
  have hfit := fH _ (List.getElem_mem hlt)
  generalize w.Frames[m] = g at *
  have hh := hatF_lt g.Hist w.Step
  generalize hz : hatF g.Hist w.Step = z at *
  obtain ⟨k, rfl⟩ : ∃ k : Nat, z = k := ⟨z.toNat, by omega⟩
  have hk : k < g.Hist.length := by omega
  have hg2 := getD_at rEntry hk
  rw [Int.toNat_natCast, getD_lt hk] at hd
  rw [hd]
  try dsimp +instances only [go_sem, Nat.reduceBEq, Nat.reduceAdd, Nat.reduceSub, Nat.reduceLT, Nat.reduceLeDiff]
  repeat (simp only [hg, rFrame_enc, hz, hg2, rEntry_enc, Int.toNat_natCast, bb, Nat.reduceAdd, Int.reduceToNat, Int.reduceLE, Int.reduceLT, Nat.reduceLT, Nat.reduceMul, Nat.reduceLeDiff]; try dsimp +instances only [go_sem, Nat.reduceBEq, Nat.reduceAdd, Nat.reduceSub, Nat.reduceLT, Nat.reduceLeDiff])
  try simp only [nn, reduceCtorEq, hlt, decide_true]
  exact hk
attribute [go_sem] Go.Proofs.Tryz.f148
end Go.Gx
end
section
namespace Go.Gx
open Go.Proofs
theorem all_no {α : Type} {l : List α} {p : α → Bool} {i : Nat} (h : i < l.length) (hp : p l[i] = false) : l.all p = false := by
  rw [List.all_eq_false]; exact ⟨l[i], List.getElem_mem h, by rw [hp]; simp⟩
theorem all_go {α : Type} {l : List α} {p : α → Bool} {i : Nat} (h : i < l.length) (hi : (l.take i).all p = true) (hp : p l[i] = true) : (l.take (i + 1)).all p = true := by
  rw [take_snoc h, List.all_append, hi]; simp [hp]
theorem fI_eq {α : Type} (p : α → Bool) (l : List α) (i : Nat) (hlt : i < l.length) (hp : p l[i] = true) : fI p l = i ↔ ∀ j (h : j < l.length), j < i → p l[j] = false := by
  have h0 : l.findIdx p < l.length := List.findIdx_lt_length_of_exists ⟨l[i], List.getElem_mem hlt, hp⟩
  unfold fI; rw [if_pos h0]
  have h1 : ((l.findIdx p : Int) = i) ↔ l.findIdx p = i := by omega
  rw [h1, List.findIdx_eq hlt]
  constructor
  · intro h j hj hji; exact h.2 j hji
  · intro h; exact ⟨hp, fun j hj => h j (by omega) hj⟩
def frA (w : Window) (f : Int) : Frame := w.Frames.getD f.toNat default
theorem frA_eq (w : Window) (i : Nat) (h : i < w.Frames.length) : frA w i = w.Frames[i] := by
  unfold frA; rw [Int.toNat_natCast, getD_lt h]
structure WTree (w : Window) : Prop where
  top : ∀ i (h : i < w.Frames.length), (i = 0 ↔ w.Frames[i].Within = 0)
  own : ∀ i (h : i < w.Frames.length), 0 < i → 0 ≤ ownerF w w.Frames[i].Within
  deep : ∀ i < w.Frames.length, depthF w (i : Int) ≤ 3
structure WOk (w : Window) : Prop where
  head : headOk w = true
  fr : ∀ i (h : i < w.Frames.length), histOk w.Frames[i].Hist = true ∧ w.Frames[i].Hist ≠ [] ∧ lowOk w.Frames[i].Name = true
  rg : ∀ f ∈ w.Frames, ∀ e ∈ f.Hist, 1 ≤ e.Doc ∧ e.Doc < w.NextDoc ∧ 1 ≤ e.Key ∧ e.Key < w.NextKey
  ap : ∀ i j (h : i < w.Frames.length), (hj : j < i) → ∀ e ∈ w.Frames[i].Hist, ∀ x ∈ w.Frames[j].Hist, x.Doc ≠ e.Doc ∧ x.Key ≠ e.Key
  tree : WTree w
  step : w.Step ∈ stepsF w
  s0 : step0 w = 0
theorem mem_allKeys {k : Int} : ∀ {l : List Frame}, k ∈ allKeys l ↔ ∃ f ∈ l, ∃ e ∈ f.Hist, e.Key = k
  | [] => by simp [allKeys]
  | f :: r => by
    rw [allKeys, List.mem_append, mem_allKeys (l := r)]
    simp [List.mem_map]
theorem histGo_seen : ∀ (l : List Entry) (seen : List Int) (q : Int), histGo seen q l = true → ∀ pre : List Int, (∀ e ∈ l, e.Key ∉ pre) → ∀ w : Window, ∀ i : Int, (∀ e ∈ l, entOk2 w i e = true) → entsGo w i (pre ++ seen) l = true
  | [], _, _, _, _, _, _, _, _ => rfl
  | a :: r, seen, q, h, pre, hp, w, i, he => by
    simp only [histGo, Bool.and_eq_true] at h
    have h1 := he a (by simp)
    have h2 : a.Key ∉ pre ++ seen := by
      rw [List.mem_append]
      rintro (h3 | h3)
      · exact hp a (by simp) h3
      · have := h.1.2; simp at this; exact this h3
    rw [entsGo, h1, decide_eq_false h2, List.append_assoc, histGo_seen r _ _ h.2 pre (fun e h => hp e (by simp [h])) w i (fun e h => he e (by simp [h]))]
    rfl
theorem entsGo_iff {w : Window} {i : Int} : ∀ {l : List Entry} {ks : List Int}, entsGo w i ks l = true → ∀ e ∈ l, entOk2 w i e = true ∧ e.Key ∉ ks
  | [], _, _, e, he => by simp at he
  | a :: r, ks, h, e, he => by
    simp only [entsGo, Bool.and_eq_true] at h
    rcases List.mem_cons.1 he with rfl | he
    · exact ⟨h.1.1, by simpa using h.1.2⟩
    · have := entsGo_iff h.2 e he
      exact ⟨this.1, fun h2 => this.2 (by simp [h2])⟩
theorem framesGo_iff (w : Window) : ∀ (l : List Frame) (i : Nat) (ks : List Int), framesGo w i ks l = true ↔ ∀ j (h : j < l.length), frOk (i + j) l[j] = true ∧ entsGo w ((i + j : Nat) : Int) (ks ++ allKeys (l.take j)) l[j].Hist = true
  | [], i, ks => by simp [framesGo]
  | f :: r, i, ks => by
    rw [framesGo, Bool.and_eq_true, Bool.and_eq_true, framesGo_iff w r]
    constructor
    · rintro ⟨⟨h1, h2⟩, h3⟩ j hj
      cases j with
      | zero => simpa [allKeys] using ⟨h1, h2⟩
      | succ j =>
        have := h3 j (by simpa using hj)
        rw [show i + 1 + j = i + (j + 1) by omega] at this
        simpa [allKeys] using this
    · intro h
      refine ⟨?_, fun j hj => ?_⟩
      · have := h 0 (by simp); simpa [allKeys] using this
      · have := h (j + 1) (by simpa using hj)
        rw [show i + 1 + j = i + (j + 1) by omega]
        simpa [allKeys] using this
theorem treeOk_iff (w : Window) (i : Nat) : treeOk w i = true ↔ ((0 < i → 0 ≤ ownerF w (w.Frames.getD i default).Within) ∧ depthF w i ≤ 3) := by
  unfold treeOk; rw [Bool.and_eq_true, decide_eq_true_iff, decide_eq_true_iff]
theorem own_iff (w : Window) (i : Nat) (h : i < w.Frames.length) (e : Entry) (he : e ∈ w.Frames[i].Hist) : ownerF w e.Doc = i ↔ ∀ j (hj : j < i), ∀ x ∈ w.Frames[j].Hist, x.Doc ≠ e.Doc := by
  have hp : hasDoc e.Doc w.Frames[i] = true := by unfold hasDoc; rw [List.any_eq_true]; exact ⟨e, he, by simp⟩
  unfold ownerF
  rw [fI_eq _ _ i h hp]
  constructor
  · intro h1 j hj x hx h2
    have := h1 j (by omega) hj
    unfold hasDoc at this
    rw [List.any_eq_false] at this
    exact this x hx (by simp [h2])
  · intro h1 j hj hji
    unfold hasDoc
    rw [List.any_eq_false]
    intro x hx h2
    exact h1 j hji x hx (by simpa using h2)
theorem winOk_iff (w : Window) : winOk w = true ↔ WOk w := by
  unfold winOk
  simp only [Bool.and_eq_true, decide_eq_true_iff]
  rw [framesGo_iff]
  simp only [Nat.zero_add, List.nil_append]
  constructor
  · rintro ⟨⟨⟨⟨h1, h2⟩, h3⟩, h4⟩, h5⟩
    have hfr : ∀ i (h : i < w.Frames.length), (histOk w.Frames[i].Hist = true ∧ w.Frames[i].Hist ≠ [] ∧ lowOk w.Frames[i].Name = true) ∧ (i = 0 ↔ w.Frames[i].Within = 0) := fun i h => by
      have := (h2 i h).1
      unfold frOk at this
      simp only [Bool.and_eq_true, decide_eq_true_iff] at this
      exact ⟨⟨this.1.1.1, this.1.1.2, this.1.2⟩, this.2⟩
    have hen : ∀ i (h : i < w.Frames.length), ∀ e ∈ w.Frames[i].Hist, entOk2 w i e = true ∧ e.Key ∉ allKeys (w.Frames.take i) := fun i h => entsGo_iff (h2 i h).2
    refine ⟨h1, fun i h => (hfr i h).1, fun f hf e he => ?_, fun i j h hj e he x hx => ?_, ⟨fun i h => (hfr i h).2, fun i h hi => ?_, fun i h => ?_⟩, h4, h5⟩
    · obtain ⟨i, h, rfl⟩ := List.mem_iff_getElem.1 hf
      have := (hen i h e he).1
      unfold entOk2 at this
      simp only [Bool.and_eq_true, decide_eq_true_iff] at this
      omega
    · have h6 := hen i h e he
      have h7 := h6.1
      unfold entOk2 at h7
      simp only [Bool.and_eq_true, decide_eq_true_iff] at h7
      refine ⟨(own_iff w i h e he).1 h7.2 j hj x hx, fun h8 => h6.2 (mem_allKeys.2 ⟨w.Frames[j], ?_, x, hx, h8⟩)⟩
      exact List.mem_take_iff_getElem.2 ⟨j, by omega, rfl⟩
    · have := (treeOk_iff w i).1 (List.all_eq_true.1 h3 i (List.mem_range.2 h))
      rw [getD_lt h] at this
      exact this.1 hi
    · exact ((treeOk_iff w i).1 (List.all_eq_true.1 h3 i (List.mem_range.2 h))).2
  · intro W
    refine ⟨⟨⟨⟨W.head, fun i h => ⟨?_, ?_⟩⟩, ?_⟩, W.step⟩, W.s0⟩
    · have := W.fr i h
      have h2 := W.tree.top i h
      unfold frOk
      simp only [Bool.and_eq_true, decide_eq_true_iff]
      exact ⟨⟨⟨this.1, this.2.1⟩, this.2.2⟩, h2⟩
    · have hh := (W.fr i h).1
      unfold histOk at hh
      rw [Bool.and_eq_true] at hh
      have := histGo_seen w.Frames[i].Hist [] (-1) hh.1 (allKeys (w.Frames.take i)) (fun e he hk => ?_) w i (fun e he => ?_)
      · simpa using this
      · obtain ⟨g, hg, x, hx, hxk⟩ := mem_allKeys.1 hk
        obtain ⟨j, hj, rfl⟩ := List.mem_take_iff_getElem.1 hg
        exact (W.ap i j h (by omega) e he x hx).2 hxk
      · have hr := W.rg _ (List.getElem_mem h) e he
        have ho := (own_iff w i h e he).2 fun j hj x hx => (W.ap i j h hj e he x hx).1
        unfold entOk2
        simp only [Bool.and_eq_true, decide_eq_true_iff]
        exact ⟨⟨by omega, by omega⟩, ho⟩
    · rw [List.all_eq_true]
      intro i hi
      have hi := List.mem_range.1 hi
      rw [treeOk_iff, getD_lt hi]
      exact ⟨fun h => W.tree.own i hi h, W.tree.deep i hi⟩
def apB (e : Entry) (g : Frame) : Bool := g.Hist.all (fun x => decide (x.Doc ≠ e.Doc) && decide (x.Key ≠ e.Key))
def rgB (w : Window) (e : Entry) : Bool := decide (1 ≤ e.Doc ∧ e.Doc < w.NextDoc ∧ 1 ≤ e.Key ∧ e.Key < w.NextKey)
def apE (w : Window) (i : Nat) (e : Entry) : Bool := rgB w e && (w.Frames.take i).all (apB e)
def apF (w : Window) (i : Nat) : Bool := (w.Frames.getD i default).Hist.all (apE w i)
def apartF (w : Window) : Bool := (List.range w.Frames.length).all (apF w)
def sdeepGo (w : Window) : Nat → Int → Int → Int
  | 0, _, n => n
  | k + 1, f, n => if (frA w f).Within = 0 then n else if ownerF w (frA w f).Within < 0 ∨ 3 < n + 1 then 4 else sdeepGo w k (ownerF w (frA w f).Within) (n + 1)
def sdeepF (w : Window) (f : Int) : Int := sdeepGo w 3 f 1
def sFr (w : Window) (i : Nat) : Bool := decide ((w.Frames.getD i default).Within = 0 ↔ i = 0) && decide (0 ≤ (w.Frames.getD i default).Within) && lowOk (w.Frames.getD i default).Name && histOk (w.Frames.getD i default).Hist && decide ((w.Frames.getD i default).Hist ≠ []) && decide (sdeepF w i ≤ 3)
def sOk (w : Window) : Bool := headOk w && apartF w && (List.range w.Frames.length).all (sFr w) && decide (step0 w = 0) && decide (w.Step ∈ stepsF w)
theorem depthGo_ge (w : Window) : ∀ (k : Nat) (f n : Int), n ≤ (depthGo w k f n).2
  | 0, _, n => Int.le_refl n
  | k + 1, f, n => by
    rw [depthGo]; split
    · have := depthGo_ge w k (ownerF w (w.Frames.getD f.toNat default).Within) (n + 1); omega
    · exact Int.le_refl n
theorem depthGo_pos {w : Window} {k : Nat} {f n : Int} (h : 0 < f) (hn : n ≤ 8) : depthGo w (k + 1) f n = depthGo w k (ownerF w (w.Frames.getD f.toNat default).Within) (n + 1) := by
  rw [depthGo, if_pos ⟨h, hn⟩]
theorem depthGo_neg {w : Window} {k : Nat} {f n : Int} (h : ¬ 0 < f) : depthGo w k f n = (f, n) := by
  cases k with
  | zero => rfl
  | succ k => rw [depthGo, if_neg (fun h' => h h'.1)]
theorem depthF_le (w : Window) (f : Int) (h0 : 0 ≤ f) : depthF w f ≤ 3 ↔ f = 0 ∨ ownerF w (frA w f).Within = 0 ∨ (0 < ownerF w (frA w f).Within ∧ ownerF w (frA w (ownerF w (frA w f).Within)).Within = 0) := by
  unfold depthF frA
  by_cases h : 0 < f
  · rw [depthGo_pos h (by omega)]
    generalize ho : ownerF w (w.Frames.getD f.toNat default).Within = g
    by_cases hg : 0 < g
    · rw [depthGo_pos hg (by omega)]
      generalize ho2 : ownerF w (w.Frames.getD g.toNat default).Within = k
      by_cases hk : 0 < k
      · rw [depthGo_pos hk (by omega)]
        have := depthGo_ge w 5 (ownerF w (w.Frames.getD k.toNat default).Within) (1 + 1 + 1 + 1)
        split <;> omega
      · rw [depthGo_neg hk]; dsimp only; split <;> omega
    · rw [depthGo_neg hg]; dsimp only; split <;> omega
  · rw [depthGo_neg h]; dsimp only; split <;> omega
theorem owner_neg {w : Window} (hrg : ∀ f ∈ w.Frames, ∀ e ∈ f.Hist, 1 ≤ e.Doc) {d : Int} (h : 0 ≤ ownerF w d) : 1 ≤ d := by
  have := (fI_any _ _).1 h
  obtain ⟨f, hf, hd⟩ := List.any_eq_true.1 this
  obtain ⟨e, he, hd⟩ := List.any_eq_true.1 hd
  have := hrg f hf e he
  simp at hd; omega
theorem owner_lt (w : Window) (d : Int) : ownerF w d < w.Frames.length ∧ -1 ≤ ownerF w d := fI_lt _ _
theorem deep_iff {w : Window} (top : ∀ i (h : i < w.Frames.length), (i = 0 ↔ w.Frames[i].Within = 0)) (i : Nat) (hi : i < w.Frames.length) : sdeepF w i ≤ 3 ↔ depthF w i ≤ 3 := by
  have hz : ∀ f : Int, 0 ≤ f → f < w.Frames.length → ((frA w f).Within = 0 ↔ f = 0) := fun f h1 h2 => by
    obtain ⟨k, rfl⟩ : ∃ k : Nat, f = k := ⟨f.toNat, by omega⟩
    rw [frA_eq w k (by omega), ← top k (by omega)]; omega
  rw [depthF_le w i (by omega)]
  unfold sdeepF
  rw [sdeepGo]
  have h1 := hz i (by omega) (by omega)
  by_cases hw : (frA w i).Within = 0
  · rw [if_pos hw]; have := h1.1 hw; omega
  · rw [if_neg hw]
    have h2 : ¬ ((i : Int) = 0) := fun h => hw (h1.2 h)
    have hl := owner_lt w (frA w i).Within
    generalize ownerF w (frA w i).Within = g at *
    by_cases hg : g < 0
    · rw [if_pos (.inl hg)]; omega
    · rw [if_neg (by omega), sdeepGo]
      have h3 := hz g (by omega) hl.1
      by_cases hw2 : (frA w g).Within = 0
      · rw [if_pos hw2]; have := h3.1 hw2; omega
      · rw [if_neg hw2]
        have h4 : ¬ (g = 0) := fun h => hw2 (h3.2 h)
        have hl2 := owner_lt w (frA w g).Within
        generalize ownerF w (frA w g).Within = k at *
        by_cases hk : k < 0
        · rw [if_pos (.inl hk)]; omega
        · rw [if_neg (by omega), sdeepGo]
          have h5 := hz k (by omega) hl2.1
          by_cases hw3 : (frA w k).Within = 0
          · rw [if_pos hw3]; have := h5.1 hw3; omega
          · rw [if_neg hw3, if_pos (.inr (by omega))]
            have : ¬ (k = 0) := fun h => hw3 (h5.2 h)
            omega
theorem sOk_iff (w : Window) : sOk w = true ↔ WOk w := by
  unfold sOk
  simp only [Bool.and_eq_true, decide_eq_true_iff]
  have hap : apartF w = true ↔ (∀ i (h : i < w.Frames.length), ∀ e ∈ w.Frames[i].Hist, (1 ≤ e.Doc ∧ e.Doc < w.NextDoc ∧ 1 ≤ e.Key ∧ e.Key < w.NextKey) ∧ ∀ j (hj : j < i), ∀ x ∈ w.Frames[j].Hist, x.Doc ≠ e.Doc ∧ x.Key ≠ e.Key) := by
    unfold apartF
    rw [List.all_eq_true]
    constructor
    · intro h i hi e he
      have h1 := h i (List.mem_range.2 hi)
      unfold apF at h1
      rw [getD_lt hi, List.all_eq_true] at h1
      have h2 := h1 e he
      unfold apE rgB at h2
      rw [Bool.and_eq_true, decide_eq_true_iff, List.all_eq_true] at h2
      refine ⟨h2.1, fun j hj x hx => ?_⟩
      have h3 := h2.2 w.Frames[j] (List.mem_take_iff_getElem.2 ⟨j, by omega, rfl⟩)
      unfold apB at h3
      rw [List.all_eq_true] at h3
      have := h3 x hx
      simpa using this
    · intro h i hi
      have hi := List.mem_range.1 hi
      unfold apF
      rw [getD_lt hi, List.all_eq_true]
      intro e he
      have h1 := h i hi e he
      unfold apE rgB
      rw [Bool.and_eq_true, decide_eq_true_iff, List.all_eq_true]
      refine ⟨h1.1, fun g hg => ?_⟩
      obtain ⟨j, hj, rfl⟩ := List.mem_take_iff_getElem.1 hg
      unfold apB
      rw [List.all_eq_true]
      intro x hx
      have := h1.2 j (by omega) x hx
      simpa using this
  have hsf : (List.range w.Frames.length).all (sFr w) = true ↔ ∀ i (h : i < w.Frames.length), (w.Frames[i].Within = 0 ↔ i = 0) ∧ 0 ≤ w.Frames[i].Within ∧ lowOk w.Frames[i].Name = true ∧ histOk w.Frames[i].Hist = true ∧ w.Frames[i].Hist ≠ [] ∧ sdeepF w i ≤ 3 := by
    rw [List.all_eq_true]
    constructor
    · intro h i hi
      have := h i (List.mem_range.2 hi)
      unfold sFr at this
      rw [getD_lt hi] at this
      simp only [Bool.and_eq_true, decide_eq_true_iff] at this
      exact ⟨this.1.1.1.1.1, this.1.1.1.1.2, this.1.1.1.2, this.1.1.2, this.1.2, this.2⟩
    · intro h i hi
      have hi := List.mem_range.1 hi
      have := h i hi
      unfold sFr
      rw [getD_lt hi]
      simp only [Bool.and_eq_true, decide_eq_true_iff]
      exact ⟨⟨⟨⟨⟨this.1, this.2.1⟩, this.2.2.1⟩, this.2.2.2.1⟩, this.2.2.2.2.1⟩, this.2.2.2.2.2⟩
  rw [hap, hsf]
  constructor
  · rintro ⟨⟨⟨⟨h1, h2⟩, h3⟩, h4⟩, h5⟩
    have top : ∀ i (h : i < w.Frames.length), (i = 0 ↔ w.Frames[i].Within = 0) := fun i h => (h3 i h).1.symm
    have hz : ∀ i (hi : i < w.Frames.length), depthF w i ≤ 3 := fun i hi => (deep_iff top i hi).1 (h3 i hi).2.2.2.2.2
    refine ⟨h1, fun i h => ⟨(h3 i h).2.2.2.1, (h3 i h).2.2.2.2.1, (h3 i h).2.2.1⟩, fun f hf e he => ?_, fun i j h hj e he => (h2 i h e he).2 j hj, ⟨top, fun i h hi => ?_, hz⟩, h5, h4⟩
    · obtain ⟨i, h, rfl⟩ := List.mem_iff_getElem.1 hf
      exact (h2 i h e he).1
    · have := (depthF_le w i (by omega)).1 (hz i h)
      rw [frA_eq w i h] at this
      omega
  · intro W
    refine ⟨⟨⟨⟨W.head, fun i h e he => ⟨W.rg _ (List.getElem_mem h) e he, fun j hj x hx => W.ap i j h hj e he x hx⟩⟩, fun i h => ⟨(W.tree.top i h).symm, ?_, (W.fr i h).2.2, (W.fr i h).1, (W.fr i h).2.1, (deep_iff W.tree.top i h).2 (W.tree.deep i h)⟩⟩, W.s0⟩, W.step⟩
    rcases Nat.eq_zero_or_pos i with h0 | h0
    · have := (W.tree.top i h).1 h0; omega
    · have := owner_neg (fun f hf e he => (W.rg f hf e he).1) (W.tree.own i h h0); omega
theorem sOk_eq (w : Window) : sOk w = winOk w := by
  rw [Bool.eq_iff_iff, sOk_iff, winOk_iff]
def nowD (w : Window) (f s : Int) : Int := if hatF (frA w f).Hist s < 0 then 0 else ((frA w f).Hist.getD (hatF (frA w f).Hist s).toNat default).Doc
def liveF (w : Window) (s : Int) : Nat → Int → Bool
  | 0, _ => false
  | k + 1, f => decide (nowD w f s ≠ 0) && (decide (f = 0) || (decide (nowD w (ownerF w (frA w f).Within) s = (frA w f).Within) && liveF w s k (ownerF w (frA w f).Within)))
def lev (w : Window) : Nat → Int → Prop
  | 0, _ => False
  | k + 1, f => f = 0 ∨ (0 < f ∧ lev w k (ownerF w (frA w f).Within))
theorem liveF_fuel {w : Window} {s : Int} : ∀ {k : Nat} {f : Int}, lev w k f → liveF w s (k + 1) f = liveF w s k f
  | 0, _, h => h.elim
  | k + 1, f, h => by
    show (decide (nowD w f s ≠ 0) && (decide (f = 0) || (decide (nowD w (ownerF w (frA w f).Within) s = (frA w f).Within) && liveF w s (k + 1) (ownerF w (frA w f).Within)))) = (decide (nowD w f s ≠ 0) && (decide (f = 0) || (decide (nowD w (ownerF w (frA w f).Within) s = (frA w f).Within) && liveF w s k (ownerF w (frA w f).Within))))
    rcases h with h | h
    · rw [decide_eq_true h]; simp
    · rw [liveF_fuel h.2]
end Go.Gx
end
section
namespace Go.Gx
open Go.Proofs
theorem sorted_ext : ∀ {a b : List Int}, a.Pairwise (· < ·) → b.Pairwise (· < ·) → (∀ x, x ∈ a ↔ x ∈ b) → a = b
  | [], [], _, _, _ => rfl
  | [], y :: b, _, _, h => by have := (h y).2 (by simp); simp at this
  | x :: a, [], _, _, h => by have := (h x).1 (by simp); simp at this
  | x :: a, y :: b, ha, hb, h => by
    rw [List.pairwise_cons] at ha hb
    have hxy : x = y := by
      rcases List.mem_cons.1 ((h x).1 (by simp)) with e | e
      · exact e
      · rcases List.mem_cons.1 ((h y).2 (by simp)) with e2 | e2
        · exact e2.symm
        · have := hb.1 x e; have := ha.1 y e2; omega
    subst hxy
    rw [sorted_ext ha.2 hb.2 fun z => ?_]
    constructor
    · intro hz
      rcases List.mem_cons.1 ((h z).1 (by simp [hz])) with e | e
      · have := ha.1 z hz; omega
      · exact e
    · intro hz
      rcases List.mem_cons.1 ((h z).2 (by simp [hz])) with e | e
      · have := hb.1 z hz; omega
      · exact e
theorem cu_inv (d : Array Int) (hs : ∀ i j, i ≤ j → j < d.size → d[i]! ≤ d[j]!) : ∀ m, m ≤ d.size → (Lib.compactUpTo d m).Pairwise (· < ·) ∧ ∀ x, x ∈ Lib.compactUpTo d m ↔ ∃ j, j < m ∧ d[j]! = x
  | 0, _ => by simp [Lib.compactUpTo]
  | m + 1, h => by
    obtain ⟨h1, h2⟩ := cu_inv d hs m (by omega)
    rw [Lib.compactUpTo_succ]
    by_cases hk : Lib.keeps d m = true
    · rw [if_pos hk]
      refine ⟨List.pairwise_append.2 ⟨h1, by simp, fun x hx y hy => ?_⟩, fun x => ?_⟩
      · obtain ⟨j, hj, rfl⟩ := (h2 x).1 hx
        rw [List.mem_singleton] at hy
        subst hy
        have h3 : d[m]! ≠ d[m - 1]! := by
          unfold Lib.keeps at hk
          rw [decide_eq_true_iff] at hk
          exact hk.resolve_left (by omega)
        have := hs j (m - 1) (by omega) (by omega)
        have := hs (m - 1) m (by omega) (by omega)
        omega
      · rw [List.mem_append, h2, List.mem_singleton]
        constructor
        · rintro (⟨j, hj, e⟩ | e)
          · exact ⟨j, by omega, e⟩
          · exact ⟨m, by omega, e.symm⟩
        · rintro ⟨j, hj, e⟩
          by_cases hjm : j = m
          · subst hjm; exact .inr e.symm
          · exact .inl ⟨j, by omega, e⟩
    · rw [if_neg hk, List.append_nil]
      have h3 : m ≠ 0 ∧ d[m]! = d[m - 1]! := by
        unfold Lib.keeps at hk
        rw [decide_eq_true_iff] at hk
        exact ⟨fun h => hk (.inl h), Classical.byContradiction fun h => hk (.inr h)⟩
      refine ⟨h1, fun x => ?_⟩
      rw [h2]
      constructor
      · rintro ⟨j, hj, e⟩; exact ⟨j, by omega, e⟩
      · rintro ⟨j, hj, e⟩
        by_cases hjm : j = m
        · subst hjm; exact ⟨j - 1, by omega, by rw [← h3.2]; exact e⟩
        · exact ⟨j, by omega, e⟩
theorem sortI_sorted (l : List Int) : (sortI l).Pairwise (· ≤ ·) := by
  have := List.pairwise_mergeSort (le := fun x y : Int => decide (x ≤ y)) (fun a b c h1 h2 => by simp at *; omega) (fun a b => by simp; omega) l
  exact this.imp fun h => by simpa using h
theorem sortI_mem (l : List Int) (x : Int) : x ∈ sortI l ↔ x ∈ l := List.mem_mergeSort
theorem compact_sorted (l : List Int) (h : l.Pairwise (· ≤ ·)) : (Lib.compact l).Pairwise (· < ·) ∧ ∀ x, x ∈ Lib.compact l ↔ x ∈ l := by
  have hg : ∀ i, i < l.length → l.toArray[i]! = l.getD i 0 := fun i hi => by simp [hi]
  have := cu_inv l.toArray (fun i j hij hj => by
    have hj' : j < l.length := by simpa using hj
    rw [hg i (by omega), hg j hj', getD_lt (by omega), getD_lt hj']
    rcases Nat.eq_or_lt_of_le hij with e | e
    · subst e; exact Int.le_refl _
    · exact List.pairwise_iff_getElem.1 h i j (by omega) hj' e) l.length (by simp)
  refine ⟨this.1, fun x => ?_⟩
  show x ∈ Lib.compactUpTo l.toArray l.length ↔ _
  rw [this.2]
  constructor
  · rintro ⟨j, hj, e⟩
    rw [hg j hj, getD_lt hj] at e
    rw [← e]; exact List.getElem_mem hj
  · intro hx
    obtain ⟨j, hj, e⟩ := List.mem_iff_getElem.1 hx
    exact ⟨j, hj, by rw [hg j hj, getD_lt hj]; exact e⟩
theorem stepsF_sorted (w : Window) : (stepsF w).Pairwise (· < ·) ∧ ∀ x, x ∈ stepsF w ↔ x ∈ allSteps w.Frames := by
  have := compact_sorted _ (sortI_sorted (allSteps w.Frames))
  exact ⟨this.1, fun x => by unfold stepsF; rw [this.2, sortI_mem]⟩
def insU (n : Int) (out : List Int) : List Int :=
  if (out.takeWhile (fun x => decide (x < n))).length = out.length ∨ out.getD (out.takeWhile (fun x => decide (x < n))).length 0 ≠ n then out.takeWhile (fun x => decide (x < n)) ++ n :: out.drop (out.takeWhile (fun x => decide (x < n))).length else out
def insAll (out : List Int) (l : List Int) : List Int := l.foldl (fun o n => insU n o) out
theorem insU_ok (n : Int) (out : List Int) (h : out.Pairwise (· < ·)) : (insU n out).Pairwise (· < ·) ∧ ∀ x, x ∈ insU n out ↔ x = n ∨ x ∈ out := by
  unfold insU
  generalize hp : (fun x : Int => decide (x < n)) = p
  have hpx : ∀ x, p x = true ↔ x < n := fun x => by rw [← hp]; simp
  have hsp : out.takeWhile p ++ out.dropWhile p = out := List.takeWhile_append_dropWhile
  have hdr : out.drop (out.takeWhile p).length = out.dropWhile p := by
    conv => lhs; rw [← hsp]
    rw [List.drop_left' (by simp)]
  have htk : ∀ x ∈ out.takeWhile p, x < n := fun x hx => (hpx x).1 (List.all_eq_true.1 List.all_takeWhile x hx)
  have hall := h
  rw [← hsp, List.pairwise_append] at hall
  rw [hdr]
  generalize hd : out.dropWhile p = d at *
  generalize out.takeWhile p = t at *
  have hhd : ∀ a r, d = a :: r → n ≤ a := fun a r e => by
    rcases Int.lt_or_le a n with h1 | h1
    · have := List.head_dropWhile_not p (l := out) (by rw [hd, e]; simp)
      simp only [hd, e, List.head_cons] at this
      rw [(hpx a).2 h1] at this; cases this
    · exact h1
  have hdn : d ≠ [] → out.getD t.length 0 = d.headD 0 := fun hne => by
    rw [← hsp, List.getD_eq_getElem?_getD, List.getElem?_append_right (Nat.le_refl _), Nat.sub_self]
    cases d with
    | nil => exact absurd rfl hne
    | cons a r => rfl
  split
  · rename_i hc
    have hlt : ∀ x ∈ d, n < x := fun x hx => by
      cases d with
      | nil => simp at hx
      | cons a r =>
        have h1 := hhd a r rfl
        have h2 : a ≠ n := by
          rcases hc with hc | hc
          · have := congrArg List.length hsp; simp at this; omega
          · rw [hdn (by simp)] at hc; exact hc
        rcases List.mem_cons.1 hx with rfl | hx
        · omega
        · have := (List.pairwise_cons.1 hall.2.1).1 x hx; omega
    refine ⟨List.pairwise_append.2 ⟨hall.1, List.pairwise_cons.2 ⟨hlt, hall.2.1⟩, fun x hx y hy => ?_⟩, fun x => ?_⟩
    · rcases List.mem_cons.1 hy with rfl | hy
      · exact htk x hx
      · exact hall.2.2 x hx y hy
    · rw [← hsp]; simp only [List.mem_append, List.mem_cons]
      constructor
      · rintro (h | h | h) <;> simp [h]
      · rintro (h | h | h) <;> simp [h]
  · rename_i hc
    refine ⟨h, fun x => ?_⟩
    constructor
    · intro hx; exact .inr hx
    · rintro (rfl | hx)
      · have h1 : t.length ≠ out.length ∧ out.getD t.length 0 = x := ⟨fun h => hc (.inl h), Classical.byContradiction fun h => hc (.inr h)⟩
        have hne : d ≠ [] := fun h0 => h1.1 (by have := congrArg List.length hsp; rw [h0] at this; simpa using this)
        rw [hdn hne] at h1
        cases d with
        | nil => exact absurd rfl hne
        | cons a r => rw [← hsp, ← h1.2]; simp
      · exact hx
theorem insAll_ok : ∀ (l out : List Int), out.Pairwise (· < ·) → (insAll out l).Pairwise (· < ·) ∧ ∀ x, x ∈ insAll out l ↔ x ∈ l ∨ x ∈ out
  | [], out, h => ⟨h, fun x => by simp [insAll]⟩
  | n :: l, out, h => by
    have h1 := insU_ok n out h
    have h2 := insAll_ok l (insU n out) h1.1
    refine ⟨h2.1, fun x => ?_⟩
    show x ∈ insAll (insU n out) l ↔ _
    rw [h2.2, h1.2, List.mem_cons]
    constructor
    · rintro (h | h | h) <;> simp [h]
    · rintro ((h | h) | h) <;> simp [h]
theorem insAll_steps (w : Window) : insAll [] (allSteps w.Frames) = stepsF w := by
  have h1 := insAll_ok (allSteps w.Frames) [] (by simp)
  have h2 := stepsF_sorted w
  exact sorted_ext h1.1 h2.1 fun x => by rw [h1.2, h2.2]; simp
end Go.Gx
end
section
namespace Go.Gx
open Go.Proofs
def E63 : Env := { T := Tz.tab, G := Gl, C := [], live := [(0, [0]), (1, [0, 3]), (2, [0, 3, 7]), (3, [0, 3]), (4, [0, 3, 19]), (5, [2]), (6, [2])] }
def ct63 : Ct := .scal (dom1 tStr (fun s => True)) (fn1 tStr fun s => [tBool.enc (lowOk s)])
attribute [go_sem] E63 ct63 Go.Proofs.Tryz.f63
theorem ok63 : CtOk Tryz.prog Gl 63 ct63 := okA1 (E := E63) (sound_of Tz.tab_ok Tz.mixed AllOk.nil) rfl Tryz.func63 (by kernel_rfl) fun s fs hp => by
  have fs := fit_str fs
  refine vcFn_intro rfl rfl (by kernel_rfl) rfl ?_
  repeat (dsimp +instances only [go_sem, Nat.reduceBEq, Nat.reduceAdd, Nat.reduceSub, Nat.reduceLT, Nat.reduceLeDiff]; try simp only [bb, Nat.reduceAdd, Int.reduceToNat, Int.reduceLE, Int.reduceLT, Nat.reduceLT, Nat.reduceMul, Nat.reduceLeDiff])
  refine vcC_loop [0, 3] (fun (i : Nat) => i ≤ s.length ∧ ∀ c ∈ s.take i, 97 ≤ c.toNat ∧ c.toNat ≤ 122) (fun i => [.cv (.str s), .cv (.int .i64 i)]) (fun _ => []) (fun i => s.length - i) 0 (by simp) ⟨rfl, rfl⟩ ?_
  rintro i ⟨hi, he⟩
  have hlo : lowOk s = decide (s.length ≤ 8 ∧ ∀ c ∈ s, 97 ≤ c.toNat ∧ c.toNat ≤ 122) := rfl
  rcases Nat.lt_or_ge i s.length with hlt | hge
  · repeat (dsimp +instances only [go_sem, Nat.reduceBEq, Nat.reduceAdd, Nat.reduceSub, Nat.reduceLT, Nat.reduceLeDiff]; try simp only [bb, Nat.reduceAdd, Int.reduceToNat, Int.reduceLE, Int.reduceLT, Nat.reduceLT, Nat.reduceMul, Nat.reduceLeDiff])
    try simp only [nn, reduceCtorEq, hlt, decide_true]
    refine ⟨fun _ => trivial, fun h => ?_, fun h => ⟨by omega, nextL_intro (i + 1) ⟨by omega, fun c hc => ?_⟩ (by omega) rfl rfl⟩⟩
    · rw [hlo, eq_comm, decide_eq_false_iff_not]
      rintro ⟨_, h2⟩
      have := h2 s[i] (List.getElem_mem hlt)
      omega
    · rw [take_snoc hlt, List.mem_append, List.mem_singleton] at hc
      rcases hc with hc | rfl
      · exact he c hc
      · omega
  · have : i = s.length := by omega
    subst this
    rw [List.take_length] at he
    repeat (dsimp +instances only [go_sem, Nat.reduceBEq, Nat.reduceAdd, Nat.reduceSub, Nat.reduceLT, Nat.reduceLeDiff]; try simp only [bb, Nat.reduceAdd, Int.reduceToNat, Int.reduceLE, Int.reduceLT, Nat.reduceLT, Nat.reduceMul, Nat.reduceLeDiff])
    try simp only [nn, reduceCtorEq, Nat.lt_irrefl]
    rw [hlo]
    exact fun _ => decide_eq_decide.2 ⟨fun h => ⟨by omega, he⟩, fun h => by omega⟩
def E112 : Env := { T := Tz.tab, G := Gl, C := [], live := [(0, [1, 2]), (1, [1, 2, 5]), (2, [1, 2, 5, 11]), (3, [1, 2, 5]), (4, [1, 2, 5, 6]), (5, [1, 2, 5, 6, 22]), (6, [1, 2, 5, 6]), (7, [1, 2, 5, 6, 36]), (8, [4]), (9, [4])] }
def ct112 : Ct := .scal (dom2 tWindow tInt (fun w doc => True)) (fn2 tWindow tInt fun w doc => [tInt.enc (ownerF w doc)])
attribute [go_sem] E112 ct112 Go.Proofs.Tryz.f112
theorem ok112 : CtOk Tryz.prog Gl 112 ct112 := okA2 (E := E112) (sound_of Tz.tab_ok Tz.mixed AllOk.nil) rfl Tryz.func112 (by kernel_rfl) fun w doc fw fdoc hp => by
  have gw := fw
  have fw := fit_window fw
  have fdoc := fit_int fdoc
  refine vcFn_intro rfl rfl (by kernel_rfl) rfl ?_
  have fH : ∀ f ∈ w.Frames, Fit f.Hist.length := fun f hf => (FrameFit_el (WindowFit.Frames (fit_window gw)).2 hf).Hist.1
  have fF := (WindowFit.Frames (fit_window gw)).1
  repeat (dsimp +instances only [go_sem, Nat.reduceBEq, Nat.reduceAdd, Nat.reduceSub, Nat.reduceLT, Nat.reduceLeDiff]; try simp only [bb, Nat.reduceAdd, Int.reduceToNat, Int.reduceLE, Int.reduceLT, Nat.reduceLT, Nat.reduceMul, Nat.reduceLeDiff])
  refine vcC_loop [1, 2, 5] (fun (i : Nat) => i ≤ w.Frames.length ∧ i + (w.Frames.drop i).findIdx (hasDoc doc) = w.Frames.findIdx (hasDoc doc)) (fun i => [.cv (.int .i64 doc), .ptr 0 4 0 0, .cv (.int .i64 i)]) (fun _ => [.boxT 0 [.cv (.sl 4 (w.Frames.map rFrame.enc)), .cv (.int .i64 w.Step), .cv (.int .i64 w.NextDoc), .cv (.int .i64 w.NextKey)]]) (fun i => w.Frames.length - i) 0 (by simp) ⟨rfl, rfl⟩ ?_
  rintro i ⟨hi, he⟩
  rcases Nat.lt_or_ge i w.Frames.length with hlt | hge
  · have hg := getD_at rFrame hlt
    have hgo := fI_go _ w.Frames i hlt he
    have hfit := fH _ (List.getElem_mem hlt)
    have hd : hasDoc doc w.Frames[i] = w.Frames[i].Hist.any (fun e => decide (e.Doc = doc)) := rfl
    generalize hf : w.Frames[i] = f at *
    try dsimp +instances only [go_sem, Nat.reduceBEq, Nat.reduceAdd, Nat.reduceSub, Nat.reduceLT, Nat.reduceLeDiff]
    repeat (simp only [hg, rFrame_enc, Int.toNat_natCast, bb, Nat.reduceAdd, Int.reduceToNat, Int.reduceLE, Int.reduceLT, Nat.reduceLT, Nat.reduceMul, Nat.reduceLeDiff]; try dsimp +instances only [go_sem, Nat.reduceBEq, Nat.reduceAdd, Nat.reduceSub, Nat.reduceLT, Nat.reduceLeDiff])
    try simp only [nn, reduceCtorEq, hlt, decide_true]
    refine vcC_loop [1, 2, 5, 6] (fun (j : Nat) => j ≤ f.Hist.length ∧ j + (f.Hist.drop j).findIdx (fun e => decide (e.Doc = doc)) = f.Hist.findIdx (fun e => decide (e.Doc = doc))) (fun j => [.cv (.int .i64 doc), .ptr 0 4 0 0, .cv (.int .i64 i), .cv (.int .i64 j)]) (fun _ => [.boxT 0 [.cv (.sl 4 (w.Frames.map rFrame.enc)), .cv (.int .i64 w.Step), .cv (.int .i64 w.NextDoc), .cv (.int .i64 w.NextKey)]]) (fun j => f.Hist.length - j) 0 (by simp) ⟨rfl, rfl⟩ ?_
    rintro j ⟨hj, hje⟩
    rcases Nat.lt_or_ge j f.Hist.length with hjlt | hjge
    · have hg2 := getD_at rEntry hjlt
      have hgo2 := fI_go _ f.Hist j hjlt hje
      try dsimp +instances only [go_sem, Nat.reduceBEq, Nat.reduceAdd, Nat.reduceSub, Nat.reduceLT, Nat.reduceLeDiff]
      repeat (simp only [hg, rFrame_enc, hg2, rEntry_enc, Int.toNat_natCast, bb, Nat.reduceAdd, Int.reduceToNat, Int.reduceLE, Int.reduceLT, Nat.reduceLT, Nat.reduceMul, Nat.reduceLeDiff]; try dsimp +instances only [go_sem, Nat.reduceBEq, Nat.reduceAdd, Nat.reduceSub, Nat.reduceLT, Nat.reduceLeDiff])
      try simp only [nn, reduceCtorEq, hlt, hjlt, decide_true]
      refine ⟨fun h => ?_, fun h => ⟨by omega, nextL_intro (j + 1) ⟨by omega, hgo2.2 (by simpa using h)⟩ (by omega) rfl rfl⟩⟩
      have hyes : hasDoc doc f = true := by
        rw [hd]
        exact List.any_eq_true.2 ⟨f.Hist[j], List.getElem_mem hjlt, by simpa using h⟩
      exact (hgo.1 hyes).symm
    · have : j = f.Hist.length := by omega
      subst this
      have he2 := fI_end _ f.Hist hje
      try dsimp +instances only [go_sem, Nat.reduceBEq, Nat.reduceAdd, Nat.reduceSub, Nat.reduceLT, Nat.reduceLeDiff]
      repeat (simp only [hg, rFrame_enc, Int.toNat_natCast, bb, Nat.reduceAdd, Int.reduceToNat, Int.reduceLE, Int.reduceLT, Nat.reduceLT, Nat.reduceMul, Nat.reduceLeDiff]; try dsimp +instances only [go_sem, Nat.reduceBEq, Nat.reduceAdd, Nat.reduceSub, Nat.reduceLT, Nat.reduceLeDiff])
      try simp only [nn, reduceCtorEq, hlt, Nat.lt_irrefl]
      have hno : hasDoc doc f = false := by
        rw [hd]
        cases hany : f.Hist.any (fun e => decide (e.Doc = doc)) with
        | false => rfl
        | true => have := (fI_any _ _).2 hany; omega
      exact fun _ => ⟨by omega, nextL_intro (i + 1) ⟨by omega, hgo.2 hno⟩ (by omega) rfl rfl⟩
  · have : i = w.Frames.length := by omega
    subst this
    have := fI_end _ w.Frames he
    repeat (dsimp +instances only [go_sem, Nat.reduceBEq, Nat.reduceAdd, Nat.reduceSub, Nat.reduceLT, Nat.reduceLeDiff]; try simp only [bb, Nat.reduceAdd, Int.reduceToNat, Int.reduceLE, Int.reduceLT, Nat.reduceLT, Nat.reduceMul, Nat.reduceLeDiff])
    try simp only [nn, reduceCtorEq, Nat.lt_irrefl]
    exact fun _ => this.symm
def E65 : Env := { T := Tz.tab, G := Gl, C := [(112, ct112)], live := [(0, [1, 2]), (1, [1, 2, 5]), (2, [1, 2, 5, 12]), (3, [1, 2, 5]), (4, [1, 2, 5]), (5, [1, 2, 5, 28]), (6, [4]), (7, [4])] }
def ct65 : Ct := .scal (dom2 tWindow tInt (fun w f => 0 ≤ f ∧ f < w.Frames.length)) (fn2 tWindow tInt fun w f => [tInt.enc (sdeepF w f)])
attribute [go_sem] E65 ct65 Go.Proofs.Tryz.f65
theorem ok65 : CtOk Tryz.prog Gl 65 ct65 := okA2 (E := E65) (sound_of Tz.tab_ok Tz.mixed (AllOk.cons ok112 AllOk.nil)) rfl Tryz.func65 (by kernel_rfl) fun w f fw ff hp => by
  have gw := fw
  have fw := fit_window fw
  have ff := fit_int ff
  refine vcFn_intro rfl rfl (by kernel_rfl) rfl ?_
  have fF := (WindowFit.Frames (fit_window gw)).1
  repeat (dsimp +instances only [go_sem, Nat.reduceBEq, Nat.reduceAdd, Nat.reduceSub, Nat.reduceLT, Nat.reduceLeDiff]; try simp only [bb, Nat.reduceAdd, Int.reduceToNat, Int.reduceLE, Int.reduceLT, Nat.reduceLT, Nat.reduceMul, Nat.reduceLeDiff])
  refine vcC_loop [1, 2, 5] (fun (x : Nat × Int × Int) => x.1 ≤ 3 ∧ x.2.2 = 4 - (x.1 : Int) ∧ x.2.2 ≤ 3 ∧ 0 ≤ x.2.1 ∧ x.2.1 < w.Frames.length ∧ sdeepGo w x.1 x.2.1 x.2.2 = sdeepF w f) (fun x => [.cv (.int .i64 x.2.1), .ptr 0 4 0 0, .cv (.int .i64 x.2.2)]) (fun _ => [.boxT 0 [.cv (.sl 4 (w.Frames.map rFrame.enc)), .cv (.int .i64 w.Step), .cv (.int .i64 w.NextDoc), .cv (.int .i64 w.NextKey)]]) (fun x => x.1) (3, f, 1) ⟨by simp, by simp, by simp, hp.1, hp.2, rfl⟩ ⟨rfl, rfl⟩ ?_
  rintro ⟨k, g, n⟩ ⟨hk, hn, hn3, hg0, hg, he⟩
  simp only at hk hn hn3 hg0 hg he
  obtain ⟨m, rfl⟩ : ∃ m : Nat, g = m := ⟨g.toNat, by omega⟩
  obtain ⟨k, rfl⟩ : ∃ j, k = j + 1 := ⟨k - 1, by omega⟩
  have hlt : m < w.Frames.length := by omega
  have hgd := getD_at rFrame hlt
  rw [sdeepGo, frA_eq w m hlt] at he
  have hl := owner_lt w w.Frames[m].Within
  generalize w.Frames[m] = fr at *
  by_cases hc : fr.Within = 0
  · rw [if_pos hc] at he
    try dsimp +instances only [go_sem, Nat.reduceBEq, Nat.reduceAdd, Nat.reduceSub, Nat.reduceLT, Nat.reduceLeDiff]
    repeat (simp only [hgd, rFrame_enc, Int.toNat_natCast, hc, bb, Nat.reduceAdd, Int.reduceToNat, Int.reduceLE, Int.reduceLT, Nat.reduceLT, Nat.reduceMul, Nat.reduceLeDiff]; try dsimp +instances only [go_sem, Nat.reduceBEq, Nat.reduceAdd, Nat.reduceSub, Nat.reduceLT, Nat.reduceLeDiff])
    try simp only [nn, reduceCtorEq, hlt, decide_true]
    exact he
  · rw [if_neg hc] at he
    try dsimp +instances only [go_sem, Nat.reduceBEq, Nat.reduceAdd, Nat.reduceSub, Nat.reduceLT, Nat.reduceLeDiff]
    repeat (simp only [hgd, rFrame_enc, Int.toNat_natCast, bb, Nat.reduceAdd, Int.reduceToNat, Int.reduceLE, Int.reduceLT, Nat.reduceLT, Nat.reduceMul, Nat.reduceLeDiff]; try dsimp +instances only [go_sem, Nat.reduceBEq, Nat.reduceAdd, Nat.reduceSub, Nat.reduceLT, Nat.reduceLeDiff])
    try simp only [nn, reduceCtorEq, hlt, decide_true, hc]
    generalize ownerF w fr.Within = o at *
    by_cases ho : o < 0 ∨ 3 < n + 1
    · rw [if_pos ho] at he
      grind
    · rw [if_neg ho] at he
      refine fun _ => ⟨by omega, fun h => absurd h ho, fun _ => nextL_intro (k, o, n + 1) ⟨by simp only; omega, by simp only; omega, by simp only; omega, by simp only; omega, by simp only; omega, he⟩ (by simp only; omega) rfl rfl⟩
def E111 : Env := { T := Tz.tab, G := Gl, C := [(44, ct44), (151, ct151)], live := [(0, [1]), (1, [2])] }
def ct111 : Ct := .scal (dom1 tEntry (fun e => urlSz e.Url ≤ 16777216)) (fn1 tEntry fun e => [tBool.enc (entOk e)])
attribute [go_sem] E111 ct111 Go.Proofs.Tryz.f111
theorem ok111 : CtOk Tryz.prog Gl 111 ct111 := okA1 (E := E111) (sound_of Tz.tab_ok Tz.mixed (AllOk.cons ok44 (AllOk.cons ok151 AllOk.nil))) rfl Tryz.func111 (by kernel_rfl) fun e fe hp => by
  have ge := fe
  have fe := fit_entry fe
  refine vcFn_intro rfl rfl (by kernel_rfl) rfl ?_
  repeat (dsimp +instances only [go_sem, Nat.reduceBEq, Nat.reduceAdd, Nat.reduceSub, Nat.reduceLT, Nat.reduceLeDiff]; try simp only [bb, Nat.reduceAdd, Int.reduceToNat, Int.reduceLE, Int.reduceLT, Nat.reduceLT, Nat.reduceMul, Nat.reduceLeDiff])
  try simp only [nn, reduceCtorEq]
  simp only [entOk]
  grind
def lastS (l : List Entry) (i : Nat) : Int := if i = 0 then -1 else (l.getD (i - 1) default).Step
def E64 : Env := { T := Tz.tab, G := Gl, C := [(111, ct111)], live := [(0, [0]), (1, [0, 3]), (2, [0, 3, 8]), (3, [0, 3]), (4, [0, 3, 34]), (5, [2]), (6, [0, 3, 4]), (7, [0, 3, 4, 37]), (8, [0, 3, 4]), (9, [0, 3, 4, 50]), (10, [2]), (11, [2])] }
def ct64 : Ct := .scal (dom1 tEntryS (fun l => smallH l)) (fn1 tEntryS fun l => [tBool.enc (histOk l)])
attribute [go_sem] E64 ct64 Go.Proofs.Tryz.f64
set_option maxHeartbeats 4000000 in
theorem ok64 : CtOk Tryz.prog Gl 64 ct64 := okA1 (E := E64) (sound_of Tz.tab_ok Tz.mixed (AllOk.cons ok111 AllOk.nil)) rfl Tryz.func64 (by kernel_rfl) fun l fl hp => by
  have gl := fl
  have fl := fit_list fl
  refine vcFn_intro rfl rfl (by kernel_rfl) rfl ?_
  have hho : histOk l = (histGo [] (-1) l && decide (l.length ≤ 20)) := rfl
  repeat (dsimp +instances only [go_sem, Nat.reduceBEq, Nat.reduceAdd, Nat.reduceSub, Nat.reduceLT, Nat.reduceLeDiff]; try simp only [bb, Nat.reduceAdd, Int.reduceToNat, Int.reduceLE, Int.reduceLT, Nat.reduceLT, Nat.reduceMul, Nat.reduceLeDiff])
  refine vcC_loop [0, 3] (fun (i : Nat) => i ≤ l.length ∧ histGo ((l.take i).map (·.Key)) (lastS l i) (l.drop i) = histGo [] (-1) l) (fun i => [.cv (.sl 17 (l.map rEntry.enc)), .cv (.int .i64 i)]) (fun _ => []) (fun i => l.length - i) 0 (by simp [lastS]) ⟨rfl, rfl⟩ ?_
  rintro i ⟨hi, he⟩
  rcases Nat.lt_or_ge i l.length with hlt | hge
  · have hg := getD_at rEntry hlt
    have hu := hp l[i] (List.getElem_mem hlt)
    have hkk := take_keys l i hlt
    rw [List.drop_eq_getElem_cons hlt, histGo, ← hkk] at he
    have hls : lastS l (i + 1) = l[i].Step := by unfold lastS; rw [if_neg (by omega), Nat.add_sub_cancel, getD_lt hlt]
    rw [← hls] at he
    have h1 : i - 1 < l.length := by omega
    have hg2 := getD_at rEntry h1
    have hq : 0 < i → l[i - 1].Step = lastS l i := fun h0 => by
      unfold lastS; rw [if_neg (by omega), getD_lt h1]
    have hq0 : i = 0 → lastS l i = -1 := fun h0 => by unfold lastS; rw [if_pos h0]
    have hks := keyAt_seen l i hlt
    generalize l[i - 1] = q at *
    generalize l[i] = e at *
    try dsimp +instances only [go_sem, Nat.reduceBEq, Nat.reduceAdd, Nat.reduceSub, Nat.reduceLT, Nat.reduceLeDiff]
    repeat (simp only [hg, hg2, rEntry_enc, Int.toNat_natCast, bb, Nat.reduceAdd, Int.reduceToNat, Int.reduceLE, Int.reduceLT, Nat.reduceLT, Nat.reduceMul, Nat.reduceLeDiff]; try dsimp +instances only [go_sem, Nat.reduceBEq, Nat.reduceAdd, Nat.reduceSub, Nat.reduceLT, Nat.reduceLeDiff])
    try simp only [nn, reduceCtorEq, hlt, decide_true]
    have hst0 : entOk e = true → 0 ≤ e.Step := fun h => by
      unfold entOk at h; simp only [Bool.and_eq_true, decide_eq_true_iff] at h; exact h.1.1.1.1.1
    refine ⟨hu, fun _ => by omega, fun _ => by omega, fun _ => trivial, fun a b => ⟨a, b⟩, fun h => ?_, fun h => ?_⟩
    · have : (decide (lastS l i < lastS l (i + 1)) && entOk e && !decide (e.Key ∈ List.map (fun x => x.Key) (List.take i l))) = false := by
        rw [hls]; rcases h with h | h
        · rw [Bool.not_eq_true'] at h; rw [h]; simp
        · have := hq (by omega); rw [decide_eq_false (show ¬ lastS l i < e.Step by omega)]; rfl
      rw [hho, ← he, this]; rfl
    · have hlo : decide (lastS l i < lastS l (i + 1)) = true := by
        rw [hls]
        have := hst0 h.1
        rcases Nat.eq_zero_or_pos i with h0 | h0
        · have := hq0 h0; simp; omega
        · have := hq h0; simp; omega
      rw [hlo, h.1, Bool.true_and, Bool.true_and] at he
      refine vcC_loop [0, 3, 4] (fun (k : Nat) => k ≤ i ∧ ∀ x ∈ l.take k, x.Key ≠ e.Key) (fun k => [.cv (.sl 17 (l.map rEntry.enc)), .cv (.int .i64 i), .cv (.int .i64 k)]) (fun _ => []) (fun k => i - k) 0 (by simp) ⟨rfl, rfl⟩ ?_
      rintro k ⟨hk, hke⟩
      rcases Nat.lt_or_ge k i with hklt | hkge
      · have hkl : k < l.length := by omega
        have hg3 := getD_at rEntry hkl
        have hmem : l[k] ∈ l.take i := List.mem_take_iff_getElem.2 ⟨k, by omega, rfl⟩
        have htk := take_snoc hkl
        generalize l[k] = x at *
        try dsimp +instances only [go_sem, Nat.reduceBEq, Nat.reduceAdd, Nat.reduceSub, Nat.reduceLT, Nat.reduceLeDiff]
        repeat (simp only [hg, hg3, rEntry_enc, Int.toNat_natCast, bb, Nat.reduceAdd, Int.reduceToNat, Int.reduceLE, Int.reduceLT, Nat.reduceLT, Nat.reduceMul, Nat.reduceLeDiff]; try dsimp +instances only [go_sem, Nat.reduceBEq, Nat.reduceAdd, Nat.reduceSub, Nat.reduceLT, Nat.reduceLeDiff])
        try simp only [nn, reduceCtorEq, hlt, hkl, hklt, decide_true]
        refine ⟨fun h => ?_, fun h => ⟨by omega, nextL_intro (k + 1) ⟨by omega, fun y hy => ?_⟩ (by omega) rfl rfl⟩⟩
        · have : e.Key ∈ List.map (fun x => x.Key) (List.take i l) := List.mem_map.2 ⟨x, hmem, h⟩
          rw [decide_eq_true this] at he
          rw [hho, ← he]; rfl
        · rw [htk, List.mem_append, List.mem_singleton] at hy
          rcases hy with hy | rfl
          · exact hke y hy
          · exact h
      · have : k = i := by omega
        subst this
        have hno : ¬ e.Key ∈ List.map (fun x => x.Key) (List.take k l) := fun h => by
          obtain ⟨x, hx, hxe⟩ := List.mem_map.1 h
          exact hke x hx hxe
        rw [decide_eq_false hno] at he
        repeat (dsimp +instances only [go_sem, Nat.reduceBEq, Nat.reduceAdd, Nat.reduceSub, Nat.reduceLT, Nat.reduceLeDiff]; try simp only [bb, Nat.reduceAdd, Int.reduceToNat, Int.reduceLE, Int.reduceLT, Nat.reduceLT, Nat.reduceMul, Nat.reduceLeDiff])
        try simp only [nn, reduceCtorEq, Nat.lt_irrefl]
        exact fun _ => ⟨by omega, nextL_intro (k + 1) ⟨by omega, he⟩ (by omega) rfl rfl⟩
  · have : i = l.length := by omega
    subst this
    rw [List.drop_length, histGo] at he
    repeat (dsimp +instances only [go_sem, Nat.reduceBEq, Nat.reduceAdd, Nat.reduceSub, Nat.reduceLT, Nat.reduceLeDiff]; try simp only [bb, Nat.reduceAdd, Int.reduceToNat, Int.reduceLE, Int.reduceLT, Nat.reduceLT, Nat.reduceMul, Nat.reduceLeDiff])
    try simp only [nn, reduceCtorEq, Nat.lt_irrefl]
    intro _
    rw [hho, ← he, Bool.true_and]
    exact decide_eq_decide.2 (by omega)
def E62 : Env := { T := Tz.tab, G := Gl, C := [], live := [(0, [1]), (1, [1, 3]), (2, [1, 3, 12]), (3, [1, 3]), (4, [1, 3, 4]), (5, [1, 3, 4, 23]), (6, [1, 3, 4]), (7, [1, 3, 4, 5]), (8, [1, 3, 4, 5, 56]), (9, [2]), (10, [1, 3, 4, 5, 6]), (11, [1, 3, 4, 5, 6, 59]), (12, [1, 3, 4, 5, 6]), (13, [1, 3, 4, 5, 6, 7]), (14, [1, 3, 4, 5, 6, 7, 70]), (15, [1, 3, 4, 5, 6, 7]), (16, [1, 3, 4, 5, 6, 7, 100]), (17, [2]), (18, [2])] }
def ct62 : Ct := .scal (dom1 tWindow (fun w => True)) (fn1 tWindow fun w => [tBool.enc (apartF w)])
attribute [go_sem] E62 ct62 Go.Proofs.Tryz.f62
set_option maxHeartbeats 8000000 in
theorem ok62 : CtOk Tryz.prog Gl 62 ct62 := okA1 (E := E62) (sound_of Tz.tab_ok Tz.mixed AllOk.nil) rfl Tryz.func62 (by kernel_rfl) fun w fw hp => by
  have gw := fw
  have fw := fit_window fw
  refine vcFn_intro rfl rfl (by kernel_rfl) rfl ?_
  have fH : ∀ f ∈ w.Frames, Fit f.Hist.length := fun f hf => (FrameFit_el (WindowFit.Frames (fit_window gw)).2 hf).Hist.1
  have fF := (WindowFit.Frames (fit_window gw)).1
  have hA : apartF w = (List.range w.Frames.length).all (apF w) := rfl
  repeat (dsimp +instances only [go_sem, Nat.reduceBEq, Nat.reduceAdd, Nat.reduceSub, Nat.reduceLT, Nat.reduceLeDiff]; try simp only [bb, Nat.reduceAdd, Int.reduceToNat, Int.reduceLE, Int.reduceLT, Nat.reduceLT, Nat.reduceMul, Nat.reduceLeDiff])
  refine vcC_loop [1, 3] (fun (i : Nat) => i ≤ w.Frames.length ∧ ∀ k < i, apF w k = true) (fun i => [.ptr 0 4 0 0, .cv (.int .i64 i)]) (fun _ => [.boxT 0 [.cv (.sl 4 (w.Frames.map rFrame.enc)), .cv (.int .i64 w.Step), .cv (.int .i64 w.NextDoc), .cv (.int .i64 w.NextKey)]]) (fun i => w.Frames.length - i) 0 (by simp) ⟨rfl, rfl⟩ ?_
  rintro i ⟨hi, he⟩
  rcases Nat.lt_or_ge i w.Frames.length with hlt | hge
  · have hg := getD_at rFrame hlt
    have hfit := fH _ (List.getElem_mem hlt)
    have hF : apF w i = w.Frames[i].Hist.all (apE w i) := by unfold apF; rw [getD_lt hlt]
    generalize hf : w.Frames[i] = f at *
    try dsimp +instances only [go_sem, Nat.reduceBEq, Nat.reduceAdd, Nat.reduceSub, Nat.reduceLT, Nat.reduceLeDiff]
    repeat (simp only [hg, rFrame_enc, Int.toNat_natCast, bb, Nat.reduceAdd, Int.reduceToNat, Int.reduceLE, Int.reduceLT, Nat.reduceLT, Nat.reduceMul, Nat.reduceLeDiff]; try dsimp +instances only [go_sem, Nat.reduceBEq, Nat.reduceAdd, Nat.reduceSub, Nat.reduceLT, Nat.reduceLeDiff])
    try simp only [nn, reduceCtorEq, hlt, decide_true]
    refine vcC_loop [1, 3, 4] (fun (k : Nat) => k ≤ f.Hist.length ∧ (f.Hist.take k).all (apE w i) = true) (fun k => [.ptr 0 4 0 0, .cv (.int .i64 i), .cv (.int .i64 k)]) (fun _ => [.boxT 0 [.cv (.sl 4 (w.Frames.map rFrame.enc)), .cv (.int .i64 w.Step), .cv (.int .i64 w.NextDoc), .cv (.int .i64 w.NextKey)]]) (fun k => f.Hist.length - k) 0 (by simp) ⟨rfl, rfl⟩ ?_
    rintro k ⟨hk, hke⟩
    rcases Nat.lt_or_ge k f.Hist.length with hklt | hkge
    · have hg2 := getD_at rEntry hklt
      have hno : apE w i f.Hist[k] = false → apartF w = false := fun h => by
        rw [hA, List.all_eq_false]; exact ⟨i, List.mem_range.2 hlt, by rw [hF, all_no hklt h]; simp⟩
      have hgo := all_go (p := apE w i) hklt hke
      have hEq : apE w i f.Hist[k] = (rgB w f.Hist[k] && (w.Frames.take i).all (apB f.Hist[k])) := rfl
      have hRq : rgB w f.Hist[k] = decide (1 ≤ f.Hist[k].Doc ∧ f.Hist[k].Doc < w.NextDoc ∧ 1 ≤ f.Hist[k].Key ∧ f.Hist[k].Key < w.NextKey) := rfl
      generalize f.Hist[k] = e at *
      try dsimp +instances only [go_sem, Nat.reduceBEq, Nat.reduceAdd, Nat.reduceSub, Nat.reduceLT, Nat.reduceLeDiff]
      repeat (simp only [hg, rFrame_enc, hg2, rEntry_enc, Int.toNat_natCast, bb, Nat.reduceAdd, Int.reduceToNat, Int.reduceLE, Int.reduceLT, Nat.reduceLT, Nat.reduceMul, Nat.reduceLeDiff]; try dsimp +instances only [go_sem, Nat.reduceBEq, Nat.reduceAdd, Nat.reduceSub, Nat.reduceLT, Nat.reduceLeDiff])
      try simp only [nn, reduceCtorEq, hlt, hklt, decide_true]
      refine ⟨fun h => ?_, fun h => ?_⟩
      · have : rgB w e = false := by rw [hRq, decide_eq_false_iff_not]; omega
        rw [hno (by rw [hEq, this]; rfl)]
      · have hr : rgB w e = true := by rw [hRq, decide_eq_true_iff]; omega
        rw [hr, Bool.true_and] at hEq
        refine vcC_loop [1, 3, 4, 5, 6] (fun (j : Nat) => j ≤ i ∧ (w.Frames.take j).all (apB e) = true) (fun j => [.ptr 0 4 0 0, .cv (.int .i64 i), .cv (.int .i64 k), .ptr 1 17 0 0, .cv (.int .i64 j)]) (fun _ => [.boxT 0 [.cv (.sl 4 (w.Frames.map rFrame.enc)), .cv (.int .i64 w.Step), .cv (.int .i64 w.NextDoc), .cv (.int .i64 w.NextKey)], .boxT 0 [.cv (.int .i64 e.Step), .cv (.str e.Url.Scheme), .cv (.str e.Url.User), .cv (.str e.Url.Pass), .cv (.int .i64 e.Url.Host.Kind), .cv (.str e.Url.Host.Name), .cv (.int .i64 e.Url.Host.Addr), .cv (.int .i64 e.Url.Port), .cv (.sl 1 (e.Url.Path.map rStr.enc)), .cv (.str e.Url.Opaque), .cv (.bool e.Url.HasQuery), .cv (.str e.Url.Query), .cv (.bool e.Url.HasFrag), .cv (.str e.Url.Frag), .cv (.int .i64 e.Doc), .cv (.int .i64 e.Key), .cv (.str e.State)]]) (fun j => i - j) 0 (by simp) ⟨rfl, rfl⟩ ?_
        rintro j ⟨hj, hje⟩
        rcases Nat.lt_or_ge j i with hjlt | hjge
        · have hjl : j < w.Frames.length := by omega
          have hg3 := getD_at rFrame hjl
          have hfit3 := fH _ (List.getElem_mem hjl)
          have hgo3 := all_go (p := apB e) hjl hje
          have hno3 : apB e w.Frames[j] = false → apE w i e = false := fun h => by
            rw [hEq, List.all_eq_false]; exact ⟨w.Frames[j], List.mem_take_iff_getElem.2 ⟨j, by omega, rfl⟩, by rw [h]; simp⟩
          have hB : apB e w.Frames[j] = w.Frames[j].Hist.all (fun x => decide (x.Doc ≠ e.Doc) && decide (x.Key ≠ e.Key)) := rfl
          generalize w.Frames[j] = g at *
          try dsimp +instances only [go_sem, Nat.reduceBEq, Nat.reduceAdd, Nat.reduceSub, Nat.reduceLT, Nat.reduceLeDiff]
          repeat (simp only [hg3, rFrame_enc, Int.toNat_natCast, bb, Nat.reduceAdd, Int.reduceToNat, Int.reduceLE, Int.reduceLT, Nat.reduceLT, Nat.reduceMul, Nat.reduceLeDiff]; try dsimp +instances only [go_sem, Nat.reduceBEq, Nat.reduceAdd, Nat.reduceSub, Nat.reduceLT, Nat.reduceLeDiff])
          try simp only [nn, reduceCtorEq, hlt, hjlt, decide_true]
          refine vcC_loop [1, 3, 4, 5, 6, 7] (fun (n : Nat) => n ≤ g.Hist.length ∧ (g.Hist.take n).all (fun x => decide (x.Doc ≠ e.Doc) && decide (x.Key ≠ e.Key)) = true) (fun n => [.ptr 0 4 0 0, .cv (.int .i64 i), .cv (.int .i64 k), .ptr 1 17 0 0, .cv (.int .i64 j), .cv (.int .i64 n)]) (fun _ => [.boxT 0 [.cv (.sl 4 (w.Frames.map rFrame.enc)), .cv (.int .i64 w.Step), .cv (.int .i64 w.NextDoc), .cv (.int .i64 w.NextKey)], .boxT 0 [.cv (.int .i64 e.Step), .cv (.str e.Url.Scheme), .cv (.str e.Url.User), .cv (.str e.Url.Pass), .cv (.int .i64 e.Url.Host.Kind), .cv (.str e.Url.Host.Name), .cv (.int .i64 e.Url.Host.Addr), .cv (.int .i64 e.Url.Port), .cv (.sl 1 (e.Url.Path.map rStr.enc)), .cv (.str e.Url.Opaque), .cv (.bool e.Url.HasQuery), .cv (.str e.Url.Query), .cv (.bool e.Url.HasFrag), .cv (.str e.Url.Frag), .cv (.int .i64 e.Doc), .cv (.int .i64 e.Key), .cv (.str e.State)]]) (fun n => g.Hist.length - n) 0 (by simp) ⟨rfl, rfl⟩ ?_
          rintro n ⟨hn, hne⟩
          rcases Nat.lt_or_ge n g.Hist.length with hnlt | hnge
          · have hg4 := getD_at rEntry hnlt
            have hgo4 := all_go (p := fun x : Entry => decide (x.Doc ≠ e.Doc) && decide (x.Key ≠ e.Key)) hnlt hne
            have hno4 := all_no (p := fun x : Entry => decide (x.Doc ≠ e.Doc) && decide (x.Key ≠ e.Key)) hnlt
            generalize g.Hist[n] = x at *
            try dsimp +instances only [go_sem, Nat.reduceBEq, Nat.reduceAdd, Nat.reduceSub, Nat.reduceLT, Nat.reduceLeDiff]
            repeat (simp only [hg3, rFrame_enc, hg4, rEntry_enc, Int.toNat_natCast, bb, Nat.reduceAdd, Int.reduceToNat, Int.reduceLE, Int.reduceLT, Nat.reduceLT, Nat.reduceMul, Nat.reduceLeDiff]; try dsimp +instances only [go_sem, Nat.reduceBEq, Nat.reduceAdd, Nat.reduceSub, Nat.reduceLT, Nat.reduceLeDiff])
            try simp only [nn, reduceCtorEq, hjl, hnlt, decide_true]
            refine ⟨fun _ => trivial, fun _ => trivial, fun h => ?_, fun h => ⟨by omega, nextL_intro (n + 1) ⟨by omega, hgo4 (by simp [h.1, h.2])⟩ (by omega) rfl rfl⟩⟩
            rw [hno (hno3 (by rw [hB]; exact hno4 (by rcases h with h | h <;> simp [h])))]
          · have : n = g.Hist.length := by omega
            subst this
            rw [List.take_length] at hne
            try dsimp +instances only [go_sem, Nat.reduceBEq, Nat.reduceAdd, Nat.reduceSub, Nat.reduceLT, Nat.reduceLeDiff]
            repeat (simp only [hg3, rFrame_enc, Int.toNat_natCast, bb, Nat.reduceAdd, Int.reduceToNat, Int.reduceLE, Int.reduceLT, Nat.reduceLT, Nat.reduceMul, Nat.reduceLeDiff]; try dsimp +instances only [go_sem, Nat.reduceBEq, Nat.reduceAdd, Nat.reduceSub, Nat.reduceLT, Nat.reduceLeDiff])
            try simp only [nn, reduceCtorEq, hjl, Nat.lt_irrefl]
            exact fun _ => ⟨by omega, nextL_intro (j + 1) ⟨by omega, hgo3 (by rw [hB]; exact hne)⟩ (by omega) rfl rfl⟩
        · have : j = i := by omega
          subst this
          repeat (dsimp +instances only [go_sem, Nat.reduceBEq, Nat.reduceAdd, Nat.reduceSub, Nat.reduceLT, Nat.reduceLeDiff]; try simp only [bb, Nat.reduceAdd, Int.reduceToNat, Int.reduceLE, Int.reduceLT, Nat.reduceLT, Nat.reduceMul, Nat.reduceLeDiff])
          try simp only [nn, reduceCtorEq, Nat.lt_irrefl]
          exact fun _ => ⟨by omega, nextL_intro (k + 1) ⟨by omega, hgo (by rw [hEq]; exact hje)⟩ (by omega) rfl rfl⟩
    · have : k = f.Hist.length := by omega
      subst this
      rw [List.take_length] at hke
      try dsimp +instances only [go_sem, Nat.reduceBEq, Nat.reduceAdd, Nat.reduceSub, Nat.reduceLT, Nat.reduceLeDiff]
      repeat (simp only [hg, rFrame_enc, Int.toNat_natCast, bb, Nat.reduceAdd, Int.reduceToNat, Int.reduceLE, Int.reduceLT, Nat.reduceLT, Nat.reduceMul, Nat.reduceLeDiff]; try dsimp +instances only [go_sem, Nat.reduceBEq, Nat.reduceAdd, Nat.reduceSub, Nat.reduceLT, Nat.reduceLeDiff])
      try simp only [nn, reduceCtorEq, hlt, Nat.lt_irrefl]
      exact fun _ => ⟨by omega, nextL_intro (i + 1) ⟨by omega, fun j hj => by
        rcases Nat.lt_or_ge j i with h | h
        · exact he j h
        · obtain rfl : j = i := by omega
          rw [hF]; exact hke⟩ (by omega) rfl rfl⟩
  · have : i = w.Frames.length := by omega
    subst this
    repeat (dsimp +instances only [go_sem, Nat.reduceBEq, Nat.reduceAdd, Nat.reduceSub, Nat.reduceLT, Nat.reduceLeDiff]; try simp only [bb, Nat.reduceAdd, Int.reduceToNat, Int.reduceLE, Int.reduceLT, Nat.reduceLT, Nat.reduceMul, Nat.reduceLeDiff])
    try simp only [nn, reduceCtorEq, Nat.lt_irrefl]
    intro _
    rw [hA, eq_comm, List.all_eq_true]
    exact fun x hx => he x (List.mem_range.1 hx)
end Go.Gx
end
section
namespace Go.Gx
open Go.Proofs
theorem tw_go (p : Int → Bool) (l : List Int) (j : Nat) (hj : j ≤ (l.takeWhile p).length) (hl : j < l.length) : (p l[j] = true → j + 1 ≤ (l.takeWhile p).length) ∧ (p l[j] = false → j = (l.takeWhile p).length) := by
  have hsp : l.takeWhile p ++ l.dropWhile p = l := List.takeWhile_append_dropWhile
  have hall : ∀ x ∈ l.takeWhile p, p x = true := List.all_eq_true.1 List.all_takeWhile
  have hgj : l[j]? = (l.takeWhile p ++ l.dropWhile p)[j]? := by rw [hsp]
  rcases Nat.lt_or_ge j (l.takeWhile p).length with h | h
  · refine ⟨fun _ => h, fun h2 => ?_⟩
    rw [List.getElem?_append_left h, List.getElem?_eq_getElem hl, List.getElem?_eq_getElem h] at hgj
    injection hgj with hgj
    have := hall _ (List.getElem_mem h)
    rw [← hgj, h2] at this; cases this
  · have e : j = (l.takeWhile p).length := by omega
    refine ⟨fun h2 => ?_, fun _ => e⟩
    rw [List.getElem?_append_right h, List.getElem?_eq_getElem hl, show j - (l.takeWhile p).length = 0 by omega] at hgj
    cases hd : l.dropWhile p with
    | nil => rw [hd] at hgj; simp at hgj
    | cons a r =>
      rw [hd] at hgj
      simp only [List.getElem?_cons_zero] at hgj
      injection hgj with hgj
      have := List.head_dropWhile_not p (l := l) (by rw [hd]; simp)
      simp only [hd, List.head_cons] at this
      rw [← hgj, h2] at this; cases this
theorem insU_len (n : Int) (out : List Int) : (insU n out).length ≤ out.length + 1 := by
  have hsp : (out.takeWhile (fun x => decide (x < n))).length ≤ out.length := by
    have := congrArg List.length (List.takeWhile_append_dropWhile (p := fun x => decide (x < n)) (l := out))
    rw [List.length_append] at this; omega
  unfold insU
  split
  · rw [List.length_append, List.length_cons, List.length_drop]; omega
  · omega
theorem insAll_len : ∀ (l out : List Int), (insAll out l).length ≤ out.length + l.length
  | [], out => Nat.le_refl _
  | n :: l, out => by
    have h1 := insU_len n out
    have h2 := insAll_len l (insU n out)
    show (insAll (insU n out) l).length ≤ _
    rw [List.length_cons]; omega
theorem insAll_app (out a b : List Int) : insAll out (a ++ b) = insAll (insAll out a) b := by simp [insAll, List.foldl_append]
def E32 : Env := { T := Tz.tab, G := Gl, C := [], alt := [(13, some (.op 1 (.op 2 (.op 3 (.op 5 (.op 8 (.op 9 (.op 10 (.alt (.op 0 (.alt (.op 4 (.op 6 (.op 7 (.op 11 (.op 12 .done))))) (.op 6 (.op 4 (.op 7 (.op 11 (.op 12 .done))))))) (.op 6 (.op 0 (.op 4 (.op 7 (.op 11 (.op 12 .done)))))))))))))))], live := [(0, [1]), (1, [1, 3]), (2, [1, 3, 4]), (3, [1, 3, 4, 13]), (4, [1, 3, 4]), (5, [1, 3, 4, 5]), (6, [1, 3, 4, 5, 24]), (7, [1, 3, 4, 5]), (8, [1, 3, 4, 5, 6]), (9, [1, 3, 4, 5, 6, 7]), (10, [1, 3, 4, 5, 6, 7, 48]), (11, [1, 3, 4, 5, 6, 7]), (12, [1, 3, 4, 5, 6, 7, 62]), (13, [1, 3, 4, 5]), (14, [2])] }
def ct32 : Ct := .pure (dom1 tWindow (fun w => cntE w.Frames ≤ 1048576)) (fn1 tWindow fun w => [tInts.enc (stepsF w)])
attribute [go_sem] E32 ct32 Go.Proofs.Tryz.f32
set_option maxHeartbeats 8000000 in
theorem ok32 : CtOk Tryz.prog Gl 32 ct32 := okA1 (E := E32) (sound_of Tz.tab_ok Tz.mixed AllOk.nil) rfl Tryz.func32 (by kernel_rfl) fun w fw hp => by
  have gw := fw
  have fw := fit_window fw
  refine vcFn_intro rfl rfl (by kernel_rfl) rfl ?_
  have fH : ∀ f ∈ w.Frames, Fit f.Hist.length := fun f hf => (FrameFit_el (WindowFit.Frames (fit_window gw)).2 hf).Hist.1
  have fF := (WindowFit.Frames (fit_window gw)).1
  have hp0 : cntE w.Frames ≤ 1048576 := hp
  repeat (dsimp +instances only [go_sem, Nat.reduceBEq, Nat.reduceAdd, Nat.reduceSub, Nat.reduceLT, Nat.reduceLeDiff]; try simp only [bb, Nat.reduceAdd, Int.reduceToNat, Int.reduceLE, Int.reduceLT, Nat.reduceLT, Nat.reduceMul, Nat.reduceLeDiff])
  refine vcC_loop [1, 3, 4] (fun (i : Nat) => i ≤ w.Frames.length) (fun i => [.ptr 0 4 0 0, .pth 1 1 0 (insAll [] (allSteps (w.Frames.take i))).length, .cv (.int .i64 i)]) (fun i => [.boxT 0 [.cv (.sl 4 (w.Frames.map rFrame.enc)), .cv (.int .i64 w.Step), .cv (.int .i64 w.NextDoc), .cv (.int .i64 w.NextKey)], .row 1 ((insAll [] (allSteps (w.Frames.take i))).map rInt.enc) []]) (fun i => w.Frames.length - i) 0 (by simp) ⟨rfl, rfl⟩ ?_
  intro i hi
  rcases Nat.lt_or_ge i w.Frames.length with hlt | hge
  · have hg := getD_at rFrame hlt
    have hfit := fH _ (List.getElem_mem hlt)
    have hcn := cntE_take w.Frames i hlt
    have htk := take_snoc hlt
    have hOl := insAll_len (allSteps (w.Frames.take i)) []
    rw [allSteps_len, List.length_nil] at hOl
    generalize hO : insAll [] (allSteps (w.Frames.take i)) = O at *
    have hO1 : insAll [] (allSteps (w.Frames.take (i + 1))) = insAll O (w.Frames[i].Hist.map (·.Step)) := by rw [htk, allSteps_app, insAll_app, hO]; simp [allSteps]
    generalize hf : w.Frames[i] = f at *
    try dsimp +instances only [go_sem, Nat.reduceBEq, Nat.reduceAdd, Nat.reduceSub, Nat.reduceLT, Nat.reduceLeDiff]
    repeat (simp only [hg, rFrame_enc, Int.toNat_natCast, bb, Nat.reduceAdd, Int.reduceToNat, Int.reduceLE, Int.reduceLT, Nat.reduceLT, Nat.reduceMul, Nat.reduceLeDiff]; try dsimp +instances only [go_sem, Nat.reduceBEq, Nat.reduceAdd, Nat.reduceSub, Nat.reduceLT, Nat.reduceLeDiff])
    try simp only [nn, reduceCtorEq, hlt, decide_true]
    refine vcC_loop [1, 3, 4, 5] (fun (k : Nat) => k ≤ f.Hist.length) (fun k => [.ptr 0 4 0 0, .pth 1 1 0 (insAll O ((f.Hist.take k).map (·.Step))).length, .cv (.int .i64 i), .cv (.int .i64 k)]) (fun k => [.boxT 0 [.cv (.sl 4 (w.Frames.map rFrame.enc)), .cv (.int .i64 w.Step), .cv (.int .i64 w.NextDoc), .cv (.int .i64 w.NextKey)], .row 1 ((insAll O ((f.Hist.take k).map (·.Step))).map rInt.enc) []]) (fun k => f.Hist.length - k) 0 (by simp) ⟨rfl, rfl⟩ ?_
    intro k hk
    rcases Nat.lt_or_ge k f.Hist.length with hklt | hkge
    · have hg2 := getD_at rEntry hklt
      have htk2 := take_snoc hklt
      have hQl := insAll_len ((f.Hist.take k).map (·.Step)) O
      rw [List.length_map, List.length_take] at hQl
      have hQ1 : insAll O ((f.Hist.take (k + 1)).map (·.Step)) = insU f.Hist[k].Step (insAll O ((f.Hist.take k).map (·.Step))) := by rw [htk2, List.map_append, insAll_app]; rfl
      generalize insAll O ((f.Hist.take k).map (·.Step)) = Q at *
      have hQb : Q.length ≤ 1048576 := by omega
      generalize f.Hist[k] = e at *
      try dsimp +instances only [go_sem, Nat.reduceBEq, Nat.reduceAdd, Nat.reduceSub, Nat.reduceLT, Nat.reduceLeDiff]
      repeat (simp only [hg, rFrame_enc, hg2, rEntry_enc, Int.toNat_natCast, bb, Nat.reduceAdd, Int.reduceToNat, Int.reduceLE, Int.reduceLT, Nat.reduceLT, Nat.reduceMul, Nat.reduceLeDiff]; try dsimp +instances only [go_sem, Nat.reduceBEq, Nat.reduceAdd, Nat.reduceSub, Nat.reduceLT, Nat.reduceLeDiff])
      try simp only [nn, reduceCtorEq, hlt, hklt, decide_true]
      generalize hn : e.Step = n at *
      refine vcC_loop [1, 3, 4, 5, 6, 7] (fun (j : Nat) => j ≤ (Q.takeWhile (fun x => decide (x < n))).length) (fun j => [.ptr 0 4 0 0, .pth 1 1 0 Q.length, .cv (.int .i64 i), .cv (.int .i64 k), .cv (.int .i64 n), .cv (.int .i64 j)]) (fun _ => [.boxT 0 [.cv (.sl 4 (w.Frames.map rFrame.enc)), .cv (.int .i64 w.Step), .cv (.int .i64 w.NextDoc), .cv (.int .i64 w.NextKey)], .row 1 (Q.map rInt.enc) []]) (fun j => Q.length - j) 0 (by simp) ⟨rfl, rfl⟩ ?_
      intro j hj
      have htl : (Q.takeWhile (fun x => decide (x < n))).length ≤ Q.length := by
        have := congrArg List.length (List.takeWhile_append_dropWhile (p := fun x => decide (x < n)) (l := Q))
        rw [List.length_append] at this; omega
      have hU : insU n Q = if (Q.takeWhile (fun x => decide (x < n))).length = Q.length ∨ Q.getD (Q.takeWhile (fun x => decide (x < n))).length 0 ≠ n then Q.takeWhile (fun x => decide (x < n)) ++ n :: Q.drop (Q.takeWhile (fun x => decide (x < n))).length else Q := rfl
      have hpre : Q.takeWhile (fun x => decide (x < n)) = Q.take (Q.takeWhile (fun x => decide (x < n))).length := by
        have := congrArg (List.take (Q.takeWhile (fun x => decide (x < n))).length) (List.takeWhile_append_dropWhile (p := fun x => decide (x < n)) (l := Q))
        rw [List.take_left' rfl] at this; exact this
      rcases Nat.lt_or_ge j Q.length with hjlt | hjge
      · have hg3 := getD_at rInt hjlt
        have htw := tw_go (fun x => decide (x < n)) Q j hj hjlt
        have hgd : Q.getD j 0 = Q[j] := getD_lt hjlt
        generalize Q[j] = q at *
        try dsimp +instances only [go_sem, Nat.reduceBEq, Nat.reduceAdd, Nat.reduceSub, Nat.reduceLT, Nat.reduceLeDiff]
        repeat (simp only [hg3, rInt_enc, Int.toNat_natCast, bb, Nat.reduceAdd, Int.reduceToNat, Int.reduceLE, Int.reduceLT, Nat.reduceLT, Nat.reduceMul, Nat.reduceLeDiff]; try dsimp +instances only [go_sem, Nat.reduceBEq, Nat.reduceAdd, Nat.reduceSub, Nat.reduceLT, Nat.reduceLeDiff])
        try simp only [nn, reduceCtorEq, hjlt, decide_true]
        have hfin : (j = (Q.takeWhile (fun x => decide (x < n))).length) → ¬ (q = n) → insU n Q = Q.take j ++ n :: Q.drop j := fun h1 h2 => by
          rw [← h1] at hU hpre
          rw [hU, if_pos (.inr (by rw [hgd]; exact h2)), hpre]
        have hfin2 : (j = (Q.takeWhile (fun x => decide (x < n))).length) → q = n → insU n Q = Q := fun h1 h2 => by
          rw [← h1] at hU
          rw [hU, if_neg (by rw [hgd]; omega)]
        have hjn : ¬ j = Q.length := by omega
        have htkl : (Q.take j).length = j := by rw [List.length_take]; omega
        have hdrl : (Q.drop j).length = Q.length - j := by rw [List.length_drop]
        have hfl : ∀ l : List Int, flatRows (l.map rInt.enc) = true := flat_ints
        refine ⟨by unfold Fit; omega, fun h => ⟨by omega, nextL_intro (j + 1) (htw.1 (by simpa using h)) (by omega) rfl rfl⟩, fun h => ?_⟩
        have hje : j = (Q.takeWhile (fun x => decide (x < n))).length := htw.2 (by simpa using h)
        refine ⟨by unfold Fit; omega, fun _ => trivial, fun _ => trivial, fun h2 => ?_, fun h2 => ?_⟩
        · have hqn : ¬ q = n := by
            rcases h2 with h2 | h2
            · exact absurd h2 hjn
            · simpa using h2
          have hi2 := hfin hje hqn
          have e1 : (Q.map rInt.enc).take j = (Q.take j).map rInt.enc := by rw [List.map_take]
          have e2 : ((Q.map rInt.enc).drop j).take (Q.length - j) = (Q.drop j).map rInt.enc := by rw [← List.map_drop, List.take_of_length_le (by rw [List.length_map, hdrl]; omega)]
          have e3 : List.take (j + 1) ((Q.take j).map rInt.enc ++ [[.int .i64 n]]) = (Q.take j).map rInt.enc ++ [[.int .i64 n]] := List.take_of_length_le (by rw [List.length_append, List.length_map, htkl]; simp)
          simp only [e1, e2, List.length_map, htkl, hdrl, e3]
          have hns : nextL (fun (k : Nat) => k ≤ f.Hist.length) (fun k => [.ptr 0 4 0 0, .pth 1 1 0 (insAll O ((f.Hist.take k).map (·.Step))).length, .cv (.int .i64 i), .cv (.int .i64 k)]) (fun k => [.boxT 0 [.cv (.sl 4 (w.Frames.map rFrame.enc)), .cv (.int .i64 w.Step), .cv (.int .i64 w.NextDoc), .cv (.int .i64 w.NextKey)], .row 1 ((insAll O ((f.Hist.take k).map (·.Step))).map rInt.enc) []]) (fun k => f.Hist.length - k) (f.Hist.length - k)
              [.ptr 0 4 0 0, .pth 1 1 0 (j + 1 + (Q.length - j)), .cv (.int .i64 i), .cv (.int .i64 (k + 1))] [.boxT 0 [.cv (.sl 4 (w.Frames.map rFrame.enc)), .cv (.int .i64 w.Step), .cv (.int .i64 w.NextDoc), .cv (.int .i64 w.NextKey)], .row 1 ((Q.take j).map rInt.enc ++ [[.int .i64 n]] ++ (Q.drop j).map rInt.enc) []] := by
            refine nextL_intro (k + 1) (by omega) (by omega) ?_ ?_
            · simp only [hQ1, hi2, List.length_append, List.length_cons, htkl, hdrl]
              have : j + (Q.length - j + 1) = j + 1 + (Q.length - j) := by omega
              rw [this]; rfl
            · simp only [hQ1, hi2, List.map_append, List.map_cons, List.append_assoc, List.cons_append, List.nil_append]; rfl
          have hall : ((j ≤ Q.length ∧ flatRows ((Q.take j).map rInt.enc) = true) ∧ Fit j) ∧ Fit (j + 1) ∧ ((j + (Q.length - j) ≤ Q.length ∧ flatRows ((Q.drop j).map rInt.enc) = true) ∧ Fit (j + 1 + (Q.length - j))) ∧ R64 ((k : Int) + 1) := by
            refine ⟨⟨⟨by omega, hfl _⟩, by unfold Fit; omega⟩, by unfold Fit; omega, ⟨⟨by omega, hfl _⟩, by unfold Fit; omega⟩, by omega⟩
          obtain ⟨e1, e2, e3, e4⟩ := hall
          exact ⟨by omega, ⟨by omega, by omega⟩, ⟨⟨e1, e2, e3, e4, hns⟩, ⟨e1, e2, e3, e4, hns⟩⟩, ⟨e1, e2, e3, e4, hns⟩⟩
        · have hi2 := hfin2 hje h2.2
          exact ⟨by omega, nextL_intro (k + 1) (by omega) (by omega) (by simp only [hQ1, hi2]; rfl) (by simp only [hQ1, hi2])⟩
      · have : j = Q.length := by omega
        subst this
        have hz : (Q.map rInt.enc).getD Q.length [] = [] := by simp
        try dsimp +instances only [go_sem, Nat.reduceBEq, Nat.reduceAdd, Nat.reduceSub, Nat.reduceLT, Nat.reduceLeDiff]
        repeat (simp only [hz, bb, Nat.reduceAdd, Int.reduceToNat, Int.reduceLE, Int.reduceLT, Nat.reduceLT, Nat.reduceMul, Nat.reduceLeDiff]; try dsimp +instances only [go_sem, Nat.reduceBEq, Nat.reduceAdd, Nat.reduceSub, Nat.reduceLT, Nat.reduceLeDiff])
        try simp only [nn, reduceCtorEq, Nat.lt_irrefl]
        have hje : (Q.takeWhile (fun x => decide (x < n))).length = Q.length := by omega
        have hi2 : insU n Q = Q ++ [n] := by rw [hU, if_pos (.inl hje), hpre, hje, List.take_length, List.drop_length]
        have e3 : List.take (Q.length + 1) (Q.map rInt.enc ++ [[.int .i64 n]]) = Q.map rInt.enc ++ [[.int .i64 n]] := List.take_of_length_le (by simp)
        simp only [Nat.sub_self, List.take_zero, List.length_nil, List.append_nil, Nat.add_zero, e3]
        have hns : nextL (fun (k : Nat) => k ≤ f.Hist.length) (fun k => [.ptr 0 4 0 0, .pth 1 1 0 (insAll O ((f.Hist.take k).map (·.Step))).length, .cv (.int .i64 i), .cv (.int .i64 k)]) (fun k => [.boxT 0 [.cv (.sl 4 (w.Frames.map rFrame.enc)), .cv (.int .i64 w.Step), .cv (.int .i64 w.NextDoc), .cv (.int .i64 w.NextKey)], .row 1 ((insAll O ((f.Hist.take k).map (·.Step))).map rInt.enc) []]) (fun k => f.Hist.length - k) (f.Hist.length - k)
            [.ptr 0 4 0 0, .pth 1 1 0 (Q.length + 1), .cv (.int .i64 i), .cv (.int .i64 (k + 1))] [.boxT 0 [.cv (.sl 4 (w.Frames.map rFrame.enc)), .cv (.int .i64 w.Step), .cv (.int .i64 w.NextDoc), .cv (.int .i64 w.NextKey)], .row 1 (Q.map rInt.enc ++ [[.int .i64 n]]) []] := by
          refine nextL_intro (k + 1) (by omega) (by omega) ?_ ?_
          · simp only [hQ1, hi2, List.length_append, List.length_cons, List.length_nil]; rfl
          · simp only [hQ1, hi2, List.map_append, List.map_cons, List.map_nil]; rfl
        have e1 : Fit Q.length := by unfold Fit; omega
        have e2 : Fit (Q.length + 1) := by unfold Fit; omega
        have e4 : R64 ((k : Int) + 1) := by omega
        simp [e1, e2, flatRows]
        have hns2 := hns
        simp only [List.map_take] at hns2
        exact ⟨e4, hns2⟩
    · have : k = f.Hist.length := by omega
      subst this
      rw [List.take_length, ← hO1] at *
      try dsimp +instances only [go_sem, Nat.reduceBEq, Nat.reduceAdd, Nat.reduceSub, Nat.reduceLT, Nat.reduceLeDiff]
      repeat (simp only [hg, rFrame_enc, Int.toNat_natCast, bb, Nat.reduceAdd, Int.reduceToNat, Int.reduceLE, Int.reduceLT, Nat.reduceLT, Nat.reduceMul, Nat.reduceLeDiff]; try dsimp +instances only [go_sem, Nat.reduceBEq, Nat.reduceAdd, Nat.reduceSub, Nat.reduceLT, Nat.reduceLeDiff])
      try simp only [nn, reduceCtorEq, hlt, Nat.lt_irrefl]
      exact fun _ => ⟨by omega, nextL_intro (i + 1) (by omega) (by omega) rfl rfl⟩
  · have : i = w.Frames.length := by omega
    subst this
    have := insAll_steps w
    repeat (dsimp +instances only [go_sem, Nat.reduceBEq, Nat.reduceAdd, Nat.reduceSub, Nat.reduceLT, Nat.reduceLeDiff]; try simp only [bb, Nat.reduceAdd, Int.reduceToNat, Int.reduceLE, Int.reduceLT, Nat.reduceLT, Nat.reduceMul, Nat.reduceLeDiff])
    try simp only [nn, reduceCtorEq, Nat.lt_irrefl]
    exact fun _ => by rw [this]
end Go.Gx
end
section
namespace Go.Gx
open Go.Proofs
end Go.Gx
end
section
namespace Go.Gx
open Go.Proofs
attribute [go_sem] Go.Proofs.Tryz.f108
end Go.Gx
end
section
namespace Go.Gx
open Go.Proofs
def levN (w : Window) (f : Int) : Nat := if f = 0 then 0 else if ownerF w (frA w f).Within = 0 then 1 else 2
theorem live_step {w : Window} (T : WTree w) {f : Nat} (h : f < w.Frames.length) (h0 : 0 < f) (s : Int) : 0 ≤ ownerF w w.Frames[f].Within ∧ ownerF w w.Frames[f].Within < w.Frames.length ∧ levN w (ownerF w w.Frames[f].Within) < levN w f ∧
    liveF w s 3 f = (decide (nowD w f s ≠ 0) && (decide (nowD w (ownerF w w.Frames[f].Within) s = w.Frames[f].Within) && liveF w s 3 (ownerF w w.Frames[f].Within))) := by
  have h1 := T.own f h h0
  have h2 := (owner_lt w w.Frames[f].Within).1
  have h3 := (depthF_le w f (by omega)).1 (T.deep f h)
  rw [frA_eq w f h] at h3
  refine ⟨h1, h2, ?_, ?_⟩
  · unfold levN
    rw [if_neg (show ¬ (f : Int) = 0 by omega), frA_eq w f h]
    by_cases e : ownerF w w.Frames[f].Within = 0
    · rw [if_pos e, if_pos e]; omega
    · rw [if_neg e, if_neg e]
      have := h3.resolve_left (by omega)
      have := this.resolve_left e
      rw [if_pos this.2]; omega
  · have hl : lev w 2 (ownerF w w.Frames[f].Within) := by
      have := h3.resolve_left (by omega)
      rcases this with e | e
      · exact .inl e
      · exact .inr ⟨e.1, .inl e.2⟩
    rw [liveF, frA_eq w f h, decide_eq_false (show ¬ (f : Int) = 0 by omega), Bool.false_or, liveF_fuel hl]
theorem live_top {w : Window} (s : Int) : liveF w s 3 0 = decide (nowD w 0 s ≠ 0) := by
  rw [liveF]; simp
theorem live_now {w : Window} {s f : Int} (h : liveF w s 3 f = true) : nowD w f s ≠ 0 := by
  rw [liveF, Bool.and_eq_true, decide_eq_true_iff] at h; exact h.1
theorem now_hat {w : Window} {s f : Int} (h : nowD w f s ≠ 0) : 0 ≤ hatF (frA w f).Hist s := by
  rcases Int.lt_or_le (hatF (frA w f).Hist s) 0 with h4 | h4
  · exact absurd (by unfold nowD; rw [if_pos h4]) h
  · exact h4
def ctr54 (m : Nat) : Ct := .scal (dom2 tWindow tInt (fun w f => (WTree w) ∧ levN w f < m)) (fn2 tWindow tInt fun w f => [tBool.enc (decide (0 ≤ f ∧ f < w.Frames.length) && liveF w w.Step 3 f)])
def E54 (m : Nat) : Env := { T := Tz.tab, G := Gl, C := [(54, ctr54 m), (49, ct49), (105, ct105), (73, ct73)], live := [(0, [1, 2]), (1, [1, 2, 18]), (2, [4]), (3, [1, 2, 20]), (4, [4]), (5, [1, 2, 5]), (6, [4])] }
def ct54 : Ct := .scal (dom2 tWindow tInt (fun w f => WTree w)) (fn2 tWindow tInt fun w f => [tBool.enc (decide (0 ≤ f ∧ f < w.Frames.length) && liveF w w.Step 3 f)])
attribute [go_sem] ctr54 E54 ct54 Go.Proofs.Tryz.f54
theorem okr54 : ∀ m, CtOk Tryz.prog Gl 54 (ctr54 m)
  | 0 => fun w cs vs _ _ hd => by
    obtain ⟨w, f, _, h⟩ := dom2_inv hd
    omega
  | m + 1 => okA2 (E := E54 m) (sound_of Tz.tab_ok Tz.mixed (AllOk.cons (okr54 m) (AllOk.cons ok49 (AllOk.cons ok105 (AllOk.cons ok73 AllOk.nil))))) rfl Tryz.func54 (by kernel_rfl) fun w f fw ff hp => by
    have gw := fw
    have fw := fit_window fw
    have ff := fit_int ff
    refine vcFn_intro rfl rfl (by kernel_rfl) rfl ?_
    have fF := (WindowFit.Frames (fit_window gw)).1
    have hT := hp.1
    by_cases hf : 0 ≤ f ∧ f < w.Frames.length
    · obtain ⟨k, rfl⟩ : ∃ k : Nat, f = k := ⟨f.toNat, by omega⟩
      have hlt : k < w.Frames.length := by omega
      have hg := getD_at rFrame hlt
      have hst := fun h => live_step hT hlt h w.Step
      have htop := live_top (w := w) w.Step
      have hnz : liveF w w.Step 3 k = true → nowD w k w.Step ≠ 0 := live_now
      have hpg : pageF w k = nowD w k w.Step := rfl
      generalize w.Frames[k] = fr at *
      try dsimp +instances only [go_sem, Nat.reduceBEq, Nat.reduceAdd, Nat.reduceSub, Nat.reduceLT, Nat.reduceLeDiff]
      repeat (simp only [hg, rFrame_enc, Int.toNat_natCast, bb, Nat.reduceAdd, Int.reduceToNat, Int.reduceLE, Int.reduceLT, Nat.reduceLT, Nat.reduceMul, Nat.reduceLeDiff]; try dsimp +instances only [go_sem, Nat.reduceBEq, Nat.reduceAdd, Nat.reduceSub, Nat.reduceLT, Nat.reduceLeDiff])
      try simp only [nn, reduceCtorEq, hlt, decide_true]
      refine ⟨by omega, fun _ => trivial, fun h => ?_, fun h => ⟨fun h0 => ?_, fun h0 => ?_⟩⟩
      · cases hL : liveF w w.Step 3 k with
        | false => rfl
        | true => have := hnz hL; rw [← hpg] at this; grind
      · rw [h0] at hpg h ⊢
        rw [htop, ← hpg]; simpa using h.2
      · obtain ⟨a1, a2, a3, a4⟩ := hst (by omega)
        refine ⟨⟨hT, by omega⟩, fun _ => ⟨a1, a2⟩, fun _ => trivial, ?_⟩
        have h2 : pageF w (ownerF w fr.Within) = nowD w (ownerF w fr.Within) w.Step := rfl
        rw [a4, h2, ← hpg]
        grind
    · repeat (dsimp +instances only [go_sem, Nat.reduceBEq, Nat.reduceAdd, Nat.reduceSub, Nat.reduceLT, Nat.reduceLeDiff]; try simp only [bb, Nat.reduceAdd, Int.reduceToNat, Int.reduceLE, Int.reduceLT, Nat.reduceLT, Nat.reduceMul, Nat.reduceLeDiff])
      try simp only [nn, reduceCtorEq]
      grind
theorem ok54 : CtOk Tryz.prog Gl 54 ct54 := fun W0 cs vs hG ha hd => by
  obtain ⟨w, f, rfl, h⟩ := dom2_inv hd
  refine okr54 ((levN w f) + 1) W0 _ vs hG ha ?_
  simp only [dom2, Ty.de] at hd ⊢
  grind
end Go.Gx
end
section
namespace Go.Gx
open Go.Proofs
theorem stepsF_len (w : Window) : (stepsF w).length ≤ cntE w.Frames := by
  have h1 := compact_len (sortI (allSteps w.Frames))
  have h2 : (sortI (allSteps w.Frames)).length = (allSteps w.Frames).length := by simp [sortI]
  have h3 := allSteps_len w.Frames
  unfold stepsF; omega
def E66 : Env := { T := Tz.tab, G := Gl, C := [(32, ct32)], live := [(0, [1]), (1, [1, 3]), (2, [1, 3, 4]), (3, [1, 3, 4, 10]), (4, [1, 3, 4]), (5, [1, 3, 4, 19]), (6, [2]), (7, [2])] }
def ct66 : Ct := .scal (dom1 tWindow (fun w => cntE w.Frames ≤ 1048576)) (fn1 tWindow fun w => [tBool.enc (decide (w.Step ∈ stepsF w))])
attribute [go_sem] E66 ct66 Go.Proofs.Tryz.f66
theorem ok66 : CtOk Tryz.prog Gl 66 ct66 := okA1 (E := E66) (sound_of Tz.tab_ok Tz.mixed (AllOk.cons ok32 AllOk.nil)) rfl Tryz.func66 (by kernel_rfl) fun w fw hp => by
  have gw := fw
  have fw := fit_window fw
  refine vcFn_intro rfl rfl (by kernel_rfl) rfl ?_
  repeat (dsimp +instances only [go_sem, Nat.reduceBEq, Nat.reduceAdd, Nat.reduceSub, Nat.reduceLT, Nat.reduceLeDiff]; try simp only [bb, Nat.reduceAdd, Int.reduceToNat, Int.reduceLE, Int.reduceLT, Nat.reduceLT, Nat.reduceMul, Nat.reduceLeDiff])
  try simp only [nn, reduceCtorEq]
  refine ⟨hp, ?_⟩
  refine vcC_loop [1, 3, 4] (fun (i : Nat) => i ≤ (stepsF w).length ∧ w.Step ∉ (stepsF w).take i) (fun i => [.ptr 0 4 0 0, .pth 1 1 0 (stepsF w).length, .cv (.int .i64 i)]) (fun i => [.boxT 0 [.cv (.sl 4 (w.Frames.map rFrame.enc)), .cv (.int .i64 w.Step), .cv (.int .i64 w.NextDoc), .cv (.int .i64 w.NextKey)], .row 1 ((stepsF w).map rInt.enc) []]) (fun i => (stepsF w).length - i) 0 (by simp) ⟨rfl, rfl⟩ ?_
  rintro i ⟨hi, he⟩
  have hsl := stepsF_len w
  have hp0 : cntE w.Frames ≤ 1048576 := hp
  generalize stepsF w = l at *
  have hfl : Fit l.length := by unfold Fit; omega
  rcases Nat.lt_or_ge i l.length with hlt | hge
  · have hg := getD_at rInt hlt
    have htk := take_snoc hlt
    have hmem := List.getElem_mem hlt
    generalize l[i] = q at *
    try dsimp +instances only [go_sem, Nat.reduceBEq, Nat.reduceAdd, Nat.reduceSub, Nat.reduceLT, Nat.reduceLeDiff]
    repeat (simp only [hg, rInt_enc, Int.toNat_natCast, bb, Nat.reduceAdd, Int.reduceToNat, Int.reduceLE, Int.reduceLT, Nat.reduceLT, Nat.reduceMul, Nat.reduceLeDiff]; try dsimp +instances only [go_sem, Nat.reduceBEq, Nat.reduceAdd, Nat.reduceSub, Nat.reduceLT, Nat.reduceLeDiff])
    try simp only [nn, reduceCtorEq, hlt, decide_true]
    refine ⟨hfl, fun h => ?_, fun h => ⟨by omega, nextL_intro (i + 1) ⟨by omega, ?_⟩ (by omega) rfl rfl⟩⟩
    · rw [← h, decide_eq_true hmem]
    · rw [htk, List.mem_append, List.mem_singleton]
      rintro (h2 | h2)
      · exact he h2
      · exact h h2.symm
  · have : i = l.length := by omega
    subst this
    rw [List.take_length] at he
    repeat (dsimp +instances only [go_sem, Nat.reduceBEq, Nat.reduceAdd, Nat.reduceSub, Nat.reduceLT, Nat.reduceLeDiff]; try simp only [bb, Nat.reduceAdd, Int.reduceToNat, Int.reduceLE, Int.reduceLT, Nat.reduceLT, Nat.reduceMul, Nat.reduceLeDiff])
    try simp only [nn, reduceCtorEq, Nat.lt_irrefl]
    exact ⟨hfl, fun _ => (decide_eq_false he).symm⟩
def E80 : Env := { T := Tz.tab, G := Gl, C := [], live := [(0, [0, 1]), (1, [0, 1, 5]), (2, [0, 1, 5, 6]), (3, [0, 1, 5, 6, 10]), (4, [0, 1, 5, 6]), (5, [0, 1, 5, 6, 19]), (6, [0, 1, 5, 6]), (7, [4])] }
def ct80 : Ct := .scal (dom2 tEntryS tInt (fun l step => True)) (fn2 tEntryS tInt fun l step => [tInt.enc (hatF l step)])
attribute [go_sem] E80 ct80 Go.Proofs.Tryz.f80
theorem ok80 : CtOk Tryz.prog Gl 80 ct80 := okA2 (E := E80) (sound_of Tz.tab_ok Tz.mixed AllOk.nil) rfl Tryz.func80 (by kernel_rfl) fun l step fl fstep hp => by
  have gl := fl
  have fl := fit_list fl
  have fstep := fit_int fstep
  refine vcFn_intro rfl rfl (by kernel_rfl) rfl ?_
  repeat (dsimp +instances only [go_sem, Nat.reduceBEq, Nat.reduceAdd, Nat.reduceSub, Nat.reduceLT, Nat.reduceLeDiff]; try simp only [bb, Nat.reduceAdd, Int.reduceToNat, Int.reduceLE, Int.reduceLT, Nat.reduceLT, Nat.reduceMul, Nat.reduceLeDiff])
  try simp only [nn, reduceCtorEq]
  refine vcC_loop [0, 1, 5, 6] (fun (x : Nat × Int) => x.1 ≤ l.length ∧ hatGo step x.1 x.2 (l.drop x.1) = hatF l step) (fun x => [.cv (.sl 17 (l.map rEntry.enc)), .cv (.int .i64 step), .cv (.int .i64 x.2), .cv (.int .i64 x.1)]) (fun _ => []) (fun x => l.length - x.1) (0, -1) ⟨by simp, rfl⟩ ⟨rfl, rfl⟩ ?_
  rintro ⟨i, a⟩ ⟨hi, he⟩
  simp only at hi he
  rcases Nat.lt_or_ge i l.length with hlt | hge
  · have hg := getD_at rEntry hlt
    rw [List.drop_eq_getElem_cons hlt, hatGo] at he
    try dsimp +instances only [go_sem, Nat.reduceBEq, Nat.reduceAdd, Nat.reduceSub, Nat.reduceLT, Nat.reduceLeDiff]
    repeat (simp only [hg, rEntry_enc, Int.toNat_natCast, bb, Nat.reduceAdd, Int.reduceToNat, Int.reduceLE, Int.reduceLT, Nat.reduceLT, Nat.reduceMul, Nat.reduceLeDiff]; try dsimp +instances only [go_sem, Nat.reduceBEq, Nat.reduceAdd, Nat.reduceSub, Nat.reduceLT, Nat.reduceLeDiff])
    try simp only [nn, reduceCtorEq, hlt, decide_true]
    refine ⟨fun h => ⟨by omega, nextL_intro (i + 1, (i : Int)) ⟨by simp only; omega, ?_⟩ (by simp only; omega) rfl rfl⟩, fun h => ⟨by omega, nextL_intro (i + 1, a) ⟨by simp only; omega, ?_⟩ (by simp only; omega) rfl rfl⟩⟩
    · rw [if_pos h] at he; exact he
    · rw [if_neg h] at he; exact he
  · have : i = l.length := by omega
    subst this
    rw [List.drop_length, hatGo] at he
    repeat (dsimp +instances only [go_sem, Nat.reduceBEq, Nat.reduceAdd, Nat.reduceSub, Nat.reduceLT, Nat.reduceLeDiff]; try simp only [bb, Nat.reduceAdd, Int.reduceToNat, Int.reduceLE, Int.reduceLT, Nat.reduceLT, Nat.reduceMul, Nat.reduceLeDiff])
    try simp only [nn, reduceCtorEq, Nat.lt_irrefl]
    exact fun _ => he
def E143 : Env := { T := Tz.tab, G := Gl, C := [(80, ct80)], live := [(0, [1, 2, 3]), (1, [1, 3, 7]), (2, [1, 3, 7, 17]), (3, [6]), (4, [6])] }
def ct143 : Ct := .scal (dom3 tWindow tInt tInt (fun w f step => 0 ≤ f ∧ f < w.Frames.length)) (fn3 tWindow tInt tInt fun w f step => [tInt.enc (nowD w f step)])
attribute [go_sem] E143 ct143 Go.Proofs.Tryz.f143
theorem ok143 : CtOk Tryz.prog Gl 143 ct143 := okA3 (E := E143) (sound_of Tz.tab_ok Tz.mixed (AllOk.cons ok80 AllOk.nil)) rfl Tryz.func143 (by kernel_rfl) fun w f step fw ff fstep hp => by
  have gw := fw
  have fw := fit_window fw
  have ff := fit_int ff
  have fstep := fit_int fstep
  refine vcFn_intro rfl rfl (by kernel_rfl) rfl ?_
  have fF := (WindowFit.Frames (fit_window gw)).1
  have fH : ∀ f ∈ w.Frames, Fit f.Hist.length := fun f hf => (FrameFit_el (WindowFit.Frames (fit_window gw)).2 hf).Hist.1
  obtain ⟨m, rfl⟩ : ∃ m : Nat, f = m := ⟨f.toNat, by omega⟩
  have hlt : m < w.Frames.length := by omega
  have hg := getD_at rFrame hlt
  have hd : nowD w m step = if hatF (frA w m).Hist step < 0 then 0 else ((frA w m).Hist.getD (hatF (frA w m).Hist step).toNat default).Doc := rfl
  rw [frA_eq w m hlt] at hd
  have hfit := fH _ (List.getElem_mem hlt)
  generalize w.Frames[m] = g at *
  have hh := hatF_lt g.Hist step
  generalize hz : hatF g.Hist step = z at *
  rcases Int.lt_or_le z 0 with h | h
  · rw [if_pos h] at hd
    try dsimp +instances only [go_sem, Nat.reduceBEq, Nat.reduceAdd, Nat.reduceSub, Nat.reduceLT, Nat.reduceLeDiff]
    repeat (simp only [hg, rFrame_enc, Int.toNat_natCast, hz, bb, Nat.reduceAdd, Int.reduceToNat, Int.reduceLE, Int.reduceLT, Nat.reduceLT, Nat.reduceMul, Nat.reduceLeDiff]; try dsimp +instances only [go_sem, Nat.reduceBEq, Nat.reduceAdd, Nat.reduceSub, Nat.reduceLT, Nat.reduceLeDiff])
    try simp only [nn, reduceCtorEq, hlt, decide_true, h]
    exact hd.symm
  · obtain ⟨k, rfl⟩ : ∃ k : Nat, z = k := ⟨z.toNat, by omega⟩
    have hk : k < g.Hist.length := by omega
    have hg2 := getD_at rEntry hk
    rw [if_neg (by omega), Int.toNat_natCast, getD_lt hk] at hd
    try dsimp +instances only [go_sem, Nat.reduceBEq, Nat.reduceAdd, Nat.reduceSub, Nat.reduceLT, Nat.reduceLeDiff]
    repeat (simp only [hg, rFrame_enc, hz, hg2, rEntry_enc, Int.toNat_natCast, bb, Nat.reduceAdd, Int.reduceToNat, Int.reduceLE, Int.reduceLT, Nat.reduceLT, Nat.reduceMul, Nat.reduceLeDiff]; try dsimp +instances only [go_sem, Nat.reduceBEq, Nat.reduceAdd, Nat.reduceSub, Nat.reduceLT, Nat.reduceLeDiff])
    try simp only [nn, reduceCtorEq, hlt, decide_true]
    exact ⟨fun h' => absurd h' (by omega), fun _ => ⟨hk, hd.symm⟩⟩
def ctr101 (m : Nat) : Ct := .scal (dom3 tWindow tInt tInt (fun w f step => (WTree w ∧ 0 ≤ f ∧ f < w.Frames.length) ∧ levN w f < m)) (fn3 tWindow tInt tInt fun w f step => [tBool.enc (liveF w step 3 f)])
def E101 (m : Nat) : Env := { T := Tz.tab, G := Gl, C := [(101, ctr101 m), (143, ct143), (112, ct112)], live := [(0, [1, 2, 3]), (1, [1, 2, 3, 12]), (2, [6]), (3, [1, 2, 3, 19]), (4, [6]), (5, [1, 2, 3, 7]), (6, [6])] }
def ct101 : Ct := .scal (dom3 tWindow tInt tInt (fun w f step => WTree w ∧ 0 ≤ f ∧ f < w.Frames.length)) (fn3 tWindow tInt tInt fun w f step => [tBool.enc (liveF w step 3 f)])
attribute [go_sem] ctr101 E101 ct101 Go.Proofs.Tryz.f101
theorem okr101 : ∀ m, CtOk Tryz.prog Gl 101 (ctr101 m)
  | 0 => fun w cs vs _ _ hd => by
    obtain ⟨w, f, step, _, h⟩ := dom3_inv hd
    omega
  | m + 1 => okA3 (E := E101 m) (sound_of Tz.tab_ok Tz.mixed (AllOk.cons (okr101 m) (AllOk.cons ok143 (AllOk.cons ok112 AllOk.nil)))) rfl Tryz.func101 (by kernel_rfl) fun w f step fw ff fstep hp => by
    have gw := fw
    have fw := fit_window fw
    have ff := fit_int ff
    have fstep := fit_int fstep
    refine vcFn_intro rfl rfl (by kernel_rfl) rfl ?_
    have fF := (WindowFit.Frames (fit_window gw)).1
    obtain ⟨⟨hT, h0, h1⟩, hm⟩ := hp
    obtain ⟨k, rfl⟩ : ∃ k : Nat, f = k := ⟨f.toNat, by omega⟩
    have hlt : k < w.Frames.length := by omega
    have hg := getD_at rFrame hlt
    have hst := fun h => live_step hT hlt h step
    have htop := live_top (w := w) step
    have hnz : liveF w step 3 k = true → nowD w k step ≠ 0 := live_now
    have hz := hT.top k hlt
    generalize w.Frames[k] = fr at *
    try dsimp +instances only [go_sem, Nat.reduceBEq, Nat.reduceAdd, Nat.reduceSub, Nat.reduceLT, Nat.reduceLeDiff]
    repeat (simp only [hg, rFrame_enc, Int.toNat_natCast, bb, Nat.reduceAdd, Int.reduceToNat, Int.reduceLE, Int.reduceLT, Nat.reduceLT, Nat.reduceMul, Nat.reduceLeDiff]; try dsimp +instances only [go_sem, Nat.reduceBEq, Nat.reduceAdd, Nat.reduceSub, Nat.reduceLT, Nat.reduceLeDiff])
    try simp only [nn, reduceCtorEq, hlt, decide_true]
    refine ⟨fun h => ?_, fun h => ⟨fun h0 => ?_, fun h0 => ?_⟩⟩
    · cases hL : liveF w step 3 k with
      | false => rfl
      | true => exact absurd h (hnz hL)
    · have hk0 := hz.2 h0
      subst hk0
      have : ((0 : Nat) : Int) = 0 := rfl
      rw [this] at h ⊢
      rw [htop, decide_eq_true h]
    · obtain ⟨a1, a2, a3, a4⟩ := hst (by omega)
      refine ⟨⟨a1, a2⟩, fun _ => ⟨⟨hT, a1, a2⟩, by omega⟩, ?_⟩
      rw [a4, decide_eq_true h, Bool.true_and]
theorem ok101 : CtOk Tryz.prog Gl 101 ct101 := fun W0 cs vs hG ha hd => by
  obtain ⟨w, f, step, rfl, h⟩ := dom3_inv hd
  refine okr101 ((levN w f) + 1) W0 _ vs hG ha ?_
  simp only [dom3, Ty.de] at hd ⊢
  grind
def E52 : Env := { T := Tz.tab, G := Gl, C := [(44, ct44), (101, ct101)], live := [(0, [1, 2]), (1, [4])] }
def ct52 : Ct := .scal (dom2 tWindow tInt (fun w f => WTree w)) (fn2 tWindow tInt fun w f => [tBool.enc (decide (0 ≤ f ∧ f < w.Frames.length) && liveF w w.Step 3 f)])
attribute [go_sem] E52 ct52 Go.Proofs.Tryz.f52
theorem ok52 : CtOk Tryz.prog Gl 52 ct52 := okA2 (E := E52) (sound_of Tz.tab_ok Tz.mixed (AllOk.cons ok44 (AllOk.cons ok101 AllOk.nil))) rfl Tryz.func52 (by kernel_rfl) fun w f fw ff hp => by
  have gw := fw
  have fw := fit_window fw
  have ff := fit_int ff
  refine vcFn_intro rfl rfl (by kernel_rfl) rfl ?_
  have fF := (WindowFit.Frames (fit_window gw)).1
  repeat (dsimp +instances only [go_sem, Nat.reduceBEq, Nat.reduceAdd, Nat.reduceSub, Nat.reduceLT, Nat.reduceLeDiff]; try simp only [bb, Nat.reduceAdd, Int.reduceToNat, Int.reduceLE, Int.reduceLT, Nat.reduceLT, Nat.reduceMul, Nat.reduceLeDiff])
  try simp only [nn, reduceCtorEq]
  refine ⟨by omega, fun h => ⟨hp, by omega, by omega⟩, ?_⟩
  have : decide (0 ≤ f ∧ f ≤ (w.Frames.length : Int) - 1) = decide (0 ≤ f ∧ f < w.Frames.length) := decide_eq_decide.2 (by omega)
  rw [this]
def E26 : Env := { T := Tz.tab, G := Gl, C := [(44, ct44), (62, ct62), (63, ct63), (64, ct64), (65, ct65), (66, ct66)], live := [(0, [1]), (1, [1, 32]), (2, [2]), (3, [1, 3]), (4, [1, 3, 37]), (5, [1, 3]), (6, [1, 3, 4]), (7, [1, 3, 79]), (8, [2]), (9, [2])] }
def ct26 : Ct := .scal (dom1 tWindow (fun w => smallW w)) (fn1 tWindow fun w => [tBool.enc (winOk w)])
attribute [go_sem] E26 ct26 Go.Proofs.Tryz.f26
set_option maxHeartbeats 8000000 in
theorem ok26 : CtOk Tryz.prog Gl 26 ct26 := okA1 (E := E26) (sound_of Tz.tab_ok Tz.mixed (AllOk.cons ok44 (AllOk.cons ok62 (AllOk.cons ok63 (AllOk.cons ok64 (AllOk.cons ok65 (AllOk.cons ok66 AllOk.nil))))))) rfl Tryz.func26 (by kernel_rfl) fun w fw hp => by
  have gw := fw
  have fw := fit_window fw
  refine vcFn_intro rfl rfl (by kernel_rfl) rfl ?_
  have fH : ∀ f ∈ w.Frames, Fit f.Hist.length := fun f hf => (FrameFit_el (WindowFit.Frames (fit_window gw)).2 hf).Hist.1
  have fF := (WindowFit.Frames (fit_window gw)).1
  rw [← sOk_eq w]
  have hS : sOk w = (headOk w && apartF w && (List.range w.Frames.length).all (sFr w) && decide (step0 w = 0) && decide (w.Step ∈ stepsF w)) := rfl
  have hH : headOk w = (decide (1 ≤ w.Frames.length ∧ w.Frames.length ≤ 8) && decide (0 ≤ w.Step ∧ w.Step ≤ 60) && decide (2 ≤ w.NextDoc ∧ w.NextDoc ≤ 9999) && decide (2 ≤ w.NextKey ∧ w.NextKey ≤ 9999)) := rfl
  repeat (dsimp +instances only [go_sem, Nat.reduceBEq, Nat.reduceAdd, Nat.reduceSub, Nat.reduceLT, Nat.reduceLeDiff]; try simp only [bb, Nat.reduceAdd, Int.reduceToNat, Int.reduceLE, Int.reduceLT, Nat.reduceLT, Nat.reduceMul, Nat.reduceLeDiff])
  try simp only [nn, reduceCtorEq]
  refine ⟨fun h => ?_, fun h => ?_⟩
  · have : (headOk w && apartF w) = false := by rw [hH]; grind
    rw [hS, this]; rfl
  have hh : headOk w = true := by rw [hH]; grind
  rw [hh, h.2, Bool.true_and, Bool.true_and] at hS
  refine vcC_loop [1, 3] (fun (i : Nat) => i ≤ w.Frames.length ∧ ∀ k < i, sFr w k = true) (fun i => [.ptr 0 4 0 0, .cv (.int .i64 i)]) (fun _ => [.boxT 0 [.cv (.sl 4 (w.Frames.map rFrame.enc)), .cv (.int .i64 w.Step), .cv (.int .i64 w.NextDoc), .cv (.int .i64 w.NextKey)]]) (fun i => w.Frames.length - i) 0 (by simp) ⟨rfl, rfl⟩ ?_
  rintro i ⟨hi, he⟩
  rcases Nat.lt_or_ge i w.Frames.length with hlt | hge
  · have hg := getD_at rFrame hlt
    have hmem := List.getElem_mem hlt
    have hfit := fH _ hmem
    have hsm := hp _ hmem
    have hno : sFr w i = false → sOk w = false := fun h => by
      have : (List.range w.Frames.length).all (sFr w) = false := by rw [List.all_eq_false]; exact ⟨i, List.mem_range.2 hlt, by rw [h]; simp⟩
      rw [hS, this]; rfl
    have hF : sFr w i = (decide (w.Frames[i].Within = 0 ↔ i = 0) && decide (0 ≤ w.Frames[i].Within) && lowOk w.Frames[i].Name && histOk w.Frames[i].Hist && decide (w.Frames[i].Hist ≠ []) && decide (sdeepF w i ≤ 3)) := by unfold sFr; rw [getD_lt hlt]
    generalize w.Frames[i] = f at *
    try dsimp +instances only [go_sem, Nat.reduceBEq, Nat.reduceAdd, Nat.reduceSub, Nat.reduceLT, Nat.reduceLeDiff]
    repeat (simp only [hg, rFrame_enc, Int.toNat_natCast, bb, Nat.reduceAdd, Int.reduceToNat, Int.reduceLE, Int.reduceLT, Nat.reduceLT, Nat.reduceMul, Nat.reduceLeDiff]; try dsimp +instances only [go_sem, Nat.reduceBEq, Nat.reduceAdd, Nat.reduceSub, Nat.reduceLT, Nat.reduceLeDiff])
    try simp only [nn, reduceCtorEq, hlt, decide_true]
    have hb : (decide (f.Within = 0) != decide ((i : Int) = 0)) = !decide (f.Within = 0 ↔ i = 0) := by
      by_cases h1 : f.Within = 0 <;> by_cases h2 : i = 0 <;> simp [h1, h2]
    have hl0 : ((f.Hist.length : Int) = 0) ↔ f.Hist = [] := by rw [← List.length_eq_zero_iff]; omega
    simp only [hb, hl0]
    have hyes : (!decide (f.Within = 0 ↔ i = 0)) = false → ¬ f.Within < 0 → lowOk f.Name = true → histOk f.Hist = true → ¬ f.Hist = [] → ¬ 3 < sdeepF w i → sFr w i = true := fun a1 a2 a3 a4 a5 a6 => by
      rw [hF, a3, a4, decide_eq_true a5, decide_eq_true (show 0 ≤ f.Within by omega), decide_eq_true (show sdeepF w i ≤ 3 by omega)]
      simpa using a1
    refine ⟨fun _ => hsm, fun _ => trivial, fun h => ?_, fun h => ⟨by omega, nextL_intro (i + 1) ⟨by omega, fun k hk => ?_⟩ (by omega) rfl rfl⟩⟩
    · rw [hno ?_]
      rw [hF]
      rcases h with ((((h | h) | h) | h) | h) | h
      · rw [Bool.not_eq_true'] at h; rw [h]; rfl
      · rw [decide_eq_false (show ¬ 0 ≤ f.Within by omega)]; simp
      · rw [Bool.not_eq_true'] at h; rw [h]; simp
      · rw [Bool.not_eq_true'] at h; rw [h]; simp
      · rw [decide_eq_false (show ¬ f.Hist ≠ [] by simpa using h)]; simp
      · rw [decide_eq_false (show ¬ sdeepF w i ≤ 3 by omega)]; simp
    · rcases Nat.lt_or_ge k i with h2 | h2
      · exact he k h2
      · obtain rfl : k = i := by omega
        exact hyes h.1.1.1.1.1 h.1.1.1.1.2 h.1.1.1.2 h.1.1.2 h.1.2 h.2
  · have : i = w.Frames.length := by omega
    subst this
    have hall : (List.range w.Frames.length).all (sFr w) = true := by
      rw [List.all_eq_true]; intro x hx; exact he x (List.mem_range.1 hx)
    rw [hall, Bool.true_and] at hS
    have h0 : 0 < w.Frames.length := by omega
    have hg0 := getD_at rFrame h0
    have hs0 : step0 w = ((w.Frames.getD 0 default).Hist.getD 0 default).Step := rfl
    rw [getD_lt h0] at hs0
    have hcn : cntE w.Frames ≤ 20 * w.Frames.length := cntE_le w.Frames fun f hf => by
      obtain ⟨j, hj, rfl⟩ := List.mem_iff_getElem.1 hf
      have := he j hj
      unfold sFr at this
      rw [getD_lt hj] at this
      simp only [Bool.and_eq_true] at this
      exact histOk_len this.1.1.2
    have hh0 : w.Frames[0].Hist ≠ [] := by
      have := he 0 h0
      unfold sFr at this
      rw [getD_lt h0] at this
      simp only [Bool.and_eq_true, decide_eq_true_iff] at this
      exact this.1.2
    generalize w.Frames[0] = f at *
    have h1 : 0 < f.Hist.length := List.length_pos_iff.2 hh0
    have hg1 := getD_at rEntry h1
    rw [getD_lt h1] at hs0
    generalize f.Hist[0] = e at *
    try dsimp +instances only [go_sem, Nat.reduceBEq, Nat.reduceAdd, Nat.reduceSub, Nat.reduceLT, Nat.reduceLeDiff]
    repeat (simp only [hg0, rFrame_enc, hg1, rEntry_enc, bb, Nat.reduceAdd, Int.reduceToNat, Int.reduceLE, Int.reduceLT, Nat.reduceLT, Nat.reduceMul, Nat.reduceLeDiff]; try dsimp +instances only [go_sem, Nat.reduceBEq, Nat.reduceAdd, Nat.reduceSub, Nat.reduceLT, Nat.reduceLeDiff])
    try simp only [nn, reduceCtorEq, Nat.lt_irrefl]
    exact fun _ => ⟨by omega, by omega, fun _ => by omega, by rw [hS, hs0]⟩
end Go.Gx
end
section
namespace Go.Gx
open Go.Proofs
def markT (k : Int) : Str := if k ≤ 0 then [109, 48] else 109 :: decN k.toNat
attribute [go_sem] Go.Proofs.Tryz.f58
def markStrs : List Str → Int → List Str × Int
  | [], k => ([], k)
  | _ :: r, k => (markT k :: (markStrs r (k + 1)).1, (markStrs r (k + 1)).2)
theorem markStrs_len : ∀ (l : List Str) (k : Int), (markStrs l k).1.length = l.length
  | [], _ => rfl
  | _ :: r, k => by simp [markStrs, markStrs_len r]
attribute [go_sem] Go.Proofs.Tryz.f59
end Go.Gx
end
section
namespace Go.Gx
open Go.Proofs
attribute [go_sem] Go.Proofs.Tryz.f23
attribute [go_sem] Go.Proofs.Tryz.f57
end Go.Gx
end
section
namespace Go.Gx
open Go.Proofs
attribute [go_sem] Go.Proofs.Tryz.f22
end Go.Gx
end
section
namespace Go.Gx
open Go.Proofs
attribute [go_sem] Go.Proofs.Tryz.f60
attribute [go_sem] Go.Proofs.Tryz.f24
end Go.Gx
end
section
namespace Go.Gx
open Go.Proofs
def sumL : List Str → Nat
  | [] => 0
  | s :: r => s.length + sumL r
def szTo (n : Int) (left : Int) : Int := if left - n < 0 then -1 else left - n
def E214 : Env := { T := Tz.tab, G := Gl, C := [], live := [(0, [1, 2]), (1, [1]), (2, [1, 11]), (3, [4]), (4, [4])] }
def ct214 : Ct := .scal (dom2 tHost tInt (fun a left => 0 ≤ left ∧ left ≤ 1048576)) (fn2 tHost tInt fun a left => [tInt.enc (szTo a.Name.length left)])
attribute [go_sem] E214 ct214 Go.Proofs.Tryz.f214
theorem ok214 : CtOk Tryz.prog Gl 214 ct214 := okA2 (E := E214) (sound_of Tz.tab_ok Tz.mixed AllOk.nil) rfl Tryz.func214 (by kernel_rfl) fun a left fa fleft hp => by
  have ga := fa
  have fa := fit_host fa
  have fleft := fit_int fleft
  refine vcFn_intro rfl rfl (by kernel_rfl) rfl ?_
  repeat (dsimp +instances only [go_sem, Nat.reduceBEq, Nat.reduceAdd, Nat.reduceSub, Nat.reduceLT, Nat.reduceLeDiff]; try simp only [bb, Nat.reduceAdd, Int.reduceToNat, Int.reduceLE, Int.reduceLT, Nat.reduceLT, Nat.reduceMul, Nat.reduceLeDiff])
  try simp only [nn, reduceCtorEq]
  (repeat' (first | refine And.intro ?_ ?_ | intro _)) <;> try first | omega | trivial
  all_goals grind (splits := 20) [szTo]
def E89 : Env := { T := Tz.tab, G := Gl, C := [], live := [(0, [0, 1]), (1, [0, 1]), (2, [0, 1, 11]), (3, [4]), (4, [0, 1, 5]), (5, [0, 1, 5, 15]), (6, [0, 1, 5]), (7, [0, 1, 5]), (8, [0, 1, 5, 26]), (9, [4]), (10, [4])] }
def ct89 : Ct := .scal (dom2 tStrs tInt (fun a left => 0 ≤ left ∧ left ≤ 1048576)) (fn2 tStrs tInt fun a left => [tInt.enc (szTo (a.length + sumL a) left)])
attribute [go_sem] E89 ct89 Go.Proofs.Tryz.f89
theorem ok89 : CtOk Tryz.prog Gl 89 ct89 := okA2 (E := E89) (sound_of Tz.tab_ok Tz.mixed AllOk.nil) rfl Tryz.func89 (by kernel_rfl) fun a left fa fleft hp => by
  have ga := fa
  have fa := fit_list fa
  have fleft := fit_int fleft
  refine vcFn_intro rfl rfl (by kernel_rfl) rfl ?_
  obtain ⟨hp0, hp1⟩ := hp
  repeat (dsimp +instances only [go_sem, Nat.reduceBEq, Nat.reduceAdd, Nat.reduceSub, Nat.reduceLT, Nat.reduceLeDiff]; try simp only [bb, Nat.reduceAdd, Int.reduceToNat, Int.reduceLE, Int.reduceLT, Nat.reduceLT, Nat.reduceMul, Nat.reduceLeDiff])
  try simp only [nn, reduceCtorEq]
  refine ⟨by omega, fun h => by rw [szTo, if_pos (by omega)], fun h => ?_⟩
  refine vcC_loop [0, 1, 5] (fun (x : Nat × Int) => x.1 ≤ a.length ∧ 0 ≤ x.2 ∧ x.2 ≤ 1048576 ∧ x.2 - sumL (a.drop x.1) = left - (a.length + sumL a)) (fun x => [.cv (.sl 1 (a.map rStr.enc)), .cv (.int .i64 x.2), .cv (.int .i64 x.1)]) (fun _ => []) (fun x => a.length - x.1) (0, left - a.length) (by simp; omega) ⟨rfl, rfl⟩ ?_
  rintro ⟨i, q⟩ ⟨hi, hq, hq2, he⟩
  simp only at hi hq hq2 he
  rcases Nat.lt_or_ge i a.length with hlt | hge
  · have hg := getD_at rStr hlt
    have hfe := fit_strs ga (List.getElem_mem hlt)
    rw [List.drop_eq_getElem_cons hlt, sumL] at he
    try dsimp +instances only [go_sem, Nat.reduceBEq, Nat.reduceAdd, Nat.reduceSub, Nat.reduceLT, Nat.reduceLeDiff]
    repeat (simp only [hg, rStr_enc, Int.toNat_natCast, bb, Nat.reduceAdd, Int.reduceToNat, Int.reduceLE, Int.reduceLT, Nat.reduceLT, Nat.reduceMul, Nat.reduceLeDiff]; try dsimp +instances only [go_sem, Nat.reduceBEq, Nat.reduceAdd, Nat.reduceSub, Nat.reduceLT, Nat.reduceLeDiff])
    try simp only [nn, reduceCtorEq, hlt, decide_true]
    (repeat' (first | refine And.intro ?_ ?_ | intro _)) <;> try first | omega | trivial
    · skip
      have : 0 ≤ (sumL (a.drop (i + 1)) : Int) := by omega
      simp only [szTo]; rw [if_pos (by omega)]
    · exact ⟨(i + 1, q - (a[i].length : Int)), ⟨by simp only; omega, by simp only; omega, by simp only; omega, by simp only; omega⟩, by simp only; omega, rfl, rfl⟩
  · have : i = a.length := by omega
    subst this
    rw [List.drop_length, sumL] at he
    repeat (dsimp +instances only [go_sem, Nat.reduceBEq, Nat.reduceAdd, Nat.reduceSub, Nat.reduceLT, Nat.reduceLeDiff]; try simp only [bb, Nat.reduceAdd, Int.reduceToNat, Int.reduceLE, Int.reduceLT, Nat.reduceLT, Nat.reduceMul, Nat.reduceLeDiff])
    try simp only [nn, reduceCtorEq, Nat.lt_irrefl]
    rw [szTo, if_neg (by omega)]; omega
def E188 : Env := { T := Tz.tab, G := Gl, C := [(214, ct214), (89, ct89)], live := [(0, [1, 2]), (1, [1, 2]), (2, [1, 2, 11]), (3, [4]), (4, [1, 2]), (5, [1, 2, 18]), (6, [4]), (7, [1, 2]), (8, [1, 2, 25]), (9, [4]), (10, [1, 2]), (11, [1, 2, 31]), (12, [4]), (13, [1, 2]), (14, [1, 2, 37]), (15, [4]), (16, [1, 2]), (17, [1, 2, 44]), (18, [4]), (19, [1, 2]), (20, [1, 2, 51]), (21, [4]), (22, [1]), (23, [1, 58]), (24, [4]), (25, [4])] }
def ct188 : Ct := .scal (dom2 tUrl tInt (fun a left => 0 ≤ left ∧ left ≤ 1048576)) (fn2 tUrl tInt fun a left => [tInt.enc (szTo (a.Scheme.length + a.User.length + a.Pass.length + a.Host.Name.length + (a.Path.length + sumL a.Path) + a.Opaque.length + a.Query.length + a.Frag.length) left)])
attribute [go_sem] E188 ct188 Go.Proofs.Tryz.f188
theorem ok188 : CtOk Tryz.prog Gl 188 ct188 := okA2 (E := E188) (sound_of Tz.tab_ok Tz.mixed (AllOk.cons ok214 (AllOk.cons ok89 AllOk.nil))) rfl Tryz.func188 (by kernel_rfl) fun a left fa fleft hp => by
  have ga := fa
  have fa := fit_url fa
  have fleft := fit_int fleft
  refine vcFn_intro rfl rfl (by kernel_rfl) rfl ?_
  have hf := fit_url ga
  repeat (dsimp +instances only [go_sem, Nat.reduceBEq, Nat.reduceAdd, Nat.reduceSub, Nat.reduceLT, Nat.reduceLeDiff]; try simp only [bb, Nat.reduceAdd, Int.reduceToNat, Int.reduceLE, Int.reduceLT, Nat.reduceLT, Nat.reduceMul, Nat.reduceLeDiff])
  try simp only [nn, reduceCtorEq]
  cases hf
  (repeat' (first | refine And.intro ?_ ?_ | intro _)) <;> try first | omega | trivial
  all_goals grind [szTo]
def E219 : Env := { T := Tz.tab, G := Gl, C := [], live := [(0, [1, 2]), (1, [1, 2, 3]), (2, [1, 2, 3]), (3, [1, 2, 3]), (4, [2, 3]), (5, [2])] }
def ct219 : Ct := .scal (dom1 tHost (fun a => True)) (fn1 tHost fun a => [tHost.enc a])
attribute [go_sem] E219 ct219 Go.Proofs.Tryz.f219
theorem ok219 : CtOk Tryz.prog Gl 219 ct219 := okA1 (E := E219) (sound_of Tz.tab_ok Tz.mixed AllOk.nil) rfl Tryz.func219 (by kernel_rfl) fun a fa hp => by
  have ga := fa
  have fa := fit_host fa
  refine vcFn_intro rfl rfl (by kernel_rfl) rfl ?_
  repeat (dsimp +instances only [go_sem, Nat.reduceBEq, Nat.reduceAdd, Nat.reduceSub, Nat.reduceLT, Nat.reduceLeDiff]; try simp only [bb, Nat.reduceAdd, Int.reduceToNat, Int.reduceLE, Int.reduceLT, Nat.reduceLT, Nat.reduceMul, Nat.reduceLeDiff])
  try simp only [nn, reduceCtorEq]
def E94 : Env := { T := Tz.tab, G := Gl, C := [], live := [(0, [0]), (1, [0, 3]), (2, [0, 3, 4]), (3, [0, 3, 4, 11]), (4, [0, 3, 4]), (5, [0, 3, 4]), (6, [2])] }
def ct94 : Ct := .pure (dom1 tStrs (fun a => True)) (fn1 tStrs fun a => [tStrs.enc a])
attribute [go_sem] E94 ct94 Go.Proofs.Tryz.f94
theorem ok94 : CtOk Tryz.prog Gl 94 ct94 := okA1 (E := E94) (sound_of Tz.tab_ok Tz.mixed AllOk.nil) rfl Tryz.func94 (by kernel_rfl) fun a fa hp => by
  have ga := fa
  have fa := fit_list fa
  refine vcFn_intro rfl rfl (by kernel_rfl) rfl ?_
  repeat (dsimp +instances only [go_sem, Nat.reduceBEq, Nat.reduceAdd, Nat.reduceSub, Nat.reduceLT, Nat.reduceLeDiff]; try simp only [bb, Nat.reduceAdd, Int.reduceToNat, Int.reduceLE, Int.reduceLT, Nat.reduceLT, Nat.reduceMul, Nat.reduceLeDiff])
  try simp only [nn, reduceCtorEq]
  refine ⟨by omega, by omega, ?_⟩
  refine vcC_loop [0, 3, 4] (fun (i : Nat) => i ≤ a.length) (fun i => [.cv (.sl 1 (a.map rStr.enc)), .pth 0 1 0 a.length, .cv (.int .i64 i)]) (fun i => [.row 1 ((a.take i).map rStr.enc ++ List.replicate (a.length - i) [.str []]) []]) (fun i => a.length - i) 0 (by simp) ⟨rfl, rfl⟩ ?_
  intro i hi
  rcases Nat.lt_or_ge i a.length with hlt | hge
  · have hg := getD_at rStr hlt
    have hr : List.replicate (a.length - i) [CV.str []] = [.str []] :: List.replicate (a.length - (i + 1)) [.str []] := by rw [show a.length - i = (a.length - (i + 1)) + 1 by omega]; rfl
    have hl : (a.take i).length = i := by simp; omega
    rw [hr]
    try dsimp +instances only [go_sem, Nat.reduceBEq, Nat.reduceAdd, Nat.reduceSub, Nat.reduceLT, Nat.reduceLeDiff]
    repeat (simp only [hg, rStr_enc, Int.toNat_natCast, bb, Nat.reduceAdd, Int.reduceToNat, Int.reduceLE, Int.reduceLT, Nat.reduceLT, Nat.reduceMul, Nat.reduceLeDiff]; try dsimp +instances only [go_sem, Nat.reduceBEq, Nat.reduceAdd, Nat.reduceSub, Nat.reduceLT, Nat.reduceLeDiff])
    try simp only [nn, reduceCtorEq, hlt, decide_true]
    have g1 : ((a.take i).map rStr.enc ++ [CV.str []] :: List.replicate (a.length - (i + 1)) [CV.str []]).getD i [] = [.str []] := by
      have := getD_mmid rStr.enc (a.take i) (List.replicate (a.length - (i + 1)) [CV.str []]) [CV.str []] []
      rwa [hl] at this
    have g2 : ∀ y, ((a.take i).map rStr.enc ++ [CV.str []] :: List.replicate (a.length - (i + 1)) [CV.str []]).set i y = (a.take i).map rStr.enc ++ y :: List.replicate (a.length - (i + 1)) [CV.str []] := fun y => by
      have := set_mmid rStr.enc (a.take i) (List.replicate (a.length - (i + 1)) [CV.str []]) [CV.str []] y
      rwa [hl] at this
    rw [g1, g2, hl]
    refine ⟨⟨by omega, rfl⟩, by omega, i + 1, by omega, by simp only; omega, rfl, ?_⟩
    simp only
    rw [take_snoc hlt, List.map_append, List.append_assoc]
    rfl
  · have : i = a.length := by omega
    subst this
    repeat (dsimp +instances only [go_sem, Nat.reduceBEq, Nat.reduceAdd, Nat.reduceSub, Nat.reduceLT, Nat.reduceLeDiff]; try simp only [bb, Nat.reduceAdd, Int.reduceToNat, Int.reduceLE, Int.reduceLT, Nat.reduceLT, Nat.reduceMul, Nat.reduceLeDiff])
    try simp only [nn, reduceCtorEq, Nat.lt_irrefl]
    exact fun _ => ⟨by omega, by rw [Nat.sub_self, List.replicate_zero, List.append_nil, List.take_of_length_le (by simp)]⟩
def E191 : Env := { T := Tz.tab, G := Gl, C := [(219, ct219), (94, ct94)], live := [(0, [1, 2]), (1, [1, 2, 3]), (2, [1, 2, 3]), (3, [1, 2, 3]), (4, [1, 2, 3]), (5, [1, 2, 3]), (6, [1, 2, 3]), (7, [1, 2, 3]), (8, [1, 2, 3]), (9, [1, 2, 3]), (10, [1, 2, 3]), (11, [1, 2, 3]), (12, [2, 3]), (13, [2])] }
def ct191 : Ct := .pure (dom1 tUrl (fun a => True)) (fn1 tUrl fun a => [tUrl.enc a])
attribute [go_sem] E191 ct191 Go.Proofs.Tryz.f191
theorem ok191 : CtOk Tryz.prog Gl 191 ct191 := okA1 (E := E191) (sound_of Tz.tab_ok Tz.mixed (AllOk.cons ok219 (AllOk.cons ok94 AllOk.nil))) rfl Tryz.func191 (by kernel_rfl) fun a fa hp => by
  have ga := fa
  have fa := fit_url fa
  refine vcFn_intro rfl rfl (by kernel_rfl) rfl ?_
  repeat (dsimp +instances only [go_sem, Nat.reduceBEq, Nat.reduceAdd, Nat.reduceSub, Nat.reduceLT, Nat.reduceLeDiff]; try simp only [bb, Nat.reduceAdd, Int.reduceToNat, Int.reduceLE, Int.reduceLT, Nat.reduceLT, Nat.reduceMul, Nat.reduceLeDiff])
  try simp only [nn, reduceCtorEq]
end Go.Gx
end
section
namespace Go.Gx
open Go.Proofs
def E149 : Env := { T := Tz.tab, G := Gl, C := [], live := [(0, [2, 3]), (1, [2, 3, 9]), (2, [4]), (3, [2, 3, 14]), (4, [4]), (5, [19]), (6, [4]), (7, [4])] }
def ct149 : Ct := .scal (dom2 tHost tHost (fun a b => True)) (fn2 tHost tHost fun a b => [tBool.enc (decide (a = b))])
attribute [go_sem] E149 ct149 Go.Proofs.Tryz.f149
theorem ok149 : CtOk Tryz.prog Gl 149 ct149 := okA2 (E := E149) (sound_of Tz.tab_ok Tz.mixed AllOk.nil) rfl Tryz.func149 (by kernel_rfl) fun a b fa fb hp => by
  have ga := fa
  have fa := fit_host fa
  have gb := fb
  have fb := fit_host fb
  refine vcFn_intro rfl rfl (by kernel_rfl) rfl ?_
  obtain ⟨a1, a2, a3⟩ := a
  obtain ⟨b1, b2, b3⟩ := b
  repeat (dsimp +instances only [go_sem, Nat.reduceBEq, Nat.reduceAdd, Nat.reduceSub, Nat.reduceLT, Nat.reduceLeDiff]; try simp only [bb, Nat.reduceAdd, Int.reduceToNat, Int.reduceLE, Int.reduceLT, Nat.reduceLT, Nat.reduceMul, Nat.reduceLeDiff])
  try simp only [nn, reduceCtorEq]
  simp only [Host.mk.injEq]
  (repeat' (first | refine And.intro ?_ ?_ | intro _)) <;> try first | omega | trivial
  all_goals grind
def E100 : Env := { T := Tz.tab, G := Gl, C := [], live := [(0, [0, 1]), (1, [0, 1, 10]), (2, [4]), (3, [0, 1, 5]), (4, [0, 1, 5, 14]), (5, [0, 1, 5]), (6, [0, 1, 5, 25]), (7, [4]), (8, [4])] }
def ct100 : Ct := .scal (dom2 tStrs tStrs (fun a b => True)) (fn2 tStrs tStrs fun a b => [tBool.enc (decide (a = b))])
attribute [go_sem] E100 ct100 Go.Proofs.Tryz.f100
theorem ok100 : CtOk Tryz.prog Gl 100 ct100 := okA2 (E := E100) (sound_of Tz.tab_ok Tz.mixed AllOk.nil) rfl Tryz.func100 (by kernel_rfl) fun a b fa fb hp => by
  have ga := fa
  have fa := fit_list fa
  have gb := fb
  have fb := fit_list fb
  refine vcFn_intro rfl rfl (by kernel_rfl) rfl ?_
  repeat (dsimp +instances only [go_sem, Nat.reduceBEq, Nat.reduceAdd, Nat.reduceSub, Nat.reduceLT, Nat.reduceLeDiff]; try simp only [bb, Nat.reduceAdd, Int.reduceToNat, Int.reduceLE, Int.reduceLT, Nat.reduceLT, Nat.reduceMul, Nat.reduceLeDiff])
  try simp only [nn, reduceCtorEq]
  refine ⟨fun h => ?_, fun h => ?_⟩
  · rw [eq_comm, decide_eq_false_iff_not]; rintro rfl; exact h rfl
  refine vcC_loop [0, 1, 5] (fun (i : Nat) => i ≤ a.length ∧ a.take i = b.take i) (fun i => [.cv (.sl 1 (a.map rStr.enc)), .cv (.sl 1 (b.map rStr.enc)), .cv (.int .i64 i)]) (fun _ => []) (fun i => a.length - i) 0 (by simp) ⟨rfl, rfl⟩ ?_
  rintro i ⟨hi, he⟩
  rcases Nat.lt_or_ge i a.length with hlt | hge
  · have hlt2 : i < b.length := by omega
    have hg := getD_at rStr hlt
    have hg2 := getD_at rStr hlt2
    try dsimp +instances only [go_sem, Nat.reduceBEq, Nat.reduceAdd, Nat.reduceSub, Nat.reduceLT, Nat.reduceLeDiff]
    repeat (simp only [hg, hg2, rStr_enc, Int.toNat_natCast, bb, Nat.reduceAdd, Int.reduceToNat, Int.reduceLE, Int.reduceLT, Nat.reduceLT, Nat.reduceMul, Nat.reduceLeDiff]; try dsimp +instances only [go_sem, Nat.reduceBEq, Nat.reduceAdd, Nat.reduceSub, Nat.reduceLT, Nat.reduceLeDiff])
    try simp only [nn, reduceCtorEq, hlt, hlt2, decide_true]
    (repeat' (first | refine And.intro ?_ ?_ | intro _)) <;> try first | omega | trivial
    · rename_i h9
      rw [eq_comm, decide_eq_false_iff_not]; rintro rfl; exact h9 rfl
    · rename_i h9
      refine nextL_intro (i + 1) ⟨by omega, by rw [take_snoc hlt, take_snoc hlt2, he, h9]⟩ (by omega) rfl rfl
  · have : i = a.length := by omega
    subst this
    rw [List.take_length, h, List.take_length] at he
    repeat (dsimp +instances only [go_sem, Nat.reduceBEq, Nat.reduceAdd, Nat.reduceSub, Nat.reduceLT, Nat.reduceLeDiff]; try simp only [bb, Nat.reduceAdd, Int.reduceToNat, Int.reduceLE, Int.reduceLT, Nat.reduceLT, Nat.reduceMul, Nat.reduceLeDiff])
    try simp only [nn, reduceCtorEq, Nat.lt_irrefl]
    simp [he]
def E109 : Env := { T := Tz.tab, G := Gl, C := [(149, ct149), (100, ct100)], live := [(0, [2, 3]), (1, [2, 3, 9]), (2, [4]), (3, [2, 3, 14]), (4, [4]), (5, [2, 3, 19]), (6, [4]), (7, [2, 3, 25]), (8, [4]), (9, [2, 3, 30]), (10, [4]), (11, [2, 3, 36]), (12, [4]), (13, [2, 3, 41]), (14, [4]), (15, [2, 3, 46]), (16, [4]), (17, [2, 3, 51]), (18, [4]), (19, [2, 3, 56]), (20, [4]), (21, [61]), (22, [4]), (23, [4])] }
def ct109 : Ct := .scal (dom2 tUrl tUrl (fun a b => True)) (fn2 tUrl tUrl fun a b => [tBool.enc (decide (a = b))])
attribute [go_sem] E109 ct109 Go.Proofs.Tryz.f109
set_option maxHeartbeats 1000000 in
theorem ok109 : CtOk Tryz.prog Gl 109 ct109 := okA2 (E := E109) (sound_of Tz.tab_ok Tz.mixed (AllOk.cons ok149 (AllOk.cons ok100 AllOk.nil))) rfl Tryz.func109 (by kernel_rfl) fun a b fa fb hp => by
  have ga := fa
  have fa := fit_url fa
  have gb := fb
  have fb := fit_url fb
  refine vcFn_intro rfl rfl (by kernel_rfl) rfl ?_
  repeat (dsimp +instances only [go_sem, Nat.reduceBEq, Nat.reduceAdd, Nat.reduceSub, Nat.reduceLT, Nat.reduceLeDiff]; try simp only [bb, Nat.reduceAdd, Int.reduceToNat, Int.reduceLE, Int.reduceLT, Nat.reduceLT, Nat.reduceMul, Nat.reduceLeDiff])
  try simp only [nn, reduceCtorEq]
  have hne : ∀ {α : Type} (f : Url → α), ¬ f a = f b → false = decide (a = b) := fun f h => by
    rw [eq_comm, decide_eq_false_iff_not]; rintro rfl; exact h rfl
  obtain ⟨a1, a2, a3, a4, a5, a6, a7, a8, a9, a10, a11⟩ := a
  obtain ⟨b1, b2, b3, b4, b5, b6, b7, b8, b9, b10, b11⟩ := b
  simp only [Url.mk.injEq]
  clear ga gb fa fb hne
  (repeat' (first | refine And.intro ?_ ?_ | intro _)) <;> try first | omega | trivial
  all_goals grind
end Go.Gx
end
